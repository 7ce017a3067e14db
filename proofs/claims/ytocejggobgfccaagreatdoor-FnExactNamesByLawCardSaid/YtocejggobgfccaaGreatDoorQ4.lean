/- The reader of terms, for the reference: contracts. -/
import Derived.Test.YtocejggobgfccaaGreatDoorQ3
import Derived.OwnWalk
import Derived.Test.YtocejggobgfccaaGreatDoorQ1
namespace Go.Proofs.YtocejggobgfccaaGreatDoor
set_option linter.unusedSimpArgs false
set_option linter.unusedVariables false
open Go Go.RowKit

/-- A side, if operands are read by p. -/
def sideOf (l : List Nat) (p : Nat → Option (List Nat × Nat)) (k : Nat) : Option (List Nat × Nat) :=
  match p k with
  | none => none
  | some (a, k1) => if isOpB (l.getD k1 0) = false then some (a, k1) else match p (k1 + 1) with | none => none | some (b, k2) => some (a ++ b ++ [l.getD k1 0], k2)
def opK (l : List Nat) : Nat → Nat → Option (List Nat × Nat)
  | 0, k => if isLeafB (l.getD k 0) = true then some ([l.getD k 0], k + 1) else none
  | n + 1, k => if isLeafB (l.getD k 0) = true then some ([l.getD k 0], k + 1) else if l.getD k 0 = 40 then
      (match sideOf l (opK l n) (k + 1) with | none => none | some (t, k2) => if t.length = 1 ∨ l.getD k2 0 ≠ 41 then none else some (t, k2 + 1)) else none
/-- What is read is not too long, and the reader goes on. -/
def SdB (l : List Nat) (k : Nat) (o : Option (List Nat × Nat)) : Prop := ∀ a k', o = some (a, k') → k' ≤ l.length ∧ k < k' ∧ a.length ≤ 2 * (k' - k)
theorem leafB_lt {l : List Nat} {k : Nat} (h : isLeafB (l.getD k 0) = true) : k < l.length := getD_ltz fun e => by rw [e] at h; cases h
theorem sideOf_b {l : List Nat} {p : Nat → Option (List Nat × Nat)} (hp : ∀ k, SdB l k (p k)) (k : Nat) : SdB l k (sideOf l p k) := by
  intro a k' h
  unfold sideOf at h
  split at h
  · cases h
  · rename_i a1 k1 h1
    have b1 := hp k a1 k1 h1
    split at h
    · cases h; exact b1
    · split at h
      · cases h
      · rename_i b2 k2 h2
        have b2' := hp (k1 + 1) b2 k2 h2
        cases h
        refine ⟨b2'.1, by omega, ?_⟩
        simp only [List.length_append, List.length_singleton]
        omega
theorem opK_b (l : List Nat) : ∀ n k, SdB l k (opK l n k)
  | 0, k => fun a k' h => by
    unfold opK at h
    split at h
    · rename_i hl; cases h; exact ⟨leafB_lt hl, by omega, by simp⟩
    · cases h
  | n + 1, k => fun a k' h => by
    unfold opK at h
    split at h
    · rename_i hl; cases h; exact ⟨leafB_lt hl, by omega, by simp⟩
    · split at h
      · split at h
        · cases h
        · rename_i t k2 h2
          have b := sideOf_b (fun k => opK_b l n k) (k + 1) t k2 h2
          split at h
          · cases h
          · rename_i hc
            cases h
            have : k2 < l.length := getD_ltz (by rw [not_or] at hc; omega)
            exact ⟨by omega, by omega, by omega⟩
      · cases h

/-- What a reader hands back. -/
def SdPost (k : Nat) (o : Option (List Nat × Nat)) (w : World) (e : Ending) (w' : World) : Prop :=
  match o with
  | none => e = .returned (.tuple #[.slice none 0 0, .int .i64 (k : Int), .bool false]) ∧ Below w.heap.size w w'
  | some (xs, k') => ∃ v, e = .returned (.tuple #[v, .int .i64 (k' : Int), .bool true]) ∧ Mm no w w' [.row w.heap.size v xs.length (u8s xs) 5 1]
def Sdr (f : Nat) (l : List Nat) (n : Nat) (p : Nat → Option (List Nat × Nat)) : Prop :=
  ∀ k w, k ≤ l.length → l.length - k ≤ n → Calls Tryz.prog f #[.string (str l), .int .i64 (k : Int)] w (SdPost k (p k) w)

def sd7R : Nat → List Nat
  | 0 => []
  | 1 => []
  | 2 => [0, 1]
  | 3 => []
  | 4 => []
  | 5 => [3, 4]
  | 6 => [3, 4, 5]
  | 7 => [0, 1, 2, 3, 4, 5, 6]
  | 8 => []
  | 9 => [0, 1, 2, 3, 4, 5, 6, 7]
  | 10 => [0, 1, 2, 3, 4, 5, 6, 7, 8, 9]
  | 11 => [0, 1, 2, 3, 4, 5, 6, 7, 8, 9, 10]
  | _ => []
def sd7P (a b : List Nat) (c k1 k2 : Nat) (p1 p2 : Option Addr) (q1 q2 : Nat) (l : List Nat) (B0 : Nat) : Nat → (Nat → Bool) → (Nat → Value) → List Ent → Prop
  | 0, _, g, E => g 0 = .slice p1 a.length q1 ∧ E = []
  | 1, _, g, E => g 1 = .slice p2 b.length q2 ∧ E = []
  | 2, _, g, E => E = []
  | 3, _, g, E => g 3 = .string (str l) ∧ E = []
  | 4, _, g, E => g 4 = .int .i64 (k1 : Int) ∧ E = []
  | 5, _, g, E => g 5 = .int .u8 (c : Int) ∧ E = []
  | 6, _, g, E => ∃ bi, g 6 = .slice (some ⟨bi, 0, none⟩) 1 1 ∧ E = [.box bi #[.int .u8 (c : Int)] 5]
  | 7, _, g, E => E = []
  | 8, _, g, E => g 8 = .int .i64 (k2 : Int) ∧ E = []
  | 9, _, g, E => g 9 = g 7 ∧ E = []
  | 10, _, g, E => g 10 = .int .i64 (k2 : Int) ∧ E = []
  | 11, _, g, E => g 11 = .bool true ∧ E = []
  | 12, D, g, E => (D 7 = true ∧ E = [.row B0 (g 7) (a.length + b.length + 1) (u8s a ++ u8s b ++ [.int .u8 (c : Int)]) 5 1]) ∨ (D 7 = false ∧ D 2 = true ∧ E = [.row B0 (g 2) (a.length + b.length) (u8s a ++ u8s b) 5 1]) ∨ (D 7 = false ∧ D 2 = false ∧ E = [.row B0 (.slice p1 a.length q1) a.length (u8s a) 5 1])
  | _, _, _, _ => False
def sd7W (j : Nat) : List Nat := if j = 12 then [2, 7] else []
theorem sd7S (a b : List Nat) (c k1 k2 : Nat) (p1 p2 : Option Addr) (q1 q2 : Nat) (l : List Nat) (B0 : Nat) : Stable (sd7P a b c k1 k2 p1 p2 q1 q2 l B0) sd7R sd7W := fun i k D g u E hki hkR hkW h => by
  match i with
  | 0 =>
    have e0 : updG g k u 0 = g 0 := updG_ne (g := g) (u := u) (Ne.symm hki)
    simp only [sd7P, e0]; exact h
  | 1 =>
    have e1 : updG g k u 1 = g 1 := updG_ne (g := g) (u := u) (Ne.symm hki)
    simp only [sd7P, e1]; exact h
  | 2 =>
    simp only [sd7P, ]; exact h
  | 3 =>
    have e3 : updG g k u 3 = g 3 := updG_ne (g := g) (u := u) (Ne.symm hki)
    simp only [sd7P, e3]; exact h
  | 4 =>
    have e4 : updG g k u 4 = g 4 := updG_ne (g := g) (u := u) (Ne.symm hki)
    simp only [sd7P, e4]; exact h
  | 5 =>
    have e5 : updG g k u 5 = g 5 := updG_ne (g := g) (u := u) (Ne.symm hki)
    simp only [sd7P, e5]; exact h
  | 6 =>
    have e6 : updG g k u 6 = g 6 := updG_ne (g := g) (u := u) (Ne.symm hki)
    simp only [sd7P, e6]; exact h
  | 7 =>
    simp only [sd7P, ]; exact h
  | 8 =>
    have e8 : updG g k u 8 = g 8 := updG_ne (g := g) (u := u) (Ne.symm hki)
    simp only [sd7P, e8]; exact h
  | 9 =>
    have e9 : updG g k u 9 = g 9 := updG_ne (g := g) (u := u) (Ne.symm hki)
    have e7 : updG g k u 7 = g 7 := updG_ne (g := g) (u := u) (i := k) (j := 7) (fun e => hkR (by rw [← e]; decide))
    simp only [sd7P, e9, e7]; exact h
  | 10 =>
    have e10 : updG g k u 10 = g 10 := updG_ne (g := g) (u := u) (Ne.symm hki)
    simp only [sd7P, e10]; exact h
  | 11 =>
    have e11 : updG g k u 11 = g 11 := updG_ne (g := g) (u := u) (Ne.symm hki)
    simp only [sd7P, e11]; exact h
  | 12 =>
    have hkW' : k ∉ ([2, 7] : List Nat) := hkW
    simp only [List.mem_cons, List.not_mem_nil, or_false, not_or] at hkW'
    have e2 : updG g k u 2 = g 2 := updG_ne (by omega)
    have d2 : updD D k 2 = D 2 := updD_ne (by omega)
    have e7 : updG g k u 7 = g 7 := updG_ne (by omega)
    have d7 : updD D k 7 = D 7 := updD_ne (by omega)
    simp only [sd7P, e2, d2, e7, d7]; exact h
  | n + 13 => exact h.elim


set_option maxRecDepth 100000 in
set_option maxHeartbeats 4000000 in
theorem side_of (l : List Nat) (hl : l.length ≤ 1000) (hb : Byts l) (n : Nat) (p : Nat → Option (List Nat × Nat)) (hp : Sdr 70 l n p) (hB : ∀ k, SdB l k (p k)) : Sdr 49 l n (sideOf l p) := by
  intro k w hk hn
  have M := Mm.start no w
  have H1 := Hid2.mk (fun w1 => hp k w1 hk hn)
  have hsz := str_size l
  have HT := Hid2.mk (show sideOf l p k = (match p k with | none => none | some (a, k1) => if isOpB (l.getD k1 0) = false then some (a, k1) else match p (k1 + 1) with | none => none | some (b, k2) => some (a ++ b ++ [l.getD k1 0], k2)) from rfl)
  generalize sideOf l p k = res at HT ⊢
  have hb1 := hB k
  rcases hpk : p k with _ | ⟨a, k1⟩
  · rw [hpk] at H1 HT
    have hres : res = none := HT.out
    subst hres
    clear HT hb1 hpk hp hB
    go_enter Tryz.func49, Tryz.ntmps49
    go_wp2_with (first | (go_at_call 70; fail))
    refine (H1.out _).mono ?_
    rintro e w1 ⟨rfl, hb⟩
    have M9 := M.later hb
    clear M; (try clear C)
    have M := M9
    clear M9 hb
    go_wp2
    go_ret3
    exact ⟨rfl, M.below⟩
  · obtain ⟨hk1, hkk, hla⟩ := hb1 a k1 hpk
    rw [hpk] at H1 HT
    have HT2 := Hid2.mk (show res = (if isOpB (l.getD k1 0) = false then some (a, k1) else match p (k1 + 1) with | none => none | some (b, k2) => some (a ++ b ++ [l.getD k1 0], k2)) from HT.out)
    clear HT hb1 hpk
    go_enter Tryz.func49, Tryz.ntmps49
    go_wp2_with (first | (go_at_call 70; fail))
    refine (H1.out _).mono ?_
    rintro e w1 ⟨v, rfl, M'⟩
    have M9 := M.joinRow M'
    obtain ⟨pp1, cap1, rfl⟩ := own_form (M9.row 0 rfl)
    clear M; (try clear C)
    have M := M9
    clear M9 M' H1
    have C := M.ruleAll; simp only [Go.Proofs.YtocejggobgfccaaGreatDoor.ruleAll] at C
    by_cases hlt : k1 < l.length
    · have h1 : ¬ ((l.length : Int) ≤ (k1 : Int)) := by omega
      have hix := ix_str hb k1 hlt
      by_cases ho : isOpB (l.getD k1 0) = false
      · have HR := HT2.out
        rw [if_pos ho] at HR
        subst HR
        have HO := fun w1 => l03Op_b (l.getD k1 0) false ho w1
        generalize l.getD k1 0 = b at hix HO
        clear HT2 hp hB ho
        go_wp2_with (first | (go_at_call 71; ((with_reducible refine (HO _).mono ?_); rintro e w1 ⟨rfl, rfl⟩)))
        go_ret3
        exact ⟨_, rfl, M⟩
      · have HR := HT2.out
        rw [if_neg ho] at HR
        have HO := fun w1 => l03Op_b (l.getD k1 0) true (by simpa using ho) w1
        have H2 := Hid2.mk (fun w1 => hp (k1 + 1) w1 (by omega) (by omega))
        have hb2 := hB (k1 + 1)
        clear HT2 hp hB ho
        rcases hpk : p (k1 + 1) with _ | ⟨b, k2⟩
        · rw [hpk] at H2 HR
          have hres : res = none := HR
          subst hres
          generalize l.getD k1 0 = c at hix HO
          clear hpk hb2 HR
          go_wp2_with (first | (go_at_call 71; ((with_reducible refine (HO _).mono ?_); rintro e w1 ⟨rfl, rfl⟩)) | (go_at_call 70; fail))
          refine (H2.out _).mono ?_
          rintro e w1 ⟨rfl, hb⟩
          have M9 := M.later hb
          clear M; (try clear C)
          have M := M9
          clear M9 hb
          go_wp2
          go_ret3
          exact ⟨rfl, M.below⟩
        · obtain ⟨hk2, hkk2, hlb⟩ := hb2 b k2 hpk
          rw [hpk] at H2 HR
          have hres : res = some (a ++ b ++ [l.getD k1 0], k2) := HR
          have HRES := Hid2.mk hres
          generalize l.getD k1 0 = c at hix HO HRES
          clear hpk hb2 HR hres
          go_wp2_with (first | (go_at_call 71; ((with_reducible refine (HO _).mono ?_); rintro e w1 ⟨rfl, rfl⟩)) | (go_at_call 70; fail))
          refine (H2.out _).mono ?_
          rintro e w1 ⟨v, rfl, M'⟩
          have M9 := M.joinRow M'
          obtain ⟨pp2, cap2, rfl⟩ := own_form (M9.row 0 rfl)
          clear M; (try clear C)
          have M := M9
          clear M9 M' H2
          have HL := Hid2.mk (show a.length + b.length ≤ maxLen ∧ (a.length + b.length) * 1 ≤ 140737488355328 from ⟨by simp only [maxLen]; omega, by omega⟩)
          have HL3 := Hid2.mk (show (a.length + b.length + 1) * 1 ≤ 140737488355328 by omega)
          go_wp2
          refine wp_region_own (fun D g w' => GrS 13 (sd7P a b c k1 k2 pp1 pp2 cap1 cap2 l w.heap.size) sd7R w [.row w.heap.size (.slice pp2 b.length cap2) b.length (u8s b) 5 1] (psD 12 D) g w') (by kernel_rfl) (by kernel_rfl) (fun _ => undef) (GrS.start2 (E0 := [.row w.heap.size (.slice pp1 a.length cap1) a.length (u8s a) 5 1]) (by decide) rfl (M.sub [1, 0] (by decide)) _ (.inr (.inr ⟨rfl, rfl, rfl⟩))) ?hs_sd7 ?hQ_sd7
          case hs_sd7 =>
            clear M
            try clear C
            intro i o hi D g w2 hi0 hpre S
            have hlt : i < 12 := by have := (List.getElem?_eq_some_iff.1 hi).1; simpa using this
            obtain rfl | rfl | rfl | rfl | rfl | rfl | rfl | rfl | rfl | rfl | rfl | rfl : i = 0 ∨ i = 1 ∨ i = 2 ∨ i = 3 ∨ i = 4 ∨ i = 5 ∨ i = 6 ∨ i = 7 ∨ i = 8 ∨ i = 9 ∨ i = 10 ∨ i = 11 := by omega
            · simp only [List.getElem?_cons_succ, List.getElem?_cons_zero, Option.some.injEq] at hi
              subst hi
              have M := S.base
              have HI0 : psD 12 D 0 = false := (psD_ne (by decide)).trans hi0
              clear hi0
              have hi0 := HI0
              have HR : ∀ j ∈ sd7R 0, psD 12 D j = true := (fun _ h => by cases h)
              have HW : ∀ j, psD 12 D j = true → 0 ∉ sd7W j := fun j _ h => by unfold sd7W at h; split at h <;> simp at h
              have hst := sd7S a b c k1 k2 pp1 pp2 cap1 cap2 l w.heap.size
              refine ⟨⟨#[undef, undef, undef, undef, undef, undef, undef, .slice pp1 a.length cap1, undef, undef, undef, undef, undef, undef, undef, undef, undef, undef, undef, undef, undef, undef, undef, undef, undef, undef, undef, undef, undef, undef, undef, undef, undef, undef, undef, undef, undef, undef, undef, undef, undef, undef, undef, undef, undef, undef, undef, undef, undef, undef, undef, undef, undef, undef, undef, undef, undef, undef, undef, undef], []⟩, ?_, ?_⟩
              · intro t ht
                have ht' : t ∈ ([7] : List Nat) := ht
                simp only [List.mem_cons, List.not_mem_nil, or_false] at ht'
                subst ht'
                exact rfl
              · skip
                simp only [psD_upd]
                have C := M.ruleAll; simp only [Go.Proofs.YtocejggobgfccaaGreatDoor.ruleAll] at C
                refine yield_walk (ops := #[]) rfl rfl (show 49 < 60 by decide) ?_
                go_wp2
                exact S.val (i := 0) hst (by decide) hi0 HR HW (Below.refl _ _) ⟨updG_at .., rfl⟩
            · simp only [List.getElem?_cons_succ, List.getElem?_cons_zero, Option.some.injEq] at hi
              subst hi
              have M := S.base
              have HI0 : psD 12 D 1 = false := (psD_ne (by decide)).trans hi0
              clear hi0
              have hi0 := HI0
              have HR : ∀ j ∈ sd7R 1, psD 12 D j = true := (fun _ h => by cases h)
              have HW : ∀ j, psD 12 D j = true → 1 ∉ sd7W j := fun j _ h => by unfold sd7W at h; split at h <;> simp at h
              have hst := sd7S a b c k1 k2 pp1 pp2 cap1 cap2 l w.heap.size
              refine ⟨⟨#[undef, undef, undef, undef, undef, undef, undef, undef, undef, undef, .slice pp2 b.length cap2, undef, undef, undef, undef, undef, undef, undef, undef, undef, undef, undef, undef, undef, undef, undef, undef, undef, undef, undef, undef, undef, undef, undef, undef, undef, undef, undef, undef, undef, undef, undef, undef, undef, undef, undef, undef, undef, undef, undef, undef, undef, undef, undef, undef, undef, undef, undef, undef, undef], []⟩, ?_, ?_⟩
              · intro t ht
                have ht' : t ∈ ([10] : List Nat) := ht
                simp only [List.mem_cons, List.not_mem_nil, or_false] at ht'
                subst ht'
                exact rfl
              · skip
                simp only [psD_upd]
                have C := M.ruleAll; simp only [Go.Proofs.YtocejggobgfccaaGreatDoor.ruleAll] at C
                refine yield_walk (ops := #[]) rfl rfl (show 50 < 60 by decide) ?_
                go_wp2
                exact S.val (i := 1) hst (by decide) hi0 HR HW (Below.refl _ _) ⟨updG_at .., rfl⟩
            · simp only [List.getElem?_cons_succ, List.getElem?_cons_zero, Option.some.injEq] at hi
              subst hi
              have d0 : psD 12 D 0 = true := psD_of (hpre _ (Array.mem_of_getElem? (i := 0) rfl) rfl)
              have d1 : psD 12 D 1 = true := psD_of (hpre _ (Array.mem_of_getElem? (i := 1) rfl) rfl)
              obtain ⟨E, P, M⟩ := S.get [0, 1] (by decide) (by intro j hj; simp only [List.mem_cons, List.not_mem_nil, or_false] at hj; rcases hj with rfl | rfl <;> assumption)
              obtain ⟨e0, E0⟩ : g 0 = .slice pp1 a.length cap1 ∧ E 0 = [] := P 0 (by decide)
              obtain ⟨e1, E1⟩ : g 1 = .slice pp2 b.length cap2 ∧ E 1 = [] := P 1 (by decide)
              simp only [List.flatMap_cons, List.flatMap_nil, List.append_nil, E0, E1, List.cons_append, List.nil_append] at M
              clear P
              have HI0 : psD 12 D 2 = false := (psD_ne (by decide)).trans hi0
              clear hi0
              have hi0 := HI0
              have HR : ∀ j ∈ sd7R 2, psD 12 D j = true := (by intro j hj; have hj' : j ∈ ([0, 1] : List Nat) := hj; simp only [List.mem_cons, List.not_mem_nil, or_false] at hj'; rcases hj' with rfl | rfl <;> assumption)
              have HW : ∀ j, psD 12 D j = true → j ≠ 12 → 2 ∉ sd7W j := fun j _ hne h => by unfold sd7W at h; rw [if_neg hne] at h; cases h
              have hst := sd7S a b c k1 k2 pp1 pp2 cap1 cap2 l w.heap.size
              clear M
              obtain ⟨E', X, P, M, FIN⟩ := S.writeK (i := 2) hst (by decide) hi0 HR HW (psD_at ..) [] (by decide) (by intro j hj; cases hj)
              have P0 := P 12 (by decide)
              obtain ⟨h7, E12⟩ : psD 12 D 7 = false ∧ E' 12 = [.row w.heap.size (.slice pp1 a.length cap1) a.length (u8s a) 5 1] := by
                rcases P0 with ⟨h, _⟩ | ⟨_, h, _⟩ | ⟨h, _, h2⟩
                · have := S.anc 7 h 2 (by decide); rw [hi0] at this; cases this
                · rw [hi0] at h; cases h
                · exact ⟨h, h2⟩
              simp only [E12, List.flatMap_cons, List.flatMap_nil, List.append_nil, List.cons_append, List.nil_append] at M
              clear P
              refine ⟨⟨#[undef, undef, undef, undef, undef, undef, undef, undef, undef, undef, undef, undef, undef, undef, undef, undef, undef, undef, undef, undef, undef, undef, undef, undef, undef, undef, undef, undef, undef, undef, undef, undef, undef, undef, undef, undef, undef, undef, undef, undef, undef, undef, undef, undef, undef, undef, undef, undef, undef, .slice pp1 a.length cap1, .slice pp2 b.length cap2, undef, undef, undef, undef, undef, undef, undef, undef, undef], []⟩, ?_, ?_⟩
              · intro t ht
                have ht' : t ∈ ([49, 50] : List Nat) := ht
                simp only [List.mem_cons, List.not_mem_nil, or_false] at ht'
                rcases ht' with rfl | rfl
                · exact e0.symm
                · exact e1.symm
              · skip
                simp only [psD_upd]
                refine yield_walk (ops := #[]) rfl rfl (show 51 < 60 by decide) ?_
                have C := M.ruleAll; simp only [Go.Proofs.YtocejggobgfccaaGreatDoor.ruleAll] at C
                go_wp2_with (first | ((with_reducible apply wpM_appr M 41 0 1 (w.heap.size) (.slice pp1 a.length cap1) (a.length) (u8s a) 5 1 (w.heap.size) (pp2) (cap2) (b.length) (u8s b)); rfl; rfl; rfl; rfl; rfl; rfl; (first | exact .inl (Nat.le_refl _) | exact .inl (by assumption) | exact .inr (by assumption) | exact .inr HDv.out); (first | exact M.size | (have hq := M.size; omega)); exact und_sl8b; exact inf_el8b; rfl; exact u8s_one b; exact HL.out.1; exact HL.out.2; clear M; (try clear C); intro v2 w9 far_v2 M; simp only [List.set_cons_zero, List.set_cons_succ, entBlk, entT, List.getElem?_cons_zero, List.getElem?_cons_succ] at M; obtain ⟨pp_v2, cap_v2, rfl⟩ := own_form (M.row 0 rfl); have C := M.ruleAll; simp only [Go.Proofs.YtocejggobgfccaaGreatDoor.ruleAll] at C))
                refine FIN _ _ [.row w.heap.size (.slice pp_v2 (a.length + b.length) cap_v2) (a.length + b.length) (u8s a ++ u8s b) 5 1] M (.inr (.inl ⟨(updD_ne (by decide)).trans h7, updD_at .., by rw [updG_at]⟩)) rfl
            · simp only [List.getElem?_cons_succ, List.getElem?_cons_zero, Option.some.injEq] at hi
              subst hi
              have M := S.base
              have HI0 : psD 12 D 3 = false := (psD_ne (by decide)).trans hi0
              clear hi0
              have hi0 := HI0
              have HR : ∀ j ∈ sd7R 3, psD 12 D j = true := (fun _ h => by cases h)
              have HW : ∀ j, psD 12 D j = true → 3 ∉ sd7W j := fun j _ h => by unfold sd7W at h; split at h <;> simp at h
              have hst := sd7S a b c k1 k2 pp1 pp2 cap1 cap2 l w.heap.size
              refine ⟨⟨#[.string (str l), undef, undef, undef, undef, undef, undef, undef, undef, undef, undef, undef, undef, undef, undef, undef, undef, undef, undef, undef, undef, undef, undef, undef, undef, undef, undef, undef, undef, undef, undef, undef, undef, undef, undef, undef, undef, undef, undef, undef, undef, undef, undef, undef, undef, undef, undef, undef, undef, undef, undef, undef, undef, undef, undef, undef, undef, undef, undef, undef], []⟩, ?_, ?_⟩
              · intro t ht
                have ht' : t ∈ ([0] : List Nat) := ht
                simp only [List.mem_cons, List.not_mem_nil, or_false] at ht'
                subst ht'
                exact rfl
              · skip
                simp only [psD_upd]
                have C := M.ruleAll; simp only [Go.Proofs.YtocejggobgfccaaGreatDoor.ruleAll] at C
                refine yield_walk (ops := #[]) rfl rfl (show 52 < 60 by decide) ?_
                go_wp2
                exact S.val (i := 3) hst (by decide) hi0 HR HW (Below.refl _ _) ⟨updG_at .., rfl⟩
            · simp only [List.getElem?_cons_succ, List.getElem?_cons_zero, Option.some.injEq] at hi
              subst hi
              have M := S.base
              have HI0 : psD 12 D 4 = false := (psD_ne (by decide)).trans hi0
              clear hi0
              have hi0 := HI0
              have HR : ∀ j ∈ sd7R 4, psD 12 D j = true := (fun _ h => by cases h)
              have HW : ∀ j, psD 12 D j = true → 4 ∉ sd7W j := fun j _ h => by unfold sd7W at h; split at h <;> simp at h
              have hst := sd7S a b c k1 k2 pp1 pp2 cap1 cap2 l w.heap.size
              refine ⟨⟨#[undef, undef, undef, undef, undef, undef, undef, undef, .int .i64 (k1 : Int), undef, undef, undef, undef, undef, undef, undef, undef, undef, undef, undef, undef, undef, undef, undef, undef, undef, undef, undef, undef, undef, undef, undef, undef, undef, undef, undef, undef, undef, undef, undef, undef, undef, undef, undef, undef, undef, undef, undef, undef, undef, undef, undef, undef, undef, undef, undef, undef, undef, undef, undef], []⟩, ?_, ?_⟩
              · intro t ht
                have ht' : t ∈ ([8] : List Nat) := ht
                simp only [List.mem_cons, List.not_mem_nil, or_false] at ht'
                subst ht'
                exact rfl
              · skip
                simp only [psD_upd]
                have C := M.ruleAll; simp only [Go.Proofs.YtocejggobgfccaaGreatDoor.ruleAll] at C
                refine yield_walk (ops := #[]) rfl rfl (show 53 < 60 by decide) ?_
                go_wp2
                exact S.val (i := 4) hst (by decide) hi0 HR HW (Below.refl _ _) ⟨updG_at .., rfl⟩
            · simp only [List.getElem?_cons_succ, List.getElem?_cons_zero, Option.some.injEq] at hi
              subst hi
              have d3 : psD 12 D 3 = true := psD_of (hpre _ (Array.mem_of_getElem? (i := 0) rfl) rfl)
              have d4 : psD 12 D 4 = true := psD_of (hpre _ (Array.mem_of_getElem? (i := 1) rfl) rfl)
              obtain ⟨E, P, M⟩ := S.get [3, 4] (by decide) (by intro j hj; simp only [List.mem_cons, List.not_mem_nil, or_false] at hj; rcases hj with rfl | rfl <;> assumption)
              obtain ⟨e3, E3⟩ : g 3 = .string (str l) ∧ E 3 = [] := P 3 (by decide)
              obtain ⟨e4, E4⟩ : g 4 = .int .i64 (k1 : Int) ∧ E 4 = [] := P 4 (by decide)
              simp only [List.flatMap_cons, List.flatMap_nil, List.append_nil, E3, E4, List.cons_append, List.nil_append] at M
              clear P
              have HI0 : psD 12 D 5 = false := (psD_ne (by decide)).trans hi0
              clear hi0
              have hi0 := HI0
              have HR : ∀ j ∈ sd7R 5, psD 12 D j = true := (by intro j hj; have hj' : j ∈ ([3, 4] : List Nat) := hj; simp only [List.mem_cons, List.not_mem_nil, or_false] at hj'; rcases hj' with rfl | rfl <;> assumption)
              have HW : ∀ j, psD 12 D j = true → 5 ∉ sd7W j := fun j _ h => by unfold sd7W at h; split at h <;> simp at h
              have hst := sd7S a b c k1 k2 pp1 pp2 cap1 cap2 l w.heap.size
              refine ⟨⟨#[undef, undef, undef, undef, undef, undef, undef, undef, undef, undef, undef, undef, undef, undef, undef, undef, undef, undef, undef, undef, undef, undef, undef, undef, undef, undef, undef, undef, undef, undef, undef, undef, undef, undef, undef, undef, undef, undef, undef, undef, undef, undef, undef, undef, undef, undef, undef, undef, undef, undef, undef, undef, .string (str l), .int .i64 (k1 : Int), undef, undef, undef, undef, undef, undef], []⟩, ?_, ?_⟩
              · intro t ht
                have ht' : t ∈ ([52, 53] : List Nat) := ht
                simp only [List.mem_cons, List.not_mem_nil, or_false] at ht'
                rcases ht' with rfl | rfl
                · exact e3.symm
                · exact e4.symm
              · skip
                simp only [psD_upd]
                have C := M.ruleAll; simp only [Go.Proofs.YtocejggobgfccaaGreatDoor.ruleAll] at C
                refine yield_walk (ops := #[]) rfl rfl (show 54 < 60 by decide) ?_
                go_wp2
                exact S.val (i := 5) hst (by decide) hi0 HR HW (Below.refl _ _) ⟨updG_at .., rfl⟩
            · simp only [List.getElem?_cons_succ, List.getElem?_cons_zero, Option.some.injEq] at hi
              subst hi
              have d5 : psD 12 D 5 = true := psD_of (hpre _ (Array.mem_of_getElem? (i := 0) rfl) rfl)
              have d3 : psD 12 D 3 = true := S.anc 5 d5 3 (show 3 ∈ sd7R 5 by decide)
              have d4 : psD 12 D 4 = true := S.anc 5 d5 4 (show 4 ∈ sd7R 5 by decide)
              obtain ⟨E, P, M⟩ := S.get [5] (by decide) (by intro j hj; simp only [List.mem_cons, List.not_mem_nil, or_false] at hj; subst hj <;> assumption)
              obtain ⟨e5, E5⟩ : g 5 = .int .u8 (c : Int) ∧ E 5 = [] := P 5 (by decide)
              simp only [List.flatMap_cons, List.flatMap_nil, List.append_nil, E5, List.cons_append, List.nil_append] at M
              clear P
              have HI0 : psD 12 D 6 = false := (psD_ne (by decide)).trans hi0
              clear hi0
              have hi0 := HI0
              have HR : ∀ j ∈ sd7R 6, psD 12 D j = true := (by intro j hj; have hj' : j ∈ ([3, 4, 5] : List Nat) := hj; simp only [List.mem_cons, List.not_mem_nil, or_false] at hj'; rcases hj' with rfl | rfl | rfl <;> assumption)
              have HW : ∀ j, psD 12 D j = true → 6 ∉ sd7W j := fun j _ h => by unfold sd7W at h; split at h <;> simp at h
              have hst := sd7S a b c k1 k2 pp1 pp2 cap1 cap2 l w.heap.size
              refine ⟨⟨#[undef, undef, undef, undef, undef, undef, undef, undef, undef, undef, undef, undef, undef, undef, undef, undef, undef, undef, undef, undef, undef, undef, undef, undef, undef, undef, undef, undef, undef, undef, undef, undef, undef, undef, undef, undef, undef, undef, undef, undef, undef, undef, undef, undef, undef, undef, undef, undef, undef, undef, undef, undef, undef, undef, .int .u8 (c : Int), undef, undef, undef, undef, undef], []⟩, ?_, ?_⟩
              · intro t ht
                have ht' : t ∈ ([54] : List Nat) := ht
                simp only [List.mem_cons, List.not_mem_nil, or_false] at ht'
                subst ht'
                exact e5.symm
              · skip
                simp only [psD_upd]
                clear M
                have M := Mm.start no w2
                have C := M.ruleAll; simp only [Go.Proofs.YtocejggobgfccaaGreatDoor.ruleAll] at C
                refine yield_walk (ops := #[]) rfl rfl (show 55 < 60 by decide) ?_
                go_wp2_with (first | ((with_reducible apply wpM_bsl' M 41 1 5 ([(0, .int .u8 (c : Int))]) (#[.int .u8 (c : Int)])); rfl; rfl; rfl; exact bsl_u81 _; clear M; (try clear C); intro bi w9 h_bi M; have C := M.ruleAll; simp only [Go.Proofs.YtocejggobgfccaaGreatDoor.ruleAll] at C))
                exact S.add (i := 6) hst (by decide) hi0 HR HW M (new_box h_bi) ⟨bi, updG_at .., rfl⟩
            · simp only [List.getElem?_cons_succ, List.getElem?_cons_zero, Option.some.injEq] at hi
              subst hi
              have d2 : psD 12 D 2 = true := psD_of (hpre _ (Array.mem_of_getElem? (i := 0) rfl) rfl)
              have d6 : psD 12 D 6 = true := psD_of (hpre _ (Array.mem_of_getElem? (i := 1) rfl) rfl)
              have d3 : psD 12 D 3 = true := S.anc 6 d6 3 (show 3 ∈ sd7R 6 by decide)
              have d4 : psD 12 D 4 = true := S.anc 6 d6 4 (show 4 ∈ sd7R 6 by decide)
              have d5 : psD 12 D 5 = true := S.anc 6 d6 5 (show 5 ∈ sd7R 6 by decide)
              have d0 : psD 12 D 0 = true := S.anc 2 d2 0 (show 0 ∈ sd7R 2 by decide)
              have d1 : psD 12 D 1 = true := S.anc 2 d2 1 (show 1 ∈ sd7R 2 by decide)
              have M := S.base
              have HI0 : psD 12 D 7 = false := (psD_ne (by decide)).trans hi0
              clear hi0
              have hi0 := HI0
              have HR : ∀ j ∈ sd7R 7, psD 12 D j = true := (by intro j hj; have hj' : j ∈ ([0, 1, 2, 3, 4, 5, 6] : List Nat) := hj; simp only [List.mem_cons, List.not_mem_nil, or_false] at hj'; rcases hj' with rfl | rfl | rfl | rfl | rfl | rfl | rfl <;> assumption)
              have HW : ∀ j, psD 12 D j = true → j ≠ 12 → 7 ∉ sd7W j := fun j _ hne h => by unfold sd7W at h; rw [if_neg hne] at h; cases h
              have hst := sd7S a b c k1 k2 pp1 pp2 cap1 cap2 l w.heap.size
              clear M
              obtain ⟨E', X, P, M, FIN⟩ := S.writeK (i := 7) hst (by decide) hi0 HR HW (psD_at ..) [6] (by decide) (by intro j hj; simp only [List.mem_cons, List.not_mem_nil, or_false] at hj; subst hj; assumption)
              have P0 := P 12 (by decide)
              have h2 : psD 12 D 2 = true := d2
              obtain E12 : E' 12 = [.row w.heap.size (g 2) (a.length + b.length) (u8s a ++ u8s b) 5 1] := by
                rcases P0 with ⟨h, _⟩ | ⟨_, _, h⟩ | ⟨_, h, _⟩
                · rw [hi0] at h; cases h
                · exact h
                · rw [h2] at h; cases h
              obtain ⟨bi, e6, E6⟩ : ∃ bi, g 6 = .slice (some ⟨bi, 0, none⟩) 1 1 ∧ E' 6 = [.box bi #[.int .u8 (c : Int)] 5] := P 6 (by decide)
              simp only [E12, E6, List.flatMap_cons, List.flatMap_nil, List.append_nil, List.cons_append, List.nil_append] at M
              clear P
              simp only [E6, List.flatMap_cons, List.flatMap_nil, List.append_nil, List.cons_append, List.nil_append] at FIN
              refine ⟨⟨#[undef, undef, undef, undef, undef, undef, undef, undef, undef, undef, undef, undef, undef, undef, undef, undef, undef, undef, undef, undef, undef, undef, undef, undef, undef, undef, undef, undef, undef, undef, undef, undef, undef, undef, undef, undef, undef, undef, undef, undef, undef, undef, undef, undef, undef, undef, undef, undef, undef, undef, undef, g 2, undef, undef, undef, .slice (some ⟨bi, 0, none⟩) 1 1, undef, undef, undef, undef], []⟩, ?_, ?_⟩
              · intro t ht
                have ht' : t ∈ ([51, 55] : List Nat) := ht
                simp only [List.mem_cons, List.not_mem_nil, or_false] at ht'
                rcases ht' with rfl | rfl
                · exact rfl
                · exact e6.symm
              · skip
                simp only [psD_upd]
                obtain ⟨ppx, capx, hg2⟩ := own_form (M.row 0 rfl)
                rw [hg2] at M ⊢
                refine yield_walk (ops := #[]) rfl rfl (show 56 < 60 by decide) ?_
                have C := M.ruleAll; simp only [Go.Proofs.YtocejggobgfccaaGreatDoor.ruleAll] at C
                go_wp2_with (first | ((with_reducible apply wpM_app' M 41 0 1 (w.heap.size) (.slice ppx (a.length + b.length) capx) (a.length + b.length) (u8s a ++ u8s b) 5 1 1); rfl; rfl; rfl; rfl; rfl; rfl; rfl; (first | exact .inl (Nat.le_refl _) | exact .inl (by assumption) | exact .inr (by assumption) | exact .inr HDv.out); (first | exact M.size | (have hq := M.size; omega)); exact und_sl8b; exact inf_el8b; rfl; decide; decide; rfl; exact rfl; exact flat_u1 _; exact HL3.out; clear M; (try clear C); intro v8 w9 far_v8 M; simp only [List.set_cons_zero, List.set_cons_succ, entBlk, entT, List.getElem?_cons_zero, List.getElem?_cons_succ] at M; obtain ⟨pp_v8, cap_v8, rfl⟩ := own_form (M.row 0 rfl); have C := M.ruleAll; simp only [Go.Proofs.YtocejggobgfccaaGreatDoor.ruleAll] at C))
                refine FIN _ _ [.row w.heap.size (.slice pp_v8 (a.length + b.length + 1) cap_v8) (a.length + b.length + 1) (u8s a ++ u8s b ++ ([Value.int IntKind.u8 (c : Int)] : List Value)) 5 1] M (.inl ⟨updD_at .., by rw [updG_at]⟩) rfl
            · simp only [List.getElem?_cons_succ, List.getElem?_cons_zero, Option.some.injEq] at hi
              subst hi
              have M := S.base
              have HI0 : psD 12 D 8 = false := (psD_ne (by decide)).trans hi0
              clear hi0
              have hi0 := HI0
              have HR : ∀ j ∈ sd7R 8, psD 12 D j = true := (fun _ h => by cases h)
              have HW : ∀ j, psD 12 D j = true → 8 ∉ sd7W j := fun j _ h => by unfold sd7W at h; split at h <;> simp at h
              have hst := sd7S a b c k1 k2 pp1 pp2 cap1 cap2 l w.heap.size
              refine ⟨⟨#[undef, undef, undef, undef, undef, undef, undef, undef, undef, undef, undef, .int .i64 (k2 : Int), undef, undef, undef, undef, undef, undef, undef, undef, undef, undef, undef, undef, undef, undef, undef, undef, undef, undef, undef, undef, undef, undef, undef, undef, undef, undef, undef, undef, undef, undef, undef, undef, undef, undef, undef, undef, undef, undef, undef, undef, undef, undef, undef, undef, undef, undef, undef, undef], []⟩, ?_, ?_⟩
              · intro t ht
                have ht' : t ∈ ([11] : List Nat) := ht
                simp only [List.mem_cons, List.not_mem_nil, or_false] at ht'
                subst ht'
                exact rfl
              · skip
                simp only [psD_upd]
                have C := M.ruleAll; simp only [Go.Proofs.YtocejggobgfccaaGreatDoor.ruleAll] at C
                refine yield_walk (ops := #[]) rfl rfl (show 57 < 60 by decide) ?_
                go_wp2
                exact S.val (i := 8) hst (by decide) hi0 HR HW (Below.refl _ _) ⟨updG_at .., rfl⟩
            · simp only [List.getElem?_cons_succ, List.getElem?_cons_zero, Option.some.injEq] at hi
              subst hi
              have d7 : psD 12 D 7 = true := psD_of (hpre _ (Array.mem_of_getElem? (i := 0) rfl) rfl)
              have d0 : psD 12 D 0 = true := psD_of (hpre _ (Array.mem_of_getElem? (i := 2) rfl) rfl)
              have d1 : psD 12 D 1 = true := psD_of (hpre _ (Array.mem_of_getElem? (i := 3) rfl) rfl)
              have d2 : psD 12 D 2 = true := psD_of (hpre _ (Array.mem_of_getElem? (i := 4) rfl) rfl)
              have d3 : psD 12 D 3 = true := psD_of (hpre _ (Array.mem_of_getElem? (i := 5) rfl) rfl)
              have d4 : psD 12 D 4 = true := psD_of (hpre _ (Array.mem_of_getElem? (i := 6) rfl) rfl)
              have d5 : psD 12 D 5 = true := psD_of (hpre _ (Array.mem_of_getElem? (i := 7) rfl) rfl)
              have d6 : psD 12 D 6 = true := psD_of (hpre _ (Array.mem_of_getElem? (i := 8) rfl) rfl)
              have M := S.base
              have HI0 : psD 12 D 9 = false := (psD_ne (by decide)).trans hi0
              clear hi0
              have hi0 := HI0
              have HR : ∀ j ∈ sd7R 9, psD 12 D j = true := (by intro j hj; have hj' : j ∈ ([0, 1, 2, 3, 4, 5, 6, 7] : List Nat) := hj; simp only [List.mem_cons, List.not_mem_nil, or_false] at hj'; rcases hj' with rfl | rfl | rfl | rfl | rfl | rfl | rfl | rfl <;> assumption)
              have HW : ∀ j, psD 12 D j = true → 9 ∉ sd7W j := fun j _ h => by unfold sd7W at h; split at h <;> simp at h
              have hst := sd7S a b c k1 k2 pp1 pp2 cap1 cap2 l w.heap.size
              refine ⟨⟨#[undef, undef, undef, undef, undef, undef, undef, undef, undef, undef, undef, undef, undef, undef, undef, undef, undef, undef, undef, undef, undef, undef, undef, undef, undef, undef, undef, undef, undef, undef, undef, undef, undef, undef, undef, undef, undef, undef, undef, undef, undef, undef, undef, undef, undef, undef, undef, undef, undef, undef, undef, undef, undef, undef, undef, undef, g 7, undef, undef, undef], []⟩, ?_, ?_⟩
              · intro t ht
                have ht' : t ∈ ([56] : List Nat) := ht
                simp only [List.mem_cons, List.not_mem_nil, or_false] at ht'
                subst ht'
                exact rfl
              · skip
                simp only [psD_upd]
                have C := M.ruleAll; simp only [Go.Proofs.YtocejggobgfccaaGreatDoor.ruleAll] at C
                refine yield_walk (ops := #[]) rfl rfl (show 4 < 60 by decide) ?_
                go_wp2
                exact S.val (i := 9) hst (by decide) hi0 HR HW (Below.refl _ _) ⟨(updG_at ..).trans (updG_ne (by decide)).symm, rfl⟩
            · simp only [List.getElem?_cons_succ, List.getElem?_cons_zero, Option.some.injEq] at hi
              subst hi
              have d8 : psD 12 D 8 = true := psD_of (hpre _ (Array.mem_of_getElem? (i := 0) rfl) rfl)
              have d9 : psD 12 D 9 = true := psD_of (hpre _ (Array.mem_of_getElem? (i := 1) rfl) rfl)
              have d0 : psD 12 D 0 = true := psD_of (hpre _ (Array.mem_of_getElem? (i := 2) rfl) rfl)
              have d1 : psD 12 D 1 = true := psD_of (hpre _ (Array.mem_of_getElem? (i := 3) rfl) rfl)
              have d2 : psD 12 D 2 = true := psD_of (hpre _ (Array.mem_of_getElem? (i := 4) rfl) rfl)
              have d3 : psD 12 D 3 = true := psD_of (hpre _ (Array.mem_of_getElem? (i := 5) rfl) rfl)
              have d4 : psD 12 D 4 = true := psD_of (hpre _ (Array.mem_of_getElem? (i := 6) rfl) rfl)
              have d5 : psD 12 D 5 = true := psD_of (hpre _ (Array.mem_of_getElem? (i := 7) rfl) rfl)
              have d6 : psD 12 D 6 = true := psD_of (hpre _ (Array.mem_of_getElem? (i := 8) rfl) rfl)
              have d7 : psD 12 D 7 = true := psD_of (hpre _ (Array.mem_of_getElem? (i := 9) rfl) rfl)
              obtain ⟨E, P, M⟩ := S.get [8] (by decide) (by intro j hj; simp only [List.mem_cons, List.not_mem_nil, or_false] at hj; subst hj <;> assumption)
              obtain ⟨e8, E8⟩ : g 8 = .int .i64 (k2 : Int) ∧ E 8 = [] := P 8 (by decide)
              simp only [List.flatMap_cons, List.flatMap_nil, List.append_nil, E8, List.cons_append, List.nil_append] at M
              clear P
              have HI0 : psD 12 D 10 = false := (psD_ne (by decide)).trans hi0
              clear hi0
              have hi0 := HI0
              have HR : ∀ j ∈ sd7R 10, psD 12 D j = true := (by intro j hj; have hj' : j ∈ ([0, 1, 2, 3, 4, 5, 6, 7, 8, 9] : List Nat) := hj; simp only [List.mem_cons, List.not_mem_nil, or_false] at hj'; rcases hj' with rfl | rfl | rfl | rfl | rfl | rfl | rfl | rfl | rfl | rfl <;> assumption)
              have HW : ∀ j, psD 12 D j = true → 10 ∉ sd7W j := fun j _ h => by unfold sd7W at h; split at h <;> simp at h
              have hst := sd7S a b c k1 k2 pp1 pp2 cap1 cap2 l w.heap.size
              refine ⟨⟨#[undef, undef, undef, undef, undef, undef, undef, undef, undef, undef, undef, undef, undef, undef, undef, undef, undef, undef, undef, undef, undef, undef, undef, undef, undef, undef, undef, undef, undef, undef, undef, undef, undef, undef, undef, undef, undef, undef, undef, undef, undef, undef, undef, undef, undef, undef, undef, undef, undef, undef, undef, undef, undef, undef, undef, undef, undef, .int .i64 (k2 : Int), undef, undef], []⟩, ?_, ?_⟩
              · intro t ht
                have ht' : t ∈ ([57] : List Nat) := ht
                simp only [List.mem_cons, List.not_mem_nil, or_false] at ht'
                subst ht'
                exact e8.symm
              · skip
                simp only [psD_upd]
                have C := M.ruleAll; simp only [Go.Proofs.YtocejggobgfccaaGreatDoor.ruleAll] at C
                refine yield_walk (ops := #[]) rfl rfl (show 5 < 60 by decide) ?_
                go_wp2
                exact S.val (i := 10) hst (by decide) hi0 HR HW (Below.refl _ _) ⟨updG_at .., rfl⟩
            · simp only [List.getElem?_cons_succ, List.getElem?_cons_zero, Option.some.injEq] at hi
              subst hi
              have d10 : psD 12 D 10 = true := psD_of (hpre _ (Array.mem_of_getElem? (i := 0) rfl) rfl)
              have d0 : psD 12 D 0 = true := psD_of (hpre _ (Array.mem_of_getElem? (i := 1) rfl) rfl)
              have d1 : psD 12 D 1 = true := psD_of (hpre _ (Array.mem_of_getElem? (i := 2) rfl) rfl)
              have d2 : psD 12 D 2 = true := psD_of (hpre _ (Array.mem_of_getElem? (i := 3) rfl) rfl)
              have d3 : psD 12 D 3 = true := psD_of (hpre _ (Array.mem_of_getElem? (i := 4) rfl) rfl)
              have d4 : psD 12 D 4 = true := psD_of (hpre _ (Array.mem_of_getElem? (i := 5) rfl) rfl)
              have d5 : psD 12 D 5 = true := psD_of (hpre _ (Array.mem_of_getElem? (i := 6) rfl) rfl)
              have d6 : psD 12 D 6 = true := psD_of (hpre _ (Array.mem_of_getElem? (i := 7) rfl) rfl)
              have d7 : psD 12 D 7 = true := psD_of (hpre _ (Array.mem_of_getElem? (i := 8) rfl) rfl)
              have d8 : psD 12 D 8 = true := psD_of (hpre _ (Array.mem_of_getElem? (i := 9) rfl) rfl)
              have d9 : psD 12 D 9 = true := psD_of (hpre _ (Array.mem_of_getElem? (i := 10) rfl) rfl)
              have M := S.base
              have HI0 : psD 12 D 11 = false := (psD_ne (by decide)).trans hi0
              clear hi0
              have hi0 := HI0
              have HR : ∀ j ∈ sd7R 11, psD 12 D j = true := (by intro j hj; have hj' : j ∈ ([0, 1, 2, 3, 4, 5, 6, 7, 8, 9, 10] : List Nat) := hj; simp only [List.mem_cons, List.not_mem_nil, or_false] at hj'; rcases hj' with rfl | rfl | rfl | rfl | rfl | rfl | rfl | rfl | rfl | rfl | rfl <;> assumption)
              have HW : ∀ j, psD 12 D j = true → 11 ∉ sd7W j := fun j _ h => by unfold sd7W at h; split at h <;> simp at h
              have hst := sd7S a b c k1 k2 pp1 pp2 cap1 cap2 l w.heap.size
              refine ⟨⟨#[undef, undef, undef, undef, undef, undef, undef, undef, undef, undef, undef, undef, undef, undef, undef, undef, undef, undef, undef, undef, undef, undef, undef, undef, undef, undef, undef, undef, undef, undef, undef, undef, undef, undef, undef, undef, undef, undef, undef, undef, undef, undef, undef, undef, undef, undef, undef, undef, undef, undef, undef, undef, undef, undef, undef, undef, undef, undef, undef, undef], []⟩, ?_, ?_⟩
              · intro t ht
                have ht' : t ∈ ([] : List Nat) := ht
                cases ht'
              · skip
                simp only [psD_upd]
                have C := M.ruleAll; simp only [Go.Proofs.YtocejggobgfccaaGreatDoor.ruleAll] at C
                refine yield_walk (ops := #[]) rfl rfl (show 6 < 60 by decide) ?_
                go_wp2
                exact S.val (i := 11) hst (by decide) hi0 HR HW (Below.refl _ _) ⟨updG_at .., rfl⟩
          case hQ_sd7 =>
            clear M
            try clear C
            intro D g w2 hall S
            obtain ⟨E, P, M⟩ := S.get [12] (by decide) (fun k hk => by
              simp only [List.mem_cons, List.not_mem_nil, or_false] at hk
              by_cases e : k = 12
              · rw [e]; exact psD_at ..
              · exact psD_of (hall k (by show k < 12; omega)))
            obtain E12 : E 12 = [.row w.heap.size (g 7) (a.length + b.length + 1) (u8s a ++ u8s b ++ [.int .u8 (c : Int)]) 5 1] := by
              rcases P 12 (by decide) with ⟨_, h⟩ | ⟨h, _⟩ | ⟨h, _⟩
              · exact h
              · rw [psD_of (hall 7 (by decide))] at h; cases h
              · rw [psD_of (hall 7 (by decide))] at h; cases h
            simp only [List.flatMap_cons, List.flatMap_nil, List.append_nil, E12, List.cons_append, List.nil_append] at M
            clear P
            obtain ⟨E', P, _⟩ := S.get [0, 1, 2, 3, 4, 5, 6, 7, 8, 9, 10, 11] (by decide) (fun k hk => by
              simp only [List.mem_cons, List.not_mem_nil, or_false] at hk
              by_cases e : k = 12
              · rw [e]; exact psD_at ..
              · exact psD_of (hall k (by show k < 12; omega)))
            have e0 : g 0 = .slice pp1 a.length cap1 := (P 0 (by decide)).1
            have e1 : g 1 = .slice pp2 b.length cap2 := (P 1 (by decide)).1
            have e3 : g 3 = .string (str l) := (P 3 (by decide)).1
            have e4 : g 4 = .int .i64 (k1 : Int) := (P 4 (by decide)).1
            have e5 : g 5 = .int .u8 (c : Int) := (P 5 (by decide)).1
            obtain ⟨bi, e6, -⟩ : ∃ bi, g 6 = .slice (some ⟨bi, 0, none⟩) 1 1 ∧ E' 6 = [.box bi #[.int .u8 (c : Int)] 5] := P 6 (by decide)
            have e8 : g 8 = .int .i64 (k2 : Int) := (P 8 (by decide)).1
            have e9 : g 9 = g 7 := (P 9 (by decide)).1
            have e10 : g 10 = .int .i64 (k2 : Int) := (P 10 (by decide)).1
            have e11 : g 11 = .bool true := (P 11 (by decide)).1
            simp only [fullAct, e0, e1, e3, e4, e5, e6, e8, e9, e10, e11, Act.put, List.setIfInBounds_toArray, List.set_cons_succ, List.set_cons_zero]
            clear P S hall e0 e1 e3 e4 e5 e6 e8 e9 e10 e11
            try clear E'
            try clear E
            clear HO hix HL HL3
            have C := M.ruleAll; simp only [Go.Proofs.YtocejggobgfccaaGreatDoor.ruleAll] at C
            go_wp2
            go_ret3
            rw [HRES.out]
            refine ⟨_, rfl, (M.sub [0] (by decide)).eq ?_⟩
            rw [u8s_app, u8s_app]
            simp only [List.length_append, List.length_singleton]
            rfl
    · have h1 : (l.length : Int) ≤ (k1 : Int) := by omega
      have ho : isOpB (l.getD k1 0) = false := by
        rw [List.getD_eq_getElem?_getD, List.getElem?_eq_none (by omega)]; rfl
      have HR := HT2.out
      rw [if_pos ho] at HR
      subst HR
      clear HT2 hp hB ho
      go_wp2
      go_ret3
      exact ⟨_, rfl, M⟩

end Go.Proofs.YtocejggobgfccaaGreatDoor

/- The reader of terms, for the reference, whole; contracts. -/
namespace Go.Proofs.YtocejggobgfccaaGreatDoor
set_option linter.unusedSimpArgs false
set_option linter.unusedVariables false
open Go Go.RowKit

set_option maxRecDepth 100000 in
set_option maxHeartbeats 2000000 in
theorem op_leaf (l : List Nat) (hl : l.length ≤ 1000) (hb : Byts l) (k : Nat) (hk : k < l.length) (hlf : isLeafB (l.getD k 0) = true) (w : World) :
    Calls Tryz.prog 70 #[.string (str l), .int .i64 (k : Int)] w (SdPost k (some ([l.getD k 0], k + 1)) w) := by
  have M := Mm.start no w
  have hsz := str_size l
  have h1 : ¬ ((l.length : Int) ≤ (k : Int)) := by omega
  have hix := ix_str hb k hk
  have hw : wrap64 ((k : Int) + 1) = (k : Int) + 1 := wrap_small _ (by omega) (by omega)
  have hcs := leaf_cases hlf
  clear hb hlf
  generalize l.getD k 0 = b at hix hcs ⊢
  generalize str l = s at *
  rcases hcs with rfl | rfl | rfl | rfl
  · go_enter Tryz.func70, Tryz.ntmps70
    go_wp2_with (first | ((with_reducible apply wpM_bsl' M 41 1 5 ([(0, .int .u8 (120 : Int))]) (#[.int .u8 (120 : Int)])); rfl; rfl; rfl; exact bsl_u81 _; clear M; (try clear C); intro b7 w9 h_b7 M; have C := M.ruleAll; simp only [Go.Proofs.YtocejggobgfccaaGreatDoor.ruleAll] at C))
    go_ret3
    exact ⟨_, rfl, M.asRow 0 rfl w.heap.size 1 1 (by assumption) rfl (by decide)⟩
  · go_enter Tryz.func70, Tryz.ntmps70
    go_wp2_with (first | ((with_reducible apply wpM_bsl' M 41 1 5 ([(0, .int .u8 (121 : Int))]) (#[.int .u8 (121 : Int)])); rfl; rfl; rfl; exact bsl_u81 _; clear M; (try clear C); intro b7 w9 h_b7 M; have C := M.ruleAll; simp only [Go.Proofs.YtocejggobgfccaaGreatDoor.ruleAll] at C))
    go_ret3
    exact ⟨_, rfl, M.asRow 0 rfl w.heap.size 1 1 (by assumption) rfl (by decide)⟩
  · go_enter Tryz.func70, Tryz.ntmps70
    go_wp2_with (first | ((with_reducible apply wpM_bsl' M 41 1 5 ([(0, .int .u8 (122 : Int))]) (#[.int .u8 (122 : Int)])); rfl; rfl; rfl; exact bsl_u81 _; clear M; (try clear C); intro b7 w9 h_b7 M; have C := M.ruleAll; simp only [Go.Proofs.YtocejggobgfccaaGreatDoor.ruleAll] at C))
    go_ret3
    exact ⟨_, rfl, M.asRow 0 rfl w.heap.size 1 1 (by assumption) rfl (by decide)⟩
  · go_enter Tryz.func70, Tryz.ntmps70
    go_wp2_with (first | ((with_reducible apply wpM_bsl' M 41 1 5 ([(0, .int .u8 (101 : Int))]) (#[.int .u8 (101 : Int)])); rfl; rfl; rfl; exact bsl_u81 _; clear M; (try clear C); intro b7 w9 h_b7 M; have C := M.ruleAll; simp only [Go.Proofs.YtocejggobgfccaaGreatDoor.ruleAll] at C))
    go_ret3
    exact ⟨_, rfl, M.asRow 0 rfl w.heap.size 1 1 (by assumption) rfl (by decide)⟩

set_option maxRecDepth 100000 in
set_option maxHeartbeats 2000000 in
theorem op_no (l : List Nat) (hl : l.length ≤ 1000) (hb : Byts l) (k : Nat) (hk : k ≤ l.length) (hlf : isLeafB (l.getD k 0) = false) (h40 : l.getD k 0 ≠ 40) (w : World) :
    Calls Tryz.prog 70 #[.string (str l), .int .i64 (k : Int)] w (SdPost k none w) := by
  have M := Mm.start no w
  have hsz := str_size l
  by_cases hlt : k < l.length
  · have h1 : ¬ ((l.length : Int) ≤ (k : Int)) := by omega
    have hix := ix_str hb k hlt
    obtain ⟨n1, n2, n3, n4⟩ := leaf_none hlf
    have e1 : ((l.getD k 0 : Nat) : Int) ≠ 120 := by omega
    have e2 : ((l.getD k 0 : Nat) : Int) ≠ 121 := by omega
    have e3 : ((l.getD k 0 : Nat) : Int) ≠ 122 := by omega
    have e4 : ((l.getD k 0 : Nat) : Int) ≠ 101 := by omega
    have e5 : ((l.getD k 0 : Nat) : Int) ≠ 40 := by omega
    have f1 : (((l.getD k 0 : Nat) : Int) == 120) = false := neI n1
    have f2 : (((l.getD k 0 : Nat) : Int) == 121) = false := neI n2
    have f3 : (((l.getD k 0 : Nat) : Int) == 122) = false := neI n3
    have f4 : (((l.getD k 0 : Nat) : Int) == 101) = false := neI n4
    have f5 : (((l.getD k 0 : Nat) : Int) == 40) = false := neI h40
    clear hb hlf n1 n2 n3 n4 h40
    generalize l.getD k 0 = b at *
    generalize str l = s at *
    go_enter Tryz.func70, Tryz.ntmps70
    go_wp2
    go_ret3
    exact ⟨rfl, M.below⟩
  · have h1 : (l.length : Int) ≤ (k : Int) := by omega
    clear hb hlf h40
    generalize str l = s at *
    go_enter Tryz.func70, Tryz.ntmps70
    go_wp2
    go_ret3
    exact ⟨rfl, M.below⟩

set_option maxRecDepth 100000 in
set_option maxHeartbeats 4000000 in
theorem op_par (l : List Nat) (hl : l.length ≤ 1000) (hb : Byts l) (k : Nat) (hk : k < l.length) (h40 : l.getD k 0 = 40) (o : Option (List Nat × Nat)) (ho : SdB l (k + 1) o) (hS : ∀ w, Calls Tryz.prog 49 #[.string (str l), .int .i64 ((k + 1 : Nat) : Int)] w (SdPost (k + 1) o w)) (w : World) :
    Calls Tryz.prog 70 #[.string (str l), .int .i64 (k : Int)] w (SdPost k (match o with | none => none | some (t, k2) => if t.length = 1 ∨ l.getD k2 0 ≠ 41 then none else some (t, k2 + 1)) w) := by
  have M := Mm.start no w
  have hsz := str_size l
  have h1 : ¬ ((l.length : Int) ≤ (k : Int)) := by omega
  have hix : ∀ w : World, (Instr.index 9 (.string (str l)) (.int .i64 (k : Int))).run Tryz.prog w = .ok (.int .u8 40) w := fun w => by have := ix_str hb k hk w; rw [h40] at this; exact this
  have HS := Hid2.mk (show ∀ w, Calls Tryz.prog 49 #[.string (str l), .int .i64 ((k : Int) + 1)] w (SdPost (k + 1) o w) from fun w => by have := hS w; rwa [show ((k + 1 : Nat) : Int) = (k : Int) + 1 by omega] at this)
  rcases o with _ | ⟨t, k2⟩
  · clear hb hS ho h40
    generalize str l = s at *
    go_enter Tryz.func70, Tryz.ntmps70
    go_wp2_with (first | (go_at_call 49; fail))
    refine (HS.out _).mono ?_
    rintro e w1 ⟨rfl, hb⟩
    have M9 := M.later hb
    clear M; (try clear C)
    have M := M9
    clear M9 hb
    go_wp2
    go_ret3
    exact ⟨rfl, M.below⟩
  · obtain ⟨b1, b2, b3⟩ := ho t k2 rfl
    generalize hq : (if t.length = 1 ∨ l.getD k2 0 ≠ 41 then none else some (t, k2 + 1)) = res
    show Calls _ _ _ _ (SdPost k (if t.length = 1 ∨ l.getD k2 0 ≠ 41 then none else some (t, k2 + 1)) w)
    rw [hq]
    have HR := Hid2.mk hq
    have HI2 := Hid2.mk (fun h => ix_str hb k2 h)
    clear hb hS ho h40 hq
    go_enter Tryz.func70, Tryz.ntmps70
    go_wp2_with (first | (go_at_call 49; fail))
    refine (HS.out _).mono ?_
    rintro e w1 ⟨v, rfl, M'⟩
    have M9 := M.joinRow M'
    obtain ⟨pp1, cap1, rfl⟩ := own_form (M9.row 0 rfl)
    clear M; (try clear C)
    have M := M9
    clear M9 M' HS hix
    by_cases ht : t.length = 1
    · have hr := HR.out
      rw [if_pos (.inl ht)] at hr
      subst hr
      have e1 : ((t.length : Int) == 1) = true := by rw [ht]; rfl
      rw [ht]
      clear HR
      go_wp2
      go_ret3
      exact ⟨rfl, M.below⟩
    · have e1 : ((t.length : Int) == 1) = false := by simp; omega
      have e2 : (t.length : Int) ≠ 1 := by omega
      by_cases hlt : k2 < l.length
      · have h2 : ¬ ((l.length : Int) ≤ (k2 : Int)) := by omega
        have hix := HI2.out hlt
        by_cases hc : l.getD k2 0 = 41
        · have hr := HR.out
          rw [if_neg (by rintro (h | h); exact ht h; exact h hc)] at hr
          subst hr
          rw [hc] at hix
          clear HR HI2 hc ht
          go_wp2
          go_ret3
          exact ⟨_, rfl, M⟩
        · have hr := HR.out
          rw [if_pos (.inr hc)] at hr
          subst hr
          have e3 : ((l.getD k2 0 : Nat) : Int) ≠ 41 := by omega
          have e4 : (((l.getD k2 0 : Nat) : Int) == 41) = false := neI hc
          have e5 : (((l.getD k2 0 : Nat) : Int) != 41) = true := by rw [bne, e4]; rfl
          generalize l.getD k2 0 = b at *
          clear HR HI2 hc ht
          go_wp2
          go_ret3
          exact ⟨rfl, M.below⟩
      · have h2 : (l.length : Int) ≤ (k2 : Int) := by omega
        have hr := HR.out
        rw [if_pos (.inr (by rw [List.getD_eq_getElem?_getD, List.getElem?_eq_none (by omega)]; decide))] at hr
        subst hr
        clear HR HI2 ht
        go_wp2
        go_ret3
        exact ⟨rfl, M.below⟩

theorem op_any (l : List Nat) (hl : l.length ≤ 1000) (hb : Byts l) : ∀ n, Sdr 70 l n (opK l n)
  | 0 => fun k w hk hn => by
    unfold opK
    split
    · rename_i h; exact op_leaf l hl hb k (leafB_lt h) h w
    · rename_i h
      refine op_no l hl hb k hk (by simpa using h) (fun e => ?_) w
      have := getD_ltz (l := l) (k := k) (by omega)
      omega
  | n + 1 => fun k w hk hn => by
    unfold opK
    split
    · rename_i h; exact op_leaf l hl hb k (leafB_lt h) h w
    · rename_i h
      split
      · rename_i h40
        have hlt := getD_ltz (l := l) (k := k) (by omega)
        exact op_par l hl hb k hlt h40 _ (sideOf_b (opK_b l n) (k + 1)) (fun w1 => side_of l hl hb n _ (op_any l hl hb n) (opK_b l n) (k + 1) w1 (by omega) (by omega)) w
      · rename_i h40
        exact op_no l hl hb k hk (by simpa using h) h40 w
theorem side_any (l : List Nat) (hl : l.length ≤ 1000) (hb : Byts l) (k : Nat) (hk : k ≤ l.length) (w : World) : Calls Tryz.prog 49 #[.string (str l), .int .i64 (k : Int)] w (SdPost k (sideOf l (opK l l.length) k) w) :=
  side_of l hl hb l.length _ (op_any l hl hb l.length) (opK_b l l.length) k w hk (by omega)
end Go.Proofs.YtocejggobgfccaaGreatDoor

/- Texts of identities as plain lists: what is written is read. -/
namespace Go.Proofs.YtocejggobgfccaaGreatDoor
set_option linter.unusedSimpArgs false
set_option linter.unusedVariables false
open Go Go.RowKit

/-- Terms as trees. -/
inductive Tr where
  | lf (b : Nat)
  | op (b : Nat) (x y : Tr)
def Tr.post : Tr → List Nat
  | .lf b => [b]
  | .op b x y => x.post ++ y.post ++ [b]
def Tr.txt : Tr → List Nat
  | .lf b => [b]
  | .op b x y => parT x.txt ++ [b] ++ parT y.txt
def Tr.ok : Tr → Prop
  | .lf b => isLeafB b = true
  | .op b x y => isOpB b = true ∧ x.ok ∧ y.ok
theorem Tr.txt_pos : ∀ T : Tr, 1 ≤ T.txt.length
  | .lf _ => Nat.le_refl _
  | .op _ _ _ => by simp only [Tr.txt, List.length_append, List.length_singleton]; omega
theorem Tr.post_pos : ∀ T : Tr, 1 ≤ T.post.length
  | .lf _ => Nat.le_refl _
  | .op _ _ _ => by simp only [Tr.post, List.length_append, List.length_singleton]; omega
theorem Tr.op_txt (b : Nat) (x y : Tr) : parT (Tr.op b x y).txt = 40 :: ((Tr.op b x y).txt ++ [41]) := by
  refine if_pos ?_
  have h1 := x.txt_pos
  have h2 := y.txt_pos
  have h3 := parT_len x.txt
  simp only [Tr.txt, List.length_append, List.length_singleton]; omega
theorem Tr.lf_txt (b : Nat) : parT (Tr.lf b).txt = [b] := rfl
/-- How long a text is. -/
theorem Tr.par_le : ∀ T : Tr, (parT T.txt).length + 1 ≤ 2 * T.post.length
  | .lf b => Nat.le_refl 2
  | .op b x y => by
    have h1 := x.par_le
    have h2 := y.par_le
    rw [Tr.op_txt]
    simp only [Tr.txt, Tr.post, List.length_cons, List.length_append, List.length_nil]
    omega
/-! ### Each term is a tree -/
def TrSt (f : Nat → Nat) (k : Nat) (ts : List Tr) : Prop := (∀ T ∈ ts, T.ok) ∧ txTo f k = ts.map Tr.txt ∧ (ts.reverse.map Tr.post).flatten = (List.range k).map f
theorem trees {f : Nat → Nat} : ∀ {k v : Nat}, tmTo f k = some v → ∃ ts, ts.length = v ∧ TrSt f k ts
  | 0, v, h => by cases h; exact ⟨[], rfl, (fun _ h => by cases h), rfl, rfl⟩
  | k + 1, v, h => by
    rw [tmTo] at h
    split at h
    · rename_i u hu
      obtain ⟨ts, hl, h1, h2, h3⟩ := trees hu
      simp only [tmStep] at h
      split at h
      · rename_i hlf
        cases h
        refine ⟨.lf (f k) :: ts, by simp [hl], fun T hT => ?_, ?_, ?_⟩
        · rcases List.mem_cons.1 hT with rfl | hT
          · exact hlf
          · exact h1 T hT
        · rw [txTo_succ, txStep_leaf hlf, h2]; rfl
        · rw [List.reverse_cons, List.map_append, List.flatten_append, h3, List.range_succ, List.map_append]; rfl
      · rename_i hlf
        split at h
        · rename_i ho
          cases h
          rcases ts with _ | ⟨c, _ | ⟨a, r⟩⟩
          · simp at hl; omega
          · simp at hl; omega
          · refine ⟨.op (f k) a c :: r, by simp at hl ⊢; omega, fun T hT => ?_, ?_, ?_⟩
            · rcases List.mem_cons.1 hT with rfl | hT
              · exact ⟨ho.1, h1 a (by simp), h1 c (by simp)⟩
              · exact h1 T (by simp [hT])
            · rw [txTo_succ, h2, List.map_cons, List.map_cons, txStep_op (by simpa using hlf)]; rfl
            · simp only [List.reverse_cons, List.map_append, List.flatten_append, List.map_cons, List.map_nil, List.flatten_cons, List.flatten_nil, List.append_nil, List.append_assoc] at h3 ⊢
              rw [List.range_succ, List.map_append, ← h3]
              simp [Tr.post]
        · cases h
    · cases h
theorem elB_map (xs : List Nat) : (List.range xs.length).map (elB xs) = xs := by
  apply List.ext_getElem
  · simp
  · intro i h1 h2
    rw [List.getElem_map, List.getElem_range]
    unfold elB
    rw [List.getD_eq_getElem?_getD, List.getElem?_eq_getElem h2]; rfl
theorem tree_of {xs : List Nat} (h : isTm (elB xs) xs.length = true) : ∃ T : Tr, T.ok ∧ T.post = xs ∧ txB (elB xs) xs.length = T.txt := by
  obtain ⟨ts, hl, h1, h2, h3⟩ := trees (isTm_iff.1 h).1
  obtain ⟨T, rfl⟩ := List.length_eq_one_iff.1 hl
  refine ⟨T, h1 T (by simp), ?_, ?_⟩
  · rw [elB_map] at h3
    simpa using h3
  · unfold txB; rw [h2]; rfl

/-! ### What is written is read -/
theorem getD_pre (pre : List Nat) (c : Nat) (rest : List Nat) : (pre ++ c :: rest).getD pre.length 0 = c := by
  rw [List.getD_eq_getElem?_getD, List.getElem?_append_right (Nat.le_refl _), Nat.sub_self]; rfl
theorem getD_head (pre rest : List Nat) : (pre ++ rest).getD pre.length 0 = rest.headD 0 := by
  rw [List.getD_eq_getElem?_getD, List.getElem?_append_right (Nat.le_refl _), Nat.sub_self]
  cases rest <;> rfl
theorem leaf_not {b : Nat} (h : isLeafB b = true) : b ≠ 40 ∧ isOpB b = false := by
  rcases leaf_cases h with rfl | rfl | rfl | rfl <;> exact ⟨by decide, rfl⟩
theorem op_not {b : Nat} (h : isOpB b = true) : b ≠ 0 := by
  rcases op_cases h with rfl | rfl | rfl <;> decide
theorem partK_leaf {l : List Nat} {k : Nat} (h : l.getD k 0 ≠ 40) : ∀ n, partK l n k = ([l.getD k 0], nxK l k)
  | 0 => rfl
  | n + 1 => by rw [partK, if_neg h]

theorem termOf_two {l : List Nat} {p : Nat → List Nat × Nat} {k : Nat} {a b : List Nat} {k1 k2 c : Nat} (h1 : p k = (a, k1)) (h2 : p (k1 + 1) = (b, k2)) (hc : l.getD k1 0 = c) (ho : isOpB c = true) : termOf l p k = (a ++ b ++ [c], k2) := by
  unfold termOf
  rw [h1]
  simp only
  rw [h2, hc]
  refine if_neg ?_
  rintro (h | h)
  · have := opB_lt (l := l) (k := k1) (by rw [hc]; exact ho)
    omega
  · rw [ho] at h; cases h
theorem termOf_one {l : List Nat} {p : Nat → List Nat × Nat} {k : Nat} {a : List Nat} {k1 : Nat} (h1 : p k = (a, k1)) (ho : isOpB (l.getD k1 0) = false) : termOf l p k = (a, k1) := by
  unfold termOf
  rw [h1]
  exact if_pos (.inr ho)

def PartRd (T : Tr) : Prop := ∀ n pre rest, (parT T.txt).length ≤ n → partK (pre ++ (parT T.txt ++ rest)) n pre.length = (T.post, pre.length + (parT T.txt).length)
def TermRd (T : Tr) : Prop := ∀ n pre rest, T.txt.length ≤ n → isOpB (rest.headD 0) = false → termOf (pre ++ (T.txt ++ rest)) (partK (pre ++ (T.txt ++ rest)) n) pre.length = (T.post, pre.length + T.txt.length)
theorem partRd_lf {b : Nat} (h : isLeafB b = true) : PartRd (.lf b) := fun n pre rest hn => by
  rw [Tr.lf_txt]
  have hg : (pre ++ ([b] ++ rest)).getD pre.length 0 = b := getD_pre pre b rest
  rw [partK_leaf (by rw [hg]; exact (leaf_not h).1) n, hg]
  simp only [Tr.post, nxK, List.length_append, List.length_singleton]
  rw [if_pos (by omega)]
theorem termRd_lf {b : Nat} (h : isLeafB b = true) : TermRd (.lf b) := fun n pre rest hn hr => by
  have h1 := partRd_lf h n pre rest hn
  rw [Tr.lf_txt] at h1
  refine termOf_one (by exact h1) ?_
  have : (pre ++ ((Tr.lf b).txt ++ rest)).getD (pre.length + (Tr.lf b).txt.length) 0 = rest.headD 0 := by
    have := getD_head (pre ++ [b]) rest
    rw [List.append_assoc, List.length_append] at this
    exact this
  rw [this]; exact hr
theorem termRd_op {b : Nat} {x y : Tr} (hb : isOpB b = true) (hx : PartRd x) (hy : PartRd y) : TermRd (.op b x y) := fun n pre rest hn hr => by
  have hlen : (Tr.op b x y).txt.length = (parT x.txt).length + 1 + (parT y.txt).length := by simp only [Tr.txt, List.length_append, List.length_singleton]
  have e1 : pre ++ ((Tr.op b x y).txt ++ rest) = pre ++ (parT x.txt ++ (b :: (parT y.txt ++ rest))) := by simp [Tr.txt]
  have e2 : pre ++ ((Tr.op b x y).txt ++ rest) = (pre ++ parT x.txt ++ [b]) ++ (parT y.txt ++ rest) := by simp [Tr.txt]
  have h1 := hx n pre (b :: (parT y.txt ++ rest)) (by omega)
  have h2 := hy n (pre ++ parT x.txt ++ [b]) rest (by omega)
  rw [← e1] at h1
  rw [← e2] at h2
  have hc : (pre ++ ((Tr.op b x y).txt ++ rest)).getD (pre.length + (parT x.txt).length) 0 = b := by
    have := getD_pre (pre ++ parT x.txt) b (parT y.txt ++ rest)
    rw [List.length_append] at this
    rw [e1, ← List.append_assoc]; exact this
  have h2' : partK (pre ++ ((Tr.op b x y).txt ++ rest)) n (pre.length + (parT x.txt).length + 1) = (y.post, pre.length + (Tr.op b x y).txt.length) := by
    have e3 : (pre ++ parT x.txt ++ [b]).length = pre.length + (parT x.txt).length + 1 := by simp only [List.length_append, List.length_singleton]
    rw [e3] at h2
    rw [h2, hlen]
    congr 1
    omega
  exact termOf_two h1 h2' hc hb
theorem partRd_op {b : Nat} {x y : Tr} (hT : TermRd (.op b x y)) : PartRd (.op b x y) := fun n pre rest hn => by
  rw [Tr.op_txt] at hn ⊢
  simp only [List.length_cons, List.length_append, List.length_nil] at hn ⊢
  obtain ⟨m, rfl⟩ : ∃ m, n = m + 1 := ⟨n - 1, by omega⟩
  have e1 : pre ++ (40 :: ((Tr.op b x y).txt ++ [41]) ++ rest) = (pre ++ [40]) ++ ((Tr.op b x y).txt ++ (41 :: rest)) := by simp
  have h1 := hT m (pre ++ [40]) (41 :: rest) (by omega) rfl
  rw [← e1] at h1
  have hg : (pre ++ (40 :: ((Tr.op b x y).txt ++ [41]) ++ rest)).getD pre.length 0 = 40 := getD_pre pre 40 _
  have e3 : (pre ++ [40]).length = pre.length + 1 := by simp
  rw [e3] at h1
  have hc : (pre ++ (40 :: ((Tr.op b x y).txt ++ [41]) ++ rest)).getD (pre.length + 1 + (Tr.op b x y).txt.length) 0 = 41 := by
    have := getD_pre (pre ++ [40] ++ (Tr.op b x y).txt) 41 rest
    rw [List.length_append, e3] at this
    rw [e1, ← List.append_assoc]; exact this
  rw [partK, if_pos hg, h1]
  simp only
  rw [if_pos hc]
  congr 1
  unfold nxK
  rw [if_pos (getD_ltz (by rw [hc]; decide))]
  omega
theorem Tr.rd : ∀ T : Tr, T.ok → PartRd T ∧ TermRd T
  | .lf b, h => ⟨partRd_lf h, termRd_lf h⟩
  | .op b x y, h => by
    have hT := termRd_op h.1 (x.rd h.2.1).1 (y.rd h.2.2).1
    exact ⟨partRd_op hT, hT⟩

/-! ### The same for the reference -/
def OpRd (T : Tr) : Prop := ∀ n pre rest, (parT T.txt).length ≤ n → opK (pre ++ (parT T.txt ++ rest)) n pre.length = some (T.post, pre.length + (parT T.txt).length)
def SideRd (T : Tr) : Prop := ∀ n pre rest, T.txt.length ≤ n → isOpB (rest.headD 0) = false → sideOf (pre ++ (T.txt ++ rest)) (opK (pre ++ (T.txt ++ rest)) n) pre.length = some (T.post, pre.length + T.txt.length)
theorem opK_leaf {l : List Nat} {k : Nat} (h : isLeafB (l.getD k 0) = true) : ∀ n, opK l n k = some ([l.getD k 0], k + 1)
  | 0 => by rw [opK, if_pos h]
  | n + 1 => by rw [opK, if_pos h]
theorem opRd_lf {b : Nat} (h : isLeafB b = true) : OpRd (.lf b) := fun n pre rest hn => by
  rw [Tr.lf_txt]
  have hg : (pre ++ ([b] ++ rest)).getD pre.length 0 = b := getD_pre pre b rest
  rw [opK_leaf (by rw [hg]; exact h) n, hg]
  rfl
theorem sideRd_lf {b : Nat} (h : isLeafB b = true) : SideRd (.lf b) := fun n pre rest hn hr => by
  have h1 := opRd_lf h n pre rest hn
  rw [Tr.lf_txt] at h1
  have hg : (pre ++ ([b] ++ rest)).getD (pre.length + [b].length) 0 = rest.headD 0 := by
    have := getD_head (pre ++ [b]) rest
    rw [List.append_assoc, List.length_append] at this
    exact this
  show sideOf (pre ++ ([b] ++ rest)) (opK (pre ++ ([b] ++ rest)) n) pre.length = _
  unfold sideOf
  rw [h1]
  simp only
  rw [if_pos (by rw [hg]; exact hr)]
  rfl
theorem sideRd_op {b : Nat} {x y : Tr} (hb : isOpB b = true) (hx : OpRd x) (hy : OpRd y) : SideRd (.op b x y) := fun n pre rest hn hr => by
  have hlen : (Tr.op b x y).txt.length = (parT x.txt).length + 1 + (parT y.txt).length := by simp only [Tr.txt, List.length_append, List.length_singleton]
  have e1 : pre ++ ((Tr.op b x y).txt ++ rest) = pre ++ (parT x.txt ++ (b :: (parT y.txt ++ rest))) := by simp [Tr.txt]
  have e2 : pre ++ ((Tr.op b x y).txt ++ rest) = (pre ++ parT x.txt ++ [b]) ++ (parT y.txt ++ rest) := by simp [Tr.txt]
  have h1 := hx n pre (b :: (parT y.txt ++ rest)) (by omega)
  have h2 := hy n (pre ++ parT x.txt ++ [b]) rest (by omega)
  rw [← e1] at h1
  rw [← e2] at h2
  have hc : (pre ++ ((Tr.op b x y).txt ++ rest)).getD (pre.length + (parT x.txt).length) 0 = b := by
    have := getD_pre (pre ++ parT x.txt) b (parT y.txt ++ rest)
    rw [List.length_append] at this
    rw [e1, ← List.append_assoc]; exact this
  have e3 : (pre ++ parT x.txt ++ [b]).length = pre.length + (parT x.txt).length + 1 := by simp only [List.length_append, List.length_singleton]
  rw [e3] at h2
  unfold sideOf
  rw [h1]
  simp only
  rw [hc, if_neg (by rw [hb]; exact Bool.noConfusion), h2]
  simp only
  rw [hlen]
  congr 2
  omega
theorem opRd_op {b : Nat} {x y : Tr} (hT : SideRd (.op b x y)) : OpRd (.op b x y) := fun n pre rest hn => by
  rw [Tr.op_txt] at hn ⊢
  simp only [List.length_cons, List.length_append, List.length_nil] at hn ⊢
  obtain ⟨m, rfl⟩ : ∃ m, n = m + 1 := ⟨n - 1, by omega⟩
  have e1 : pre ++ (40 :: ((Tr.op b x y).txt ++ [41]) ++ rest) = (pre ++ [40]) ++ ((Tr.op b x y).txt ++ (41 :: rest)) := by simp
  have h1 := hT m (pre ++ [40]) (41 :: rest) (by omega) rfl
  rw [← e1] at h1
  have hg : (pre ++ (40 :: ((Tr.op b x y).txt ++ [41]) ++ rest)).getD pre.length 0 = 40 := getD_pre pre 40 _
  have e3 : (pre ++ [40]).length = pre.length + 1 := by simp
  rw [e3] at h1
  have hc : (pre ++ (40 :: ((Tr.op b x y).txt ++ [41]) ++ rest)).getD (pre.length + 1 + (Tr.op b x y).txt.length) 0 = 41 := by
    have := getD_pre (pre ++ [40] ++ (Tr.op b x y).txt) 41 rest
    rw [List.length_append, e3] at this
    rw [e1, ← List.append_assoc]; exact this
  rw [opK, if_neg (by rw [hg]; decide), if_pos hg, h1]
  simp only
  have hp : (Tr.op b x y).post.length ≠ 1 := by
    have := x.post_pos
    have := y.post_pos
    simp only [Tr.post, List.length_append, List.length_singleton]; omega
  rw [if_neg (by rintro (h | h); exact hp h; exact h hc)]
  congr 2
  omega
theorem Tr.sd : ∀ T : Tr, T.ok → OpRd T ∧ SideRd T
  | .lf b, h => ⟨opRd_lf h, sideRd_lf h⟩
  | .op b x y, h => by
    have hT := sideRd_op h.1 (x.sd h.2.1).1 (y.sd h.2.2).1
    exact ⟨opRd_op hT, hT⟩

/-! ### Identities -/
/-- What the program reads. -/
def rdI (l : List Nat) : Option (List Nat × List Nat) :=
  if 240 < l.length then none else
  let a := termOf l (partK l l.length) 0
  if l.getD a.2 0 ≠ 61 then none else
  let b := termOf l (partK l l.length) (a.2 + 1)
  if isId a.1 b.1 = true ∧ idT a.1 b.1 = l then some (a.1, b.1) else none
/-- What the reference reads. -/
def rdS (l : List Nat) : Option (List Nat × List Nat) :=
  if 320 < l.length then none else
  match sideOf l (opK l l.length) 0 with
  | none => none
  | some (a, k1) => if l.getD k1 0 ≠ 61 then none else
    match sideOf l (opK l l.length) (k1 + 1) with
    | none => none
    | some (b, k2) => if k2 = l.length ∧ isId a b = true ∧ idT a b = l then some (a, b) else none
theorem isId_iff {xs ys : List Nat} : isId xs ys = true ↔ isTm (elB xs) xs.length = true ∧ isTm (elB ys) ys.length = true := by
  unfold isId; rw [Bool.and_eq_true]
theorem par_ge (s : List Nat) : s.length ≤ (parT s).length := (parT_len s).2
theorem rdI_iff {l : List Nat} {xs ys : List Nat} : rdI l = some (xs, ys) ↔ isId xs ys = true ∧ idT xs ys = l := by
  constructor
  · intro h
    unfold rdI at h
    split at h
    · cases h
    · simp only at h
      split at h
      · cases h
      · split at h
        · rename_i hc
          cases h
          exact hc
        · cases h
  · rintro ⟨h1, rfl⟩
    obtain ⟨hx, hy⟩ := isId_iff.1 h1
    obtain ⟨X, okX, hX, tX⟩ := tree_of hx
    obtain ⟨Y, okY, hY, tY⟩ := tree_of hy
    have hl : idT xs ys = X.txt ++ [61] ++ Y.txt := by unfold idT; rw [tX, tY]
    have bx : xs.length ≤ 40 := (isTm_iff.1 hx).2
    have by' : ys.length ≤ 40 := (isTm_iff.1 hy).2
    have lx := X.par_le
    have ly := Y.par_le
    rw [hX] at lx
    rw [hY] at ly
    have gx := par_ge X.txt
    have gy := par_ge Y.txt
    have hlen : (idT xs ys).length = X.txt.length + 1 + Y.txt.length := by rw [hl]; simp only [List.length_append, List.length_singleton]
    have e0 : idT xs ys = [] ++ (X.txt ++ (61 :: Y.txt)) := by rw [hl]; simp
    have e1 : idT xs ys = (X.txt ++ [61]) ++ (Y.txt ++ []) := by rw [hl]; simp
    have r1 := (X.rd okX).2 (idT xs ys).length [] (61 :: Y.txt) (by omega) rfl
    rw [← e0] at r1
    have r2 := (Y.rd okY).2 (idT xs ys).length (X.txt ++ [61]) [] (by omega) rfl
    rw [← e1] at r2
    simp only [List.length_nil, Nat.zero_add] at r1
    have e2 : (X.txt ++ [61]).length = X.txt.length + 1 := by simp
    rw [e2] at r2
    have hg : (idT xs ys).getD X.txt.length 0 = 61 := by
      have := getD_pre X.txt 61 Y.txt
      rw [e0]; exact this
    unfold rdI
    rw [if_neg (by omega)]
    simp only [r1, hg, r2, hX, hY, h1]
    simp
theorem rdS_iff {l : List Nat} {xs ys : List Nat} : rdS l = some (xs, ys) ↔ isId xs ys = true ∧ idT xs ys = l := by
  constructor
  · intro h
    unfold rdS at h
    split at h
    · cases h
    · split at h
      · cases h
      · split at h
        · cases h
        · split at h
          · cases h
          · split at h
            · rename_i hc
              cases h
              exact hc.2
            · cases h
  · rintro ⟨h1, rfl⟩
    obtain ⟨hx, hy⟩ := isId_iff.1 h1
    obtain ⟨X, okX, hX, tX⟩ := tree_of hx
    obtain ⟨Y, okY, hY, tY⟩ := tree_of hy
    have hl : idT xs ys = X.txt ++ [61] ++ Y.txt := by unfold idT; rw [tX, tY]
    have bx : xs.length ≤ 40 := (isTm_iff.1 hx).2
    have by' : ys.length ≤ 40 := (isTm_iff.1 hy).2
    have lx := X.par_le
    have ly := Y.par_le
    rw [hX] at lx
    rw [hY] at ly
    have gx := par_ge X.txt
    have gy := par_ge Y.txt
    have hlen : (idT xs ys).length = X.txt.length + 1 + Y.txt.length := by rw [hl]; simp only [List.length_append, List.length_singleton]
    have e0 : idT xs ys = [] ++ (X.txt ++ (61 :: Y.txt)) := by rw [hl]; simp
    have e1 : idT xs ys = (X.txt ++ [61]) ++ (Y.txt ++ []) := by rw [hl]; simp
    have r1 := (X.sd okX).2 (idT xs ys).length [] (61 :: Y.txt) (by omega) rfl
    rw [← e0] at r1
    have r2 := (Y.sd okY).2 (idT xs ys).length (X.txt ++ [61]) [] (by omega) rfl
    rw [← e1] at r2
    simp only [List.length_nil, Nat.zero_add] at r1
    have e2 : (X.txt ++ [61]).length = X.txt.length + 1 := by simp
    rw [e2] at r2
    have hg : (idT xs ys).getD X.txt.length 0 = 61 := by
      have := getD_pre X.txt 61 Y.txt
      rw [e0]; exact this
    unfold rdS
    rw [if_neg (by omega), r1]
    simp only [hg]
    rw [if_neg (by simp), r2]
    simp only [hX, hY, h1]
    rw [if_pos ⟨by omega, by first | rfl | trivial, by first | rfl | trivial⟩]
theorem rd_same (l : List Nat) : rdS l = rdI l := by
  rcases h : rdI l with _ | ⟨xs, ys⟩
  · rcases h2 : rdS l with _ | ⟨xs, ys⟩
    · rfl
    · rw [rdI_iff.2 (rdS_iff.1 h2)] at h; cases h
  · exact rdS_iff.2 (rdI_iff.1 h)
end Go.Proofs.YtocejggobgfccaaGreatDoor

/- Two results, of which the first is a struct in a cell of its own. -/
namespace Go.Proofs.YtocejggobgfccaaGreatDoor
set_option linter.unusedSimpArgs false
set_option linter.unusedVariables false
open Go Go.RowKit

theorem results_part2 {P : Program} {fn : Func} {p q : Tmp} {ty : TypeId} (h : fn.results = #[.cell p ty, .tmp q]) (tmps : Array Value) (w : World) (b off : Nat) (part : Array Value) (d : TypeDesc)
    (hp : tmps.getD p undef = .pointer (some ⟨b, off, none⟩)) (hu : P.underlying ty = some d) (hd : (match d with | .struct _ | .array _ _ => true | _ => false) = true) (hi : (P.info? ty).map (·.size) = some part.size)
    (hc : ∀ j v, part[j]? = some v → w.cell? ⟨b, off + j, none⟩ = some v) (v : Value) (hv : tmps.getD q undef = v) :
    (results fn tmps).run P w = .ok (.tuple #[.agg part, v]) w := by
  have hp' : tmps[p]?.getD undef = .pointer (some ⟨b, off, none⟩) := by simpa using hp
  have hv' : tmps[q]?.getD undef = v := by simpa using hv
  simp [results, h, hp', hv', asAddr, run_load_part w b off ty part d hu hd hi hc]
end Go.Proofs.YtocejggobgfccaaGreatDoor

/- An identity is read from its text, on both sides: contracts. -/
namespace Go.Proofs.YtocejggobgfccaaGreatDoor
set_option linter.unusedSimpArgs false
set_option linter.unusedVariables false
open Go Go.RowKit

/-- What a reader of identities hands back. -/
def RdIPost (o : Option (List Nat × List Nat)) (w : World) (e : Ending) (w' : World) : Prop :=
  match o with
  | none => ∃ p1 c1 p2 c2 n m, e = .returned (.tuple #[.agg (idV p1 c1 p2 c2 n m), .bool false]) ∧ Below w.heap.size w w'
  | some (xs, ys) => ∃ p1 c1 p2 c2, e = .returned (.tuple #[.agg (idV p1 c1 p2 c2 xs.length ys.length), .bool true]) ∧ Mm no w w' [.row w.heap.size (.slice p1 xs.length c1) xs.length (u8s xs) 5 1, .row w.heap.size (.slice p2 ys.length c2) ys.length (u8s ys) 5 1]
/-- A call hands back two rows in new memory. -/
theorem Mm.joinRows {D : Nat → Prop} {w0 w w' : World} {L : List Ent} {v1 v2 : Value} {n1 n2 : Nat} {xs1 xs2 : List Value} {e1 e2 s1 s2 : Nat} (M : Mm D w0 w L) (M' : Mm no w w' [.row w.heap.size v1 n1 xs1 e1 s1, .row w.heap.size v2 n2 xs2 e2 s2]) : Mm D w0 w' (.row w.heap.size v1 n1 xs1 e1 s1 :: .row w.heap.size v2 n2 xs2 e2 s2 :: L) :=
  M.join M' fun x hx b hb => by
    simp only [List.mem_cons, List.not_mem_nil, or_false] at hx
    rcases hx with rfl | rfl
    · exact place_row (M'.row 0 rfl) b hb
    · exact place_row (M'.row 1 rfl) b hb
theorem build_id0 (w : World) : (Instr.build 43 #[]).run Tryz.prog w = .ok (.agg (idV none 0 none 0 0 0)) w := by kernel_rfl
theorem build_id2 (p1 : Option Addr) (c1 : Nat) (p2 : Option Addr) (c2 n m : Nat) (w : World) : (Instr.build 43 #[(0, .slice p1 n c1), (1, .slice p2 m c2)]).run Tryz.prog w = .ok (.agg (idV p1 c1 p2 c2 n m)) w := by kernel_rfl
theorem build_wd (s : ByteArray) (w : World) : (Instr.build 117 #[(0, .string s)]).run Tryz.prog w = .ok (.agg #[.string s, .int .i64 0]) w := by kernel_rfl
theorem wd_start (l : List Nat) : (#[.string (str l), .int .i64 0] : Array Value) = wdA l 0 := rfl

theorem idT_byts {xs ys : List Nat} (h : isId xs ys = true) : Byts (idT xs ys) := by
  obtain ⟨hx, hy⟩ := isId_iff.1 h
  intro c hc
  unfold idT at hc
  simp only [List.mem_append, List.mem_singleton] at hc
  rcases hc with (hc | rfl) | hc
  · exact (txB_ok hx).2 c hc
  · omega
  · exact (txB_ok hy).2 c hc

set_option maxRecDepth 100000 in
set_option maxHeartbeats 4000000 in
theorem parseIdentity_any (l : List Nat) (hlm : l.length ≤ maxLen) (hb : Byts l) (w : World) : Calls Tryz.prog 65 #[.string (str l)] w (RdIPost (rdI l) w) := by
  have M := Mm.start no w
  have hsz := str_size l
  have hm : l.length ≤ 9223372036854775807 := Nat.le_trans hlm (by decide)
  have HR := Hid2.mk (show rdI l = (if 240 < l.length then none else if l.getD (termOf l (partK l l.length) 0).2 0 ≠ 61 then none else if isId (termOf l (partK l l.length) 0).1 (termOf l (partK l l.length) ((termOf l (partK l l.length) 0).2 + 1)).1 = true ∧ idT (termOf l (partK l l.length) 0).1 (termOf l (partK l l.length) ((termOf l (partK l l.length) 0).2 + 1)).1 = l then some ((termOf l (partK l l.length) 0).1, (termOf l (partK l l.length) ((termOf l (partK l l.length) 0).2 + 1)).1) else none) from rfl)
  clear hlm
  generalize rdI l = res at HR ⊢
  by_cases hlen : 240 < l.length
  · have h1 : (240 : Int) < (l.length : Int) := by omega
    have hr := HR.out
    rw [if_pos hlen] at hr
    subst hr
    clear HR hb
    go_enter Tryz.func65, Tryz.ntmps65
    go_wp2_with (first | ((with_reducible apply wpM_alloc' M 43 (idV none 0 none 0 0 0)); rfl; exact ⟨rfl, _, zero_idn _, rfl⟩; clear M; (try clear C); intro bz w9 h_bz M; have C := M.ruleAll; simp only [Go.Proofs.YtocejggobgfccaaGreatDoor.ruleAll] at C) | (refine wpList_build 43 _ rfl rfl [] rfl _ (build_id0 _) ?_) | ((with_reducible apply wpM_sta' M 0 43 (idV none 0 none 0 0 0)); rfl; rfl; rfl; rfl; (first | exact .inl (by assumption) | exact .inr rfl | exact .inr (by assumption)); exact ⟨rfl, inf_idn.trans (congrArg some (idv_size ..).symm), flat_idv _ _ _ _ _ _⟩; (simp only [entCells, List.getElem?_cons_zero, List.getElem?_cons_succ, idv_size, idv_size]); clear M; (try clear C); intro w9 M; simp only [List.set_cons_zero, List.set_cons_succ, entBlk, entT, List.getElem?_cons_zero, List.getElem?_cons_succ] at M; have C := M.ruleAll; simp only [Go.Proofs.YtocejggobgfccaaGreatDoor.ruleAll] at C))
    refine bodyPost_ret (v := .tuple #[.agg (idV none 0 none 0 0 0), .bool false]) (by exact results_part2 rfl _ _ _ _ (idV none 0 none 0 0 0) _ rfl und_idn rfl inf_idn (cells_of_blk0 (M.box 0 rfl)) _ rfl) rfl ?_
    exact ⟨_, _, _, _, _, _, rfl, M.below⟩
  · have h1 : ¬ (240 : Int) < (l.length : Int) := by omega
    have hl : l.length ≤ 1000 := by omega
    have HT1 := Hid2.mk (fun bw w1 h => term_any l hl hb bw 0 (Nat.zero_le _) w1 h)
    have b1 := termOf_b l.length (fun k => partK_b l l.length k) (k := 0) (Nat.zero_le _) (by omega)
    have HR2 := Hid2.mk (show res = _ from HR.out.trans (if_neg hlen))
    have HB2 := Hid2.mk (fun (h : (termOf l (partK l l.length) 0).2 + 1 ≤ l.length) => termOf_b l.length (fun k => partK_b l l.length k) (k := (termOf l (partK l l.length) 0).2 + 1) h (by omega))
    have HT2 := Hid2.mk (fun (h : (termOf l (partK l l.length) 0).2 + 1 ≤ l.length) bw w1 hb' => term_any l hl hb bw ((termOf l (partK l l.length) 0).2 + 1) h w1 hb')
    clear HR hlen
    generalize termOf l (partK l l.length) ((termOf l (partK l l.length) 0).2 + 1) = r2 at HR2 HT2 HB2
    generalize termOf l (partK l l.length) 0 = r1 at HT1 b1 HR2 HT2 HB2
    obtain ⟨xs, k1⟩ := r1
    obtain ⟨ys, k2⟩ := r2
    simp only at HT1 b1 HR2 HT2 HB2
    have hk1 := b1.le
    have hxl := b1.len
    simp only at hk1 hxl
    have HN := Hid2.mk (fun bw w1 h => next_any l hl hb k1 hk1 bw w1 h)
    go_enter Tryz.func65, Tryz.ntmps65
    go_wp2_with (first | ((with_reducible apply wpM_alloc' M 43 (idV none 0 none 0 0 0)); rfl; exact ⟨rfl, _, zero_idn _, rfl⟩; clear M; (try clear C); intro bz w9 h_bz M; have C := M.ruleAll; simp only [Go.Proofs.YtocejggobgfccaaGreatDoor.ruleAll] at C) | (refine wpList_build 117 _ rfl rfl [(0, .string (str l))] rfl _ (build_wd _ _) ?_) | ((with_reducible apply wpM_box' M 117 (wdA l 0)); rfl; exact ⟨rfl, rfl⟩; clear M; (try clear C); intro bw w9 h_bw M; have C := M.ruleAll; simp only [Go.Proofs.YtocejggobgfccaaGreatDoor.ruleAll] at C) | (go_at_call 82; fail))
    refine (HT1.out bw _ (M.box 0 rfl)).mono ?_
    rintro e w1 ⟨v, rfl, M'⟩
    have M9 := M.callw 0 rfl (.inl (by assumption)) M'
    simp only [List.set_cons_zero] at M9
    obtain ⟨pp1, cap1, rfl⟩ := own_form (M9.row 0 rfl)
    clear M; (try clear C)
    have M := M9
    clear M9 M' HT1
    have C := M.ruleAll; simp only [Go.Proofs.YtocejggobgfccaaGreatDoor.ruleAll] at C
    go_wp2_with (first | (go_at_call 83; fail))
    refine (HN.out bw _ (M.box 1 rfl)).mono ?_
    rintro e w3 ⟨rfl, M'⟩
    have M9 := M.wrote 1 rfl (.inl (by assumption)) M'.kept.grown (M'.box 0 rfl)
    simp only [List.set_cons_zero, List.set_cons_succ] at M9
    clear M; (try clear C)
    have M := M9
    clear M9 M' HN
    have C := M.ruleAll; simp only [Go.Proofs.YtocejggobgfccaaGreatDoor.ruleAll] at C
    by_cases hc : l.getD k1 0 = 61
    · have hlt : k1 < l.length := getD_ltz (by omega)
      have hnx : nxK l k1 = k1 + 1 := if_pos hlt
      have HT3 := Hid2.mk (fun bw w1 h => HT2.out (by omega) bw w1 h)
      have HR3 := Hid2.mk (show res = _ from HR2.out.trans (if_neg fun h => h hc))
      have b2 := (HB2.out (by omega)).len
      have b2' := (HB2.out (by omega)).le
      simp only at b2 b2'
      have hyl : ys.length ≤ 3000 := by omega
      rw [hc]
      rw [hnx] at M
      clear HR2 HT2 HB2 hc hnx b2 b2' b1
      have C := M.ruleAll; simp only [Go.Proofs.YtocejggobgfccaaGreatDoor.ruleAll] at C
      go_wp2_with (first | (go_at_call 82; fail))
      refine (HT3.out bw _ (M.box 1 rfl)).mono ?_
      rintro e w4 ⟨v, rfl, M'⟩
      have M9 := M.callw 1 rfl (.inl (by assumption)) M'
      simp only [List.set_cons_zero, List.set_cons_succ] at M9
      obtain ⟨pp2, cap2, rfl⟩ := own_form (M9.row 0 rfl)
      clear M; (try clear C)
      have M := M9
      clear M9 M' HT3
      have C := M.ruleAll; simp only [Go.Proofs.YtocejggobgfccaaGreatDoor.ruleAll] at C
      have HID := Hid2.mk (fun w1 r1 r2 => isIdentity_any xs ys (by omega) (by omega) w1 pp1 pp2 cap1 cap2 r1 r2)
      cases hid : isId xs ys with
      | false =>
        rw [hid] at HID
        have hr := HR3.out
        rw [if_neg (by rw [hid]; rintro ⟨h, _⟩; cases h)] at hr
        subst hr
        clear HR3 hid
        go_wp2_with (first | (refine wpList_build 43 _ rfl rfl [(0, .slice pp1 xs.length cap1), (1, .slice pp2 ys.length cap2)] rfl _ (build_id2 _ _ _ _ _ _ _) ?_) | (have hq := w4; clear hq; ((with_reducible apply wpM_alloc' M 43 (idV none 0 none 0 0 0)); rfl; exact ⟨rfl, _, zero_idn _, rfl⟩; clear M; (try clear C); intro bi w9 h_bi M; have C := M.ruleAll; simp only [Go.Proofs.YtocejggobgfccaaGreatDoor.ruleAll] at C)) | ((with_reducible apply wpM_sta' M 0 43 (idV pp1 cap1 pp2 cap2 xs.length ys.length)); rfl; rfl; rfl; rfl; (first | exact .inl (by assumption) | exact .inr rfl | exact .inr (by assumption)); exact ⟨rfl, inf_idn.trans (congrArg some (idv_size ..).symm), flat_idv _ _ _ _ _ _⟩; (simp only [entCells, List.getElem?_cons_zero, List.getElem?_cons_succ, idv_size, idv_size]); clear M; (try clear C); intro w9 M; simp only [List.set_cons_zero, List.set_cons_succ, entBlk, entT, List.getElem?_cons_zero, List.getElem?_cons_succ] at M; have C := M.ruleAll; simp only [Go.Proofs.YtocejggobgfccaaGreatDoor.ruleAll] at C) | ((with_reducible apply wpM_lda' M 0 43 0 (idV pp1 cap1 pp2 cap2 xs.length ys.length)); rfl; rfl; rfl; exact ⟨rfl, inf_idn.trans (congrArg some (idv_size ..).symm), _, und_idn, rfl⟩; exact whole_of rfl) | (go_at_call 84; ((with_reducible refine (HID.out _ (u8_rdq rfl (M.row 2 rfl)) (u8_rdq rfl (M.row 1 rfl))).mono ?_); rintro e w5 ⟨rfl, hb⟩; have hsz := M.size; (try (have G9 := G.later hb; clear G; have G := G9; clear G9)); have M9 := M.later hb; clear M; (try clear C); have M := M9; clear M9; have C := M.ruleAll; simp only [Go.Proofs.YtocejggobgfccaaGreatDoor.ruleAll] at C)) | (refine wpList_build 43 _ rfl rfl [] rfl _ (build_id0 _) ?_) | ((with_reducible apply wpM_sta' M 4 43 (idV none 0 none 0 0 0)); rfl; rfl; rfl; rfl; (first | exact .inl (by assumption) | exact .inr rfl | exact .inr (by assumption)); exact ⟨rfl, inf_idn.trans (congrArg some (idv_size ..).symm), flat_idv _ _ _ _ _ _⟩; (simp only [entCells, List.getElem?_cons_zero, List.getElem?_cons_succ, idv_size, idv_size]); clear M; (try clear C); intro w9 M; simp only [List.set_cons_zero, List.set_cons_succ, entBlk, entT, List.getElem?_cons_zero, List.getElem?_cons_succ] at M; have C := M.ruleAll; simp only [Go.Proofs.YtocejggobgfccaaGreatDoor.ruleAll] at C))
        refine bodyPost_ret (v := .tuple #[.agg (idV none 0 none 0 0 0), .bool false]) (by exact results_part2 rfl _ _ _ _ (idV none 0 none 0 0 0) _ rfl und_idn rfl inf_idn (cells_of_blk0 (M.box 4 rfl)) _ rfl) rfl ?_
        exact ⟨_, _, _, _, _, _, rfl, M.below⟩
      | true =>
        rw [hid] at HID
        obtain ⟨hX, hY⟩ := isId_iff.1 hid
        have HTX := Hid2.mk (fun w1 r1 r2 => identityText_any xs ys hX hY w1 pp1 pp2 cap1 cap2 r1 r2)
        have hse := str_eq (idT_byts hid) hb
        by_cases heq : idT xs ys = l
        · have hse' : ((str (idT xs ys)).toList == (str l).toList) = true := by rw [hse]; exact decide_eq_true heq
          have hr := HR3.out
          rw [if_pos ⟨hid, heq⟩] at hr
          subst hr
          clear HR3 hid hse heq hX hY
          generalize str (idT xs ys) = si at *
          go_wp2_with (first | (refine wpList_build 43 _ rfl rfl [(0, .slice pp1 xs.length cap1), (1, .slice pp2 ys.length cap2)] rfl _ (build_id2 _ _ _ _ _ _ _) ?_) | (have hq := w4; clear hq; ((with_reducible apply wpM_alloc' M 43 (idV none 0 none 0 0 0)); rfl; exact ⟨rfl, _, zero_idn _, rfl⟩; clear M; (try clear C); intro bi w9 h_bi M; have C := M.ruleAll; simp only [Go.Proofs.YtocejggobgfccaaGreatDoor.ruleAll] at C)) | ((with_reducible apply wpM_sta' M 0 43 (idV pp1 cap1 pp2 cap2 xs.length ys.length)); rfl; rfl; rfl; rfl; (first | exact .inl (by assumption) | exact .inr rfl | exact .inr (by assumption)); exact ⟨rfl, inf_idn.trans (congrArg some (idv_size ..).symm), flat_idv _ _ _ _ _ _⟩; (simp only [entCells, List.getElem?_cons_zero, List.getElem?_cons_succ, idv_size, idv_size]); clear M; (try clear C); intro w9 M; simp only [List.set_cons_zero, List.set_cons_succ, entBlk, entT, List.getElem?_cons_zero, List.getElem?_cons_succ] at M; have C := M.ruleAll; simp only [Go.Proofs.YtocejggobgfccaaGreatDoor.ruleAll] at C) | ((with_reducible apply wpM_lda' M 0 43 0 (idV pp1 cap1 pp2 cap2 xs.length ys.length)); rfl; rfl; rfl; exact ⟨rfl, inf_idn.trans (congrArg some (idv_size ..).symm), _, und_idn, rfl⟩; exact whole_of rfl) | (go_at_call 84; ((with_reducible refine (HID.out _ (u8_rdq rfl (M.row 2 rfl)) (u8_rdq rfl (M.row 1 rfl))).mono ?_); rintro e w5 ⟨rfl, hb⟩; have hsz := M.size; (try (have G9 := G.later hb; clear G; have G := G9; clear G9)); have M9 := M.later hb; clear M; (try clear C); have M := M9; clear M9; have C := M.ruleAll; simp only [Go.Proofs.YtocejggobgfccaaGreatDoor.ruleAll] at C)) | (go_at_call 85; ((with_reducible refine (HTX.out _ (u8_rdq rfl (M.row 2 rfl)) (u8_rdq rfl (M.row 1 rfl))).mono ?_); rintro e w5 ⟨rfl, hb⟩; have hsz := M.size; (try (have G9 := G.later hb; clear G; have G := G9; clear G9)); have M9 := M.later hb; clear M; (try clear C); have M := M9; clear M9; have C := M.ruleAll; simp only [Go.Proofs.YtocejggobgfccaaGreatDoor.ruleAll] at C)) | ((with_reducible apply wpM_sta' M 4 43 (idV pp1 cap1 pp2 cap2 xs.length ys.length)); rfl; rfl; rfl; rfl; (first | exact .inl (by assumption) | exact .inr rfl | exact .inr (by assumption)); exact ⟨rfl, inf_idn.trans (congrArg some (idv_size ..).symm), flat_idv _ _ _ _ _ _⟩; (simp only [entCells, List.getElem?_cons_zero, List.getElem?_cons_succ, idv_size, idv_size]); clear M; (try clear C); intro w9 M; simp only [List.set_cons_zero, List.set_cons_succ, entBlk, entT, List.getElem?_cons_zero, List.getElem?_cons_succ] at M; have C := M.ruleAll; simp only [Go.Proofs.YtocejggobgfccaaGreatDoor.ruleAll] at C))
          refine bodyPost_ret (v := .tuple #[.agg (idV pp1 cap1 pp2 cap2 xs.length ys.length), .bool true]) (by exact results_part2 rfl _ _ _ _ (idV pp1 cap1 pp2 cap2 xs.length ys.length) _ rfl und_idn rfl inf_idn (cells_of_blk0 (M.box 4 rfl)) _ rfl) rfl ?_
          exact ⟨pp1, cap1, pp2, cap2, rfl, M.sub [2, 1] (by decide)⟩
        · have hse' : ((str (idT xs ys)).toList == (str l).toList) = false := by rw [hse]; exact decide_eq_false heq
          have hr := HR3.out
          rw [if_neg (fun h => heq h.2)] at hr
          subst hr
          clear HR3 hid hse heq hX hY
          generalize str (idT xs ys) = si at *
          go_wp2_with (first | (refine wpList_build 43 _ rfl rfl [(0, .slice pp1 xs.length cap1), (1, .slice pp2 ys.length cap2)] rfl _ (build_id2 _ _ _ _ _ _ _) ?_) | (have hq := w4; clear hq; ((with_reducible apply wpM_alloc' M 43 (idV none 0 none 0 0 0)); rfl; exact ⟨rfl, _, zero_idn _, rfl⟩; clear M; (try clear C); intro bi w9 h_bi M; have C := M.ruleAll; simp only [Go.Proofs.YtocejggobgfccaaGreatDoor.ruleAll] at C)) | ((with_reducible apply wpM_sta' M 0 43 (idV pp1 cap1 pp2 cap2 xs.length ys.length)); rfl; rfl; rfl; rfl; (first | exact .inl (by assumption) | exact .inr rfl | exact .inr (by assumption)); exact ⟨rfl, inf_idn.trans (congrArg some (idv_size ..).symm), flat_idv _ _ _ _ _ _⟩; (simp only [entCells, List.getElem?_cons_zero, List.getElem?_cons_succ, idv_size, idv_size]); clear M; (try clear C); intro w9 M; simp only [List.set_cons_zero, List.set_cons_succ, entBlk, entT, List.getElem?_cons_zero, List.getElem?_cons_succ] at M; have C := M.ruleAll; simp only [Go.Proofs.YtocejggobgfccaaGreatDoor.ruleAll] at C) | ((with_reducible apply wpM_lda' M 0 43 0 (idV pp1 cap1 pp2 cap2 xs.length ys.length)); rfl; rfl; rfl; exact ⟨rfl, inf_idn.trans (congrArg some (idv_size ..).symm), _, und_idn, rfl⟩; exact whole_of rfl) | (go_at_call 84; ((with_reducible refine (HID.out _ (u8_rdq rfl (M.row 2 rfl)) (u8_rdq rfl (M.row 1 rfl))).mono ?_); rintro e w5 ⟨rfl, hb⟩; have hsz := M.size; (try (have G9 := G.later hb; clear G; have G := G9; clear G9)); have M9 := M.later hb; clear M; (try clear C); have M := M9; clear M9; have C := M.ruleAll; simp only [Go.Proofs.YtocejggobgfccaaGreatDoor.ruleAll] at C)) | (go_at_call 85; ((with_reducible refine (HTX.out _ (u8_rdq rfl (M.row 2 rfl)) (u8_rdq rfl (M.row 1 rfl))).mono ?_); rintro e w5 ⟨rfl, hb⟩; have hsz := M.size; (try (have G9 := G.later hb; clear G; have G := G9; clear G9)); have M9 := M.later hb; clear M; (try clear C); have M := M9; clear M9; have C := M.ruleAll; simp only [Go.Proofs.YtocejggobgfccaaGreatDoor.ruleAll] at C)) | (refine wpList_build 43 _ rfl rfl [] rfl _ (build_id0 _) ?_) | ((with_reducible apply wpM_sta' M 4 43 (idV none 0 none 0 0 0)); rfl; rfl; rfl; rfl; (first | exact .inl (by assumption) | exact .inr rfl | exact .inr (by assumption)); exact ⟨rfl, inf_idn.trans (congrArg some (idv_size ..).symm), flat_idv _ _ _ _ _ _⟩; (simp only [entCells, List.getElem?_cons_zero, List.getElem?_cons_succ, idv_size, idv_size]); clear M; (try clear C); intro w9 M; simp only [List.set_cons_zero, List.set_cons_succ, entBlk, entT, List.getElem?_cons_zero, List.getElem?_cons_succ] at M; have C := M.ruleAll; simp only [Go.Proofs.YtocejggobgfccaaGreatDoor.ruleAll] at C))
          refine bodyPost_ret (v := .tuple #[.agg (idV none 0 none 0 0 0), .bool false]) (by exact results_part2 rfl _ _ _ _ (idV none 0 none 0 0 0) _ rfl und_idn rfl inf_idn (cells_of_blk0 (M.box 4 rfl)) _ rfl) rfl ?_
          exact ⟨_, _, _, _, _, _, rfl, M.below⟩
    · have hr := HR2.out
      rw [if_pos hc] at hr
      subst hr
      have e4 : (((l.getD k1 0 : Nat) : Int) == (61 : Nat)) = false := neI hc
      have e5 : (((l.getD k1 0 : Nat) : Int) != (61 : Nat)) = true := by rw [bne, e4]; rfl
      have e6 : ((l.getD k1 0 : Nat) : Int) ≠ 61 := by have := hc; omega
      generalize l.getD k1 0 = b at *
      clear HR2 HT2 HB2 hc b1
      go_wp2_with (first | (refine wpList_build 43 _ rfl rfl [] rfl _ (build_id0 _) ?_) | ((with_reducible apply wpM_sta' M 2 43 (idV none 0 none 0 0 0)); rfl; rfl; rfl; rfl; (first | exact .inl (by assumption) | exact .inr rfl | exact .inr (by assumption)); exact ⟨rfl, inf_idn.trans (congrArg some (idv_size ..).symm), flat_idv _ _ _ _ _ _⟩; (simp only [entCells, List.getElem?_cons_zero, List.getElem?_cons_succ, idv_size, idv_size]); clear M; (try clear C); intro w9 M; simp only [List.set_cons_zero, List.set_cons_succ, entBlk, entT, List.getElem?_cons_zero, List.getElem?_cons_succ] at M; have C := M.ruleAll; simp only [Go.Proofs.YtocejggobgfccaaGreatDoor.ruleAll] at C))
      refine bodyPost_ret (v := .tuple #[.agg (idV none 0 none 0 0 0), .bool false]) (by exact results_part2 rfl _ _ _ _ (idV none 0 none 0 0 0) _ rfl und_idn rfl inf_idn (cells_of_blk0 (M.box 2 rfl)) _ rfl) rfl ?_
      exact ⟨_, _, _, _, _, _, rfl, M.below⟩
end Go.Proofs.YtocejggobgfccaaGreatDoor

/- An identity is read from its text, for the reference: a contract. -/
namespace Go.Proofs.YtocejggobgfccaaGreatDoor
set_option linter.unusedSimpArgs false
set_option linter.unusedVariables false
open Go Go.RowKit

section
variable {P : Program} {D : Nat → Prop} {w0 w : World} {a af : Act} {Q : Exit → Act → World → Prop}
/-- ONE OPERATION FLOATS; what is known before and behind it is told by F. -/
theorem wp_region_mmfs {id : Nat} {l : List Oper} (F : List Value → List Ent) (M : Mm D w0 w (F [])) (I : List Nat) (s1 n : Nat) (o1 : Oper) (hm : P.follows .mixedOrders = true) (hB : newI l.toArray I [s1] n = true) (h1 : l[s1]? = some o1) (hg1 : o1.guard = none)
    (ht : wpTextG P (fun g w => Mm D w0 w (F g)) l.toArray (I.filterMap fun i => l[i]?) a af) (hA : ∀ w, Mm D w0 w (F []) → yield P o1 af w fun u w' => Mm D w0 w' (F [u]))
    (hQ : ∀ v w', Mm D w0 w' (F [v]) → wpList P l.toArray Q (l.drop n) (af.put o1.dst v) w') : (Code.region id l.toArray true).wp P Q a w :=
  wp_region_float1 I s1 n o1 (fun g w => Mm D w0 w (F g)) hm hB h1 hg1 hA M.drew ht hQ
end
/-- A box that is written by the floating operation. -/
def fBox (b t : Nat) (z f : Array Value) (L : List Ent) : List Value → List Ent := fun g => .box b (if g.isEmpty then z else f) t :: L

set_option maxRecDepth 100000 in
set_option maxHeartbeats 8000000 in
theorem l03Read_any (l : List Nat) (hlm : l.length ≤ maxLen) (hb : Byts l) (w : World) : Calls Tryz.prog 32 #[.string (str l)] w (RdIPost (rdS l) w) := by
  have M := Mm.start no w
  have hsz := str_size l
  have hm : l.length ≤ 9223372036854775807 := Nat.le_trans hlm (by decide)
  have HR := Hid2.mk (show rdS l = (if 320 < l.length then none else match sideOf l (opK l l.length) 0 with | none => none | some (a, k1) => if l.getD k1 0 ≠ 61 then none else match sideOf l (opK l l.length) (k1 + 1) with | none => none | some (b, k2) => if k2 = l.length ∧ isId a b = true ∧ idT a b = l then some (a, b) else none) from rfl)
  clear hlm
  generalize rdS l = res at HR ⊢
  by_cases hlen : 320 < l.length
  · have h1 : (320 : Int) < (l.length : Int) := by omega
    have hr := HR.out
    rw [if_pos hlen] at hr
    subst hr
    clear HR hb
    go_enter Tryz.func32, Tryz.ntmps32
    go_wp2_with (first | ((with_reducible apply wpM_alloc' M 43 (idV none 0 none 0 0 0)); rfl; exact ⟨rfl, _, zero_idn _, rfl⟩; clear M; (try clear C); intro bz w9 h_bz M; have C := M.ruleAll; simp only [Go.Proofs.YtocejggobgfccaaGreatDoor.ruleAll] at C) | (refine wpList_build 43 _ rfl rfl [] rfl _ (build_id0 _) ?_) | ((with_reducible apply wpM_sta' M 0 43 (idV none 0 none 0 0 0)); rfl; rfl; rfl; rfl; (first | exact .inl (by assumption) | exact .inr rfl | exact .inr (by assumption)); exact ⟨rfl, inf_idn.trans (congrArg some (idv_size ..).symm), flat_idv _ _ _ _ _ _⟩; (simp only [entCells, List.getElem?_cons_zero, List.getElem?_cons_succ, idv_size, idv_size]); clear M; (try clear C); intro w9 M; simp only [List.set_cons_zero, List.set_cons_succ, entBlk, entT, List.getElem?_cons_zero, List.getElem?_cons_succ] at M; have C := M.ruleAll; simp only [Go.Proofs.YtocejggobgfccaaGreatDoor.ruleAll] at C))
    refine bodyPost_ret (v := .tuple #[.agg (idV none 0 none 0 0 0), .bool false]) (by exact results_part2 rfl _ _ _ _ (idV none 0 none 0 0 0) _ rfl und_idn rfl inf_idn (cells_of_blk0 (M.box 0 rfl)) _ rfl) rfl ?_
    exact ⟨_, _, _, _, _, _, rfl, M.below⟩
  · have h1 : ¬ (320 : Int) < (l.length : Int) := by omega
    have hl : l.length ≤ 1000 := by omega
    have HS1 := Hid2.mk (show ∀ w1, Calls Tryz.prog 49 #[.string (str l), .int .i64 0] w1 (SdPost 0 (sideOf l (opK l l.length) 0) w1) from fun w1 => side_any l hl hb 0 (Nat.zero_le _) w1)
    have b1 := sideOf_b (opK_b l l.length) 0
    have HR2 := Hid2.mk (show res = _ from HR.out.trans (if_neg hlen))
    have HB2 := Hid2.mk (fun k => sideOf_b (opK_b l l.length) k)
    have HS2 := Hid2.mk (show ∀ k : Nat, k + 1 ≤ l.length → ∀ w1, Calls Tryz.prog 49 #[.string (str l), .int .i64 ((k : Int) + 1)] w1 (SdPost (k + 1) (sideOf l (opK l l.length) (k + 1)) w1) from fun k h w1 => by have := side_any l hl hb (k + 1) h w1; rwa [show ((k + 1 : Nat) : Int) = (k : Int) + 1 by omega] at this)
    clear HR hlen
    generalize sideOf l (opK l l.length) = side at *
    rcases hs1 : side 0 with _ | ⟨xs, k1⟩
    · rw [hs1] at HS1 HR2
      have hr : res = none := HR2.out
      subst hr
      clear HR2 HS2 HB2 b1 hs1
      go_enter Tryz.func32, Tryz.ntmps32
      go_wp2_with (first | ((with_reducible apply wpM_alloc' M 43 (idV none 0 none 0 0 0)); rfl; exact ⟨rfl, _, zero_idn _, rfl⟩; clear M; (try clear C); intro bz w9 h_bz M; have C := M.ruleAll; simp only [Go.Proofs.YtocejggobgfccaaGreatDoor.ruleAll] at C) | (go_at_call 49; fail))
      refine (HS1.out _).mono ?_
      rintro e w1 ⟨rfl, hb⟩
      have M9 := M.later hb
      clear M; (try clear C)
      have M := M9
      clear M9 hb
      have C := M.ruleAll; simp only [Go.Proofs.YtocejggobgfccaaGreatDoor.ruleAll] at C
      go_wp2_with (first | (refine wpList_build 43 _ rfl rfl [] rfl _ (build_id0 _) ?_) | ((with_reducible apply wpM_sta' M 0 43 (idV none 0 none 0 0 0)); rfl; rfl; rfl; rfl; (first | exact .inl (by assumption) | exact .inr rfl | exact .inr (by assumption)); exact ⟨rfl, inf_idn.trans (congrArg some (idv_size ..).symm), flat_idv _ _ _ _ _ _⟩; (simp only [entCells, List.getElem?_cons_zero, List.getElem?_cons_succ, idv_size, idv_size]); clear M; (try clear C); intro w9 M; simp only [List.set_cons_zero, List.set_cons_succ, entBlk, entT, List.getElem?_cons_zero, List.getElem?_cons_succ] at M; have C := M.ruleAll; simp only [Go.Proofs.YtocejggobgfccaaGreatDoor.ruleAll] at C))
      refine bodyPost_ret (v := .tuple #[.agg (idV none 0 none 0 0 0), .bool false]) (by exact results_part2 rfl _ _ _ _ (idV none 0 none 0 0 0) _ rfl und_idn rfl inf_idn (cells_of_blk0 (M.box 0 rfl)) _ rfl) rfl ?_
      exact ⟨_, _, _, _, _, _, rfl, M.below⟩
    · obtain ⟨hk1, _, hxl⟩ := b1 xs k1 hs1
      rw [hs1] at HS1 HR2
      have HR3 := Hid2.mk (show res = (if l.getD k1 0 ≠ 61 then none else match side (k1 + 1) with | none => none | some (b, k2) => if k2 = l.length ∧ isId xs b = true ∧ idT xs b = l then some (xs, b) else none) from HR2.out)
      clear HR2 b1 hs1
      go_enter Tryz.func32, Tryz.ntmps32
      go_wp2_with (first | ((with_reducible apply wpM_alloc' M 43 (idV none 0 none 0 0 0)); rfl; exact ⟨rfl, _, zero_idn _, rfl⟩; clear M; (try clear C); intro bz w9 h_bz M; have C := M.ruleAll; simp only [Go.Proofs.YtocejggobgfccaaGreatDoor.ruleAll] at C) | (go_at_call 49; fail))
      refine (HS1.out _).mono ?_
      rintro e w1 ⟨v, rfl, M'⟩
      have M9 := M.joinRow M'
      obtain ⟨pp1, cap1, rfl⟩ := own_form (M9.row 0 rfl)
      clear M; (try clear C)
      have M := M9
      clear M9 M' HS1
      have C := M.ruleAll; simp only [Go.Proofs.YtocejggobgfccaaGreatDoor.ruleAll] at C
      by_cases hc : l.getD k1 0 = 61
      · have hlt : k1 < l.length := getD_ltz (by omega)
        have h2 : ¬ ((l.length : Int) ≤ (k1 : Int)) := by omega
        have hix : ∀ w : World, (Instr.index 9 (.string (str l)) (.int .i64 (k1 : Int))).run Tryz.prog w = .ok (.int .u8 61) w := fun w => by have := ix_str hb k1 hlt w; rw [hc] at this; exact this
        have HR4 := Hid2.mk (show res = _ from HR3.out.trans (if_neg fun h => h hc))
        have HS3 := Hid2.mk (HS2.out k1 (by omega))
        have b2 := HB2.out (k1 + 1)
        clear HR3 HS2 HB2 hc
        rcases hs2 : side (k1 + 1) with _ | ⟨ys, k2⟩
        · rw [hs2] at HS3 HR4
          have hr : res = none := HR4.out
          subst hr
          clear HR4 b2 hs2
          go_wp2_with (first | (go_at_call 49; fail))
          refine (HS3.out _).mono ?_
          rintro e w1 ⟨rfl, hb⟩
          have M9 := M.later hb
          clear M; (try clear C)
          have M := M9
          clear M9 hb
          have C := M.ruleAll; simp only [Go.Proofs.YtocejggobgfccaaGreatDoor.ruleAll] at C
          go_wp2_with (first | (refine wpList_build 43 _ rfl rfl [(0, .slice pp1 xs.length cap1), (1, .slice none 0 0)] rfl _ (build_id2 _ _ _ _ _ _ _) ?_) | ((with_reducible apply wpM_alloc' M 43 (idV none 0 none 0 0 0)); rfl; exact ⟨rfl, _, zero_idn _, rfl⟩; clear M; (try clear C); intro bo w9 h_bo M; have C := M.ruleAll; simp only [Go.Proofs.YtocejggobgfccaaGreatDoor.ruleAll] at C) | ((with_reducible apply wpM_sta' M 0 43 (idV pp1 cap1 none 0 xs.length 0)); rfl; rfl; rfl; rfl; (first | exact .inl (by assumption) | exact .inr rfl | exact .inr (by assumption)); exact ⟨rfl, inf_idn.trans (congrArg some (idv_size ..).symm), flat_idv _ _ _ _ _ _⟩; (simp only [entCells, List.getElem?_cons_zero, List.getElem?_cons_succ, idv_size, idv_size]); clear M; (try clear C); intro w9 M; simp only [List.set_cons_zero, List.set_cons_succ, entBlk, entT, List.getElem?_cons_zero, List.getElem?_cons_succ] at M; have C := M.ruleAll; simp only [Go.Proofs.YtocejggobgfccaaGreatDoor.ruleAll] at C))
          have M9 : Mm no w _ (fBox bz 43 (idV none 0 none 0 0 0) (idV pp1 cap1 none 0 xs.length 0) [.box bo (idV pp1 cap1 none 0 xs.length 0) 43, .row w.heap.size (.slice pp1 xs.length cap1) xs.length (u8s xs) 5 1] []) := M.sub [2, 0, 1] (by decide)
          clear M
          try clear C
          apply wp_region_mmfs (fBox bz 43 (idV none 0 none 0 0 0) (idV pp1 cap1 none 0 xs.length 0) [.box bo (idV pp1 cap1 none 0 xs.length 0) 43, .row w.heap.size (.slice pp1 xs.length cap1) xs.length (u8s xs) 5 1]) M9 [0, 1, 2, 3, 4, 5, 6, 7, 8, 9, 10, 11, 12, 13, 14, 15, 16, 17] 18 19 _ (by kernel_rfl) (by kernel_rfl) rfl rfl
          case ht => (repeat (first | exact wpTextG_nil | (apply wpTextG_cons; (intro g9 w2 M0; have M : Mm no w w2 (.box bz (if g9.isEmpty then idV none 0 none 0 0 0 else idV pp1 cap1 none 0 xs.length 0) 43 :: [.box bo (idV pp1 cap1 none 0 xs.length 0) 43, .row w.heap.size (.slice pp1 xs.length cap1) xs.length (u8s xs) 5 1]) := M0; clear M0; go_wp2_with (first | ((with_reducible apply wpM_lda' M 1 43 0 (idV pp1 cap1 none 0 xs.length 0)); rfl; rfl; rfl; exact ⟨rfl, inf_idn.trans (congrArg some (idv_size ..).symm), _, und_idn, rfl⟩; exact whole_of rfl)); exact ⟨rfl, rfl, M⟩); rfl)))
          case hA =>
            intro w2 M0
            have M : Mm no w w2 (.box bz (idV none 0 none 0 0 0) 43 :: [.box bo (idV pp1 cap1 none 0 xs.length 0) 43, .row w.heap.size (.slice pp1 xs.length cap1) xs.length (u8s xs) 5 1]) := M0
            clear M0
            refine yield_store (ops := #[]) (by exact rfl) (by exact rfl) ?_
            go_wp2_with (first | ((with_reducible apply wpM_sta' M 0 43 (idV pp1 cap1 none 0 xs.length 0)); rfl; rfl; rfl; rfl; (first | exact .inl (by assumption) | exact .inr rfl | exact .inr (by assumption)); exact ⟨rfl, inf_idn.trans (congrArg some (idv_size ..).symm), flat_idv _ _ _ _ _ _⟩; (simp only [entCells, List.getElem?_cons_zero, List.getElem?_cons_succ, idv_size, idv_size]); clear M; (try clear C); intro w9 M; simp only [List.set_cons_zero, List.set_cons_succ, entBlk, entT, List.getElem?_cons_zero, List.getElem?_cons_succ] at M; have C := M.ruleAll; simp only [Go.Proofs.YtocejggobgfccaaGreatDoor.ruleAll] at C))
            exact M
          clear M9
          intro v w2 M0
          have M : Mm no w w2 (.box bz (idV pp1 cap1 none 0 xs.length 0) 43 :: [.box bo (idV pp1 cap1 none 0 xs.length 0) 43, .row w.heap.size (.slice pp1 xs.length cap1) xs.length (u8s xs) 5 1]) := M0
          clear M0
          simp only [List.drop_succ_cons, List.drop_zero]
          go_wp2
          refine bodyPost_ret (v := .tuple #[.agg (idV pp1 cap1 none 0 xs.length 0), .bool false]) (by exact results_part2 rfl _ _ _ _ (idV pp1 cap1 none 0 xs.length 0) _ rfl und_idn rfl inf_idn (cells_of_blk0 (M.box 0 rfl)) _ rfl) rfl ?_
          exact ⟨_, _, _, _, _, _, rfl, M.below⟩
        · obtain ⟨hk2, _, hyl⟩ := b2 ys k2 hs2
          rw [hs2] at HS3 HR4
          have HR5 := Hid2.mk (show res = (if k2 = l.length ∧ isId xs ys = true ∧ idT xs ys = l then some (xs, ys) else none) from HR4.out)
          clear HR4 b2 hs2
          go_wp2_with (first | (go_at_call 49; fail))
          refine (HS3.out _).mono ?_
          rintro e w1 ⟨v, rfl, M'⟩
          have M9 := M.joinRow M'
          obtain ⟨pp2, cap2, rfl⟩ := own_form (M9.row 0 rfl)
          clear M; (try clear C)
          have M := M9
          clear M9 M' HS3
          have C := M.ruleAll; simp only [Go.Proofs.YtocejggobgfccaaGreatDoor.ruleAll] at C
          by_cases he : k2 = l.length
          · have he' : ((k2 : Int) == (l.length : Int)) = true := by rw [he]; simp
            have HID := Hid2.mk (fun w1 r1 r2 => l03Both_any xs ys (by omega) (by omega) w1 pp1 pp2 cap1 cap2 r1 r2)
            cases hid : isId xs ys with
            | false =>
              rw [hid] at HID
              have hr := HR5.out
              rw [if_neg (by rw [hid]; rintro ⟨_, h, _⟩; cases h)] at hr
              subst hr
              clear HR5 hid he
              go_wp2_with (first | (refine wpList_build 43 _ rfl rfl [(0, .slice pp1 xs.length cap1), (1, .slice pp2 ys.length cap2)] rfl _ (build_id2 _ _ _ _ _ _ _) ?_) | ((with_reducible apply wpM_alloc' M 43 (idV none 0 none 0 0 0)); rfl; exact ⟨rfl, _, zero_idn _, rfl⟩; clear M; (try clear C); intro bo w9 h_bo M; have C := M.ruleAll; simp only [Go.Proofs.YtocejggobgfccaaGreatDoor.ruleAll] at C) | ((with_reducible apply wpM_sta' M 0 43 (idV pp1 cap1 pp2 cap2 xs.length ys.length)); rfl; rfl; rfl; rfl; (first | exact .inl (by assumption) | exact .inr rfl | exact .inr (by assumption)); exact ⟨rfl, inf_idn.trans (congrArg some (idv_size ..).symm), flat_idv _ _ _ _ _ _⟩; (simp only [entCells, List.getElem?_cons_zero, List.getElem?_cons_succ, idv_size, idv_size]); clear M; (try clear C); intro w9 M; simp only [List.set_cons_zero, List.set_cons_succ, entBlk, entT, List.getElem?_cons_zero, List.getElem?_cons_succ] at M; have C := M.ruleAll; simp only [Go.Proofs.YtocejggobgfccaaGreatDoor.ruleAll] at C))
              have M9 : Mm no w _ (fBox bz 43 (idV none 0 none 0 0 0) (idV pp1 cap1 pp2 cap2 xs.length ys.length) [.box bo (idV pp1 cap1 pp2 cap2 xs.length ys.length) 43, .row w.heap.size (.slice pp2 ys.length cap2) ys.length (u8s ys) 5 1, .row w.heap.size (.slice pp1 xs.length cap1) xs.length (u8s xs) 5 1] []) := M.sub [3, 0, 1, 2] (by decide)
              clear M
              try clear C
              apply wp_region_mmfs (fBox bz 43 (idV none 0 none 0 0 0) (idV pp1 cap1 pp2 cap2 xs.length ys.length) [.box bo (idV pp1 cap1 pp2 cap2 xs.length ys.length) 43, .row w.heap.size (.slice pp2 ys.length cap2) ys.length (u8s ys) 5 1, .row w.heap.size (.slice pp1 xs.length cap1) xs.length (u8s xs) 5 1]) M9 [0, 1, 2, 3, 4, 5, 6, 7, 8, 9, 10, 11, 12, 13, 14, 15, 16, 17] 18 19 _ (by kernel_rfl) (by kernel_rfl) rfl rfl
              case ht => (repeat (first | exact wpTextG_nil | (apply wpTextG_cons; (intro g9 w2 M0; have M : Mm no w w2 (.box bz (if g9.isEmpty then idV none 0 none 0 0 0 else idV pp1 cap1 pp2 cap2 xs.length ys.length) 43 :: [.box bo (idV pp1 cap1 pp2 cap2 xs.length ys.length) 43, .row w.heap.size (.slice pp2 ys.length cap2) ys.length (u8s ys) 5 1, .row w.heap.size (.slice pp1 xs.length cap1) xs.length (u8s xs) 5 1]) := M0; clear M0; go_wp2_with (first | ((with_reducible apply wpM_lda' M 1 43 0 (idV pp1 cap1 pp2 cap2 xs.length ys.length)); rfl; rfl; rfl; exact ⟨rfl, inf_idn.trans (congrArg some (idv_size ..).symm), _, und_idn, rfl⟩; exact whole_of rfl) | (go_at_call 50; ((with_reducible refine (HID.out _ (u8_rdq rfl (M.row 3 rfl)) (u8_rdq rfl (M.row 2 rfl))).mono ?_); rintro e w5 ⟨rfl, hb⟩; have hsz := M.size; (try (have G9 := G.later hb; clear G; have G := G9; clear G9)); have M9 := M.later hb; clear M; (try clear C); have M := M9; clear M9; have C := M.ruleAll; simp only [Go.Proofs.YtocejggobgfccaaGreatDoor.ruleAll] at C))); exact ⟨rfl, rfl, M⟩); rfl)))
              case hA =>
                intro w2 M0
                have M : Mm no w w2 (.box bz (idV none 0 none 0 0 0) 43 :: [.box bo (idV pp1 cap1 pp2 cap2 xs.length ys.length) 43, .row w.heap.size (.slice pp2 ys.length cap2) ys.length (u8s ys) 5 1, .row w.heap.size (.slice pp1 xs.length cap1) xs.length (u8s xs) 5 1]) := M0
                clear M0
                refine yield_store (ops := #[]) (by exact rfl) (by exact rfl) ?_
                go_wp2_with (first | ((with_reducible apply wpM_sta' M 0 43 (idV pp1 cap1 pp2 cap2 xs.length ys.length)); rfl; rfl; rfl; rfl; (first | exact .inl (by assumption) | exact .inr rfl | exact .inr (by assumption)); exact ⟨rfl, inf_idn.trans (congrArg some (idv_size ..).symm), flat_idv _ _ _ _ _ _⟩; (simp only [entCells, List.getElem?_cons_zero, List.getElem?_cons_succ, idv_size, idv_size]); clear M; (try clear C); intro w9 M; simp only [List.set_cons_zero, List.set_cons_succ, entBlk, entT, List.getElem?_cons_zero, List.getElem?_cons_succ] at M; have C := M.ruleAll; simp only [Go.Proofs.YtocejggobgfccaaGreatDoor.ruleAll] at C))
                exact M
              clear M9
              intro v w2 M0
              have M : Mm no w w2 (.box bz (idV pp1 cap1 pp2 cap2 xs.length ys.length) 43 :: [.box bo (idV pp1 cap1 pp2 cap2 xs.length ys.length) 43, .row w.heap.size (.slice pp2 ys.length cap2) ys.length (u8s ys) 5 1, .row w.heap.size (.slice pp1 xs.length cap1) xs.length (u8s xs) 5 1]) := M0
              clear M0
              simp only [List.drop_succ_cons, List.drop_zero]
              go_wp2
              refine bodyPost_ret (v := .tuple #[.agg (idV pp1 cap1 pp2 cap2 xs.length ys.length), .bool false]) (by exact results_part2 rfl _ _ _ _ (idV pp1 cap1 pp2 cap2 xs.length ys.length) _ rfl und_idn rfl inf_idn (cells_of_blk0 (M.box 0 rfl)) _ rfl) rfl ?_
              exact ⟨_, _, _, _, _, _, rfl, M.below⟩
            | true =>
              rw [hid] at HID
              obtain ⟨hX, hY⟩ := isId_iff.1 hid
              have HTX := Hid2.mk (fun w1 r1 r2 => l03Shown_any xs ys hX hY w1 pp1 pp2 cap1 cap2 r1 r2)
              have hse := str_eq (idT_byts hid) hb
              by_cases heq : idT xs ys = l
              · have hse' : ((str (idT xs ys)).toList == (str l).toList) = true := by rw [hse]; exact decide_eq_true heq
                have hr := HR5.out
                rw [if_pos ⟨he, hid, heq⟩] at hr
                subst hr
                clear HR5 hid hse heq hX hY he
                generalize str (idT xs ys) = si at *
                go_wp2_with (first | (refine wpList_build 43 _ rfl rfl [(0, .slice pp1 xs.length cap1), (1, .slice pp2 ys.length cap2)] rfl _ (build_id2 _ _ _ _ _ _ _) ?_) | ((with_reducible apply wpM_alloc' M 43 (idV none 0 none 0 0 0)); rfl; exact ⟨rfl, _, zero_idn _, rfl⟩; clear M; (try clear C); intro bo w9 h_bo M; have C := M.ruleAll; simp only [Go.Proofs.YtocejggobgfccaaGreatDoor.ruleAll] at C) | ((with_reducible apply wpM_sta' M 0 43 (idV pp1 cap1 pp2 cap2 xs.length ys.length)); rfl; rfl; rfl; rfl; (first | exact .inl (by assumption) | exact .inr rfl | exact .inr (by assumption)); exact ⟨rfl, inf_idn.trans (congrArg some (idv_size ..).symm), flat_idv _ _ _ _ _ _⟩; (simp only [entCells, List.getElem?_cons_zero, List.getElem?_cons_succ, idv_size, idv_size]); clear M; (try clear C); intro w9 M; simp only [List.set_cons_zero, List.set_cons_succ, entBlk, entT, List.getElem?_cons_zero, List.getElem?_cons_succ] at M; have C := M.ruleAll; simp only [Go.Proofs.YtocejggobgfccaaGreatDoor.ruleAll] at C))
                have M9 : Mm no w _ (fBox bz 43 (idV none 0 none 0 0 0) (idV pp1 cap1 pp2 cap2 xs.length ys.length) [.box bo (idV pp1 cap1 pp2 cap2 xs.length ys.length) 43, .row w.heap.size (.slice pp2 ys.length cap2) ys.length (u8s ys) 5 1, .row w.heap.size (.slice pp1 xs.length cap1) xs.length (u8s xs) 5 1] []) := M.sub [3, 0, 1, 2] (by decide)
                clear M
                try clear C
                apply wp_region_mmfs (fBox bz 43 (idV none 0 none 0 0 0) (idV pp1 cap1 pp2 cap2 xs.length ys.length) [.box bo (idV pp1 cap1 pp2 cap2 xs.length ys.length) 43, .row w.heap.size (.slice pp2 ys.length cap2) ys.length (u8s ys) 5 1, .row w.heap.size (.slice pp1 xs.length cap1) xs.length (u8s xs) 5 1]) M9 [0, 1, 2, 3, 4, 5, 6, 7, 8, 9, 10, 11, 12, 13, 14, 15, 16, 17] 18 19 _ (by kernel_rfl) (by kernel_rfl) rfl rfl
                case ht => (repeat (first | exact wpTextG_nil | (apply wpTextG_cons; (intro g9 w2 M0; have M : Mm no w w2 (.box bz (if g9.isEmpty then idV none 0 none 0 0 0 else idV pp1 cap1 pp2 cap2 xs.length ys.length) 43 :: [.box bo (idV pp1 cap1 pp2 cap2 xs.length ys.length) 43, .row w.heap.size (.slice pp2 ys.length cap2) ys.length (u8s ys) 5 1, .row w.heap.size (.slice pp1 xs.length cap1) xs.length (u8s xs) 5 1]) := M0; clear M0; go_wp2_with (first | ((with_reducible apply wpM_lda' M 1 43 0 (idV pp1 cap1 pp2 cap2 xs.length ys.length)); rfl; rfl; rfl; exact ⟨rfl, inf_idn.trans (congrArg some (idv_size ..).symm), _, und_idn, rfl⟩; exact whole_of rfl) | (go_at_call 50; ((with_reducible refine (HID.out _ (u8_rdq rfl (M.row 3 rfl)) (u8_rdq rfl (M.row 2 rfl))).mono ?_); rintro e w5 ⟨rfl, hb⟩; have hsz := M.size; (try (have G9 := G.later hb; clear G; have G := G9; clear G9)); have M9 := M.later hb; clear M; (try clear C); have M := M9; clear M9; have C := M.ruleAll; simp only [Go.Proofs.YtocejggobgfccaaGreatDoor.ruleAll] at C)) | (go_at_call 51; ((with_reducible refine (HTX.out _ (u8_rdq rfl (M.row 3 rfl)) (u8_rdq rfl (M.row 2 rfl))).mono ?_); rintro e w5 ⟨rfl, hb⟩; have hsz := M.size; (try (have G9 := G.later hb; clear G; have G := G9; clear G9)); have M9 := M.later hb; clear M; (try clear C); have M := M9; clear M9; have C := M.ruleAll; simp only [Go.Proofs.YtocejggobgfccaaGreatDoor.ruleAll] at C))); exact ⟨rfl, rfl, M⟩); rfl)))
                case hA =>
                  intro w2 M0
                  have M : Mm no w w2 (.box bz (idV none 0 none 0 0 0) 43 :: [.box bo (idV pp1 cap1 pp2 cap2 xs.length ys.length) 43, .row w.heap.size (.slice pp2 ys.length cap2) ys.length (u8s ys) 5 1, .row w.heap.size (.slice pp1 xs.length cap1) xs.length (u8s xs) 5 1]) := M0
                  clear M0
                  refine yield_store (ops := #[]) (by exact rfl) (by exact rfl) ?_
                  go_wp2_with (first | ((with_reducible apply wpM_sta' M 0 43 (idV pp1 cap1 pp2 cap2 xs.length ys.length)); rfl; rfl; rfl; rfl; (first | exact .inl (by assumption) | exact .inr rfl | exact .inr (by assumption)); exact ⟨rfl, inf_idn.trans (congrArg some (idv_size ..).symm), flat_idv _ _ _ _ _ _⟩; (simp only [entCells, List.getElem?_cons_zero, List.getElem?_cons_succ, idv_size, idv_size]); clear M; (try clear C); intro w9 M; simp only [List.set_cons_zero, List.set_cons_succ, entBlk, entT, List.getElem?_cons_zero, List.getElem?_cons_succ] at M; have C := M.ruleAll; simp only [Go.Proofs.YtocejggobgfccaaGreatDoor.ruleAll] at C))
                  exact M
                clear M9
                intro v w2 M0
                have M : Mm no w w2 (.box bz (idV pp1 cap1 pp2 cap2 xs.length ys.length) 43 :: [.box bo (idV pp1 cap1 pp2 cap2 xs.length ys.length) 43, .row w.heap.size (.slice pp2 ys.length cap2) ys.length (u8s ys) 5 1, .row w.heap.size (.slice pp1 xs.length cap1) xs.length (u8s xs) 5 1]) := M0
                clear M0
                simp only [List.drop_succ_cons, List.drop_zero]
                go_wp2
                refine bodyPost_ret (v := .tuple #[.agg (idV pp1 cap1 pp2 cap2 xs.length ys.length), .bool true]) (by exact results_part2 rfl _ _ _ _ (idV pp1 cap1 pp2 cap2 xs.length ys.length) _ rfl und_idn rfl inf_idn (cells_of_blk0 (M.box 0 rfl)) _ rfl) rfl ?_
                exact ⟨pp1, cap1, pp2, cap2, rfl, M.sub [3, 2] (by decide)⟩
              · have hse' : ((str (idT xs ys)).toList == (str l).toList) = false := by rw [hse]; exact decide_eq_false heq
                have hr := HR5.out
                rw [if_neg (fun h => heq h.2.2)] at hr
                subst hr
                clear HR5 hid hse heq hX hY he
                generalize str (idT xs ys) = si at *
                go_wp2_with (first | (refine wpList_build 43 _ rfl rfl [(0, .slice pp1 xs.length cap1), (1, .slice pp2 ys.length cap2)] rfl _ (build_id2 _ _ _ _ _ _ _) ?_) | ((with_reducible apply wpM_alloc' M 43 (idV none 0 none 0 0 0)); rfl; exact ⟨rfl, _, zero_idn _, rfl⟩; clear M; (try clear C); intro bo w9 h_bo M; have C := M.ruleAll; simp only [Go.Proofs.YtocejggobgfccaaGreatDoor.ruleAll] at C) | ((with_reducible apply wpM_sta' M 0 43 (idV pp1 cap1 pp2 cap2 xs.length ys.length)); rfl; rfl; rfl; rfl; (first | exact .inl (by assumption) | exact .inr rfl | exact .inr (by assumption)); exact ⟨rfl, inf_idn.trans (congrArg some (idv_size ..).symm), flat_idv _ _ _ _ _ _⟩; (simp only [entCells, List.getElem?_cons_zero, List.getElem?_cons_succ, idv_size, idv_size]); clear M; (try clear C); intro w9 M; simp only [List.set_cons_zero, List.set_cons_succ, entBlk, entT, List.getElem?_cons_zero, List.getElem?_cons_succ] at M; have C := M.ruleAll; simp only [Go.Proofs.YtocejggobgfccaaGreatDoor.ruleAll] at C))
                have M9 : Mm no w _ (fBox bz 43 (idV none 0 none 0 0 0) (idV pp1 cap1 pp2 cap2 xs.length ys.length) [.box bo (idV pp1 cap1 pp2 cap2 xs.length ys.length) 43, .row w.heap.size (.slice pp2 ys.length cap2) ys.length (u8s ys) 5 1, .row w.heap.size (.slice pp1 xs.length cap1) xs.length (u8s xs) 5 1] []) := M.sub [3, 0, 1, 2] (by decide)
                clear M
                try clear C
                apply wp_region_mmfs (fBox bz 43 (idV none 0 none 0 0 0) (idV pp1 cap1 pp2 cap2 xs.length ys.length) [.box bo (idV pp1 cap1 pp2 cap2 xs.length ys.length) 43, .row w.heap.size (.slice pp2 ys.length cap2) ys.length (u8s ys) 5 1, .row w.heap.size (.slice pp1 xs.length cap1) xs.length (u8s xs) 5 1]) M9 [0, 1, 2, 3, 4, 5, 6, 7, 8, 9, 10, 11, 12, 13, 14, 15, 16, 17] 18 19 _ (by kernel_rfl) (by kernel_rfl) rfl rfl
                case ht => (repeat (first | exact wpTextG_nil | (apply wpTextG_cons; (intro g9 w2 M0; have M : Mm no w w2 (.box bz (if g9.isEmpty then idV none 0 none 0 0 0 else idV pp1 cap1 pp2 cap2 xs.length ys.length) 43 :: [.box bo (idV pp1 cap1 pp2 cap2 xs.length ys.length) 43, .row w.heap.size (.slice pp2 ys.length cap2) ys.length (u8s ys) 5 1, .row w.heap.size (.slice pp1 xs.length cap1) xs.length (u8s xs) 5 1]) := M0; clear M0; go_wp2_with (first | ((with_reducible apply wpM_lda' M 1 43 0 (idV pp1 cap1 pp2 cap2 xs.length ys.length)); rfl; rfl; rfl; exact ⟨rfl, inf_idn.trans (congrArg some (idv_size ..).symm), _, und_idn, rfl⟩; exact whole_of rfl) | (go_at_call 50; ((with_reducible refine (HID.out _ (u8_rdq rfl (M.row 3 rfl)) (u8_rdq rfl (M.row 2 rfl))).mono ?_); rintro e w5 ⟨rfl, hb⟩; have hsz := M.size; (try (have G9 := G.later hb; clear G; have G := G9; clear G9)); have M9 := M.later hb; clear M; (try clear C); have M := M9; clear M9; have C := M.ruleAll; simp only [Go.Proofs.YtocejggobgfccaaGreatDoor.ruleAll] at C)) | (go_at_call 51; ((with_reducible refine (HTX.out _ (u8_rdq rfl (M.row 3 rfl)) (u8_rdq rfl (M.row 2 rfl))).mono ?_); rintro e w5 ⟨rfl, hb⟩; have hsz := M.size; (try (have G9 := G.later hb; clear G; have G := G9; clear G9)); have M9 := M.later hb; clear M; (try clear C); have M := M9; clear M9; have C := M.ruleAll; simp only [Go.Proofs.YtocejggobgfccaaGreatDoor.ruleAll] at C))); exact ⟨rfl, rfl, M⟩); rfl)))
                case hA =>
                  intro w2 M0
                  have M : Mm no w w2 (.box bz (idV none 0 none 0 0 0) 43 :: [.box bo (idV pp1 cap1 pp2 cap2 xs.length ys.length) 43, .row w.heap.size (.slice pp2 ys.length cap2) ys.length (u8s ys) 5 1, .row w.heap.size (.slice pp1 xs.length cap1) xs.length (u8s xs) 5 1]) := M0
                  clear M0
                  refine yield_store (ops := #[]) (by exact rfl) (by exact rfl) ?_
                  go_wp2_with (first | ((with_reducible apply wpM_sta' M 0 43 (idV pp1 cap1 pp2 cap2 xs.length ys.length)); rfl; rfl; rfl; rfl; (first | exact .inl (by assumption) | exact .inr rfl | exact .inr (by assumption)); exact ⟨rfl, inf_idn.trans (congrArg some (idv_size ..).symm), flat_idv _ _ _ _ _ _⟩; (simp only [entCells, List.getElem?_cons_zero, List.getElem?_cons_succ, idv_size, idv_size]); clear M; (try clear C); intro w9 M; simp only [List.set_cons_zero, List.set_cons_succ, entBlk, entT, List.getElem?_cons_zero, List.getElem?_cons_succ] at M; have C := M.ruleAll; simp only [Go.Proofs.YtocejggobgfccaaGreatDoor.ruleAll] at C))
                  exact M
                clear M9
                intro v w2 M0
                have M : Mm no w w2 (.box bz (idV pp1 cap1 pp2 cap2 xs.length ys.length) 43 :: [.box bo (idV pp1 cap1 pp2 cap2 xs.length ys.length) 43, .row w.heap.size (.slice pp2 ys.length cap2) ys.length (u8s ys) 5 1, .row w.heap.size (.slice pp1 xs.length cap1) xs.length (u8s xs) 5 1]) := M0
                clear M0
                simp only [List.drop_succ_cons, List.drop_zero]
                go_wp2
                refine bodyPost_ret (v := .tuple #[.agg (idV pp1 cap1 pp2 cap2 xs.length ys.length), .bool false]) (by exact results_part2 rfl _ _ _ _ (idV pp1 cap1 pp2 cap2 xs.length ys.length) _ rfl und_idn rfl inf_idn (cells_of_blk0 (M.box 0 rfl)) _ rfl) rfl ?_
                exact ⟨_, _, _, _, _, _, rfl, M.below⟩
          · have he' : ((k2 : Int) == (l.length : Int)) = false := by simp; omega
            have hr := HR5.out
            rw [if_neg (fun h => he h.1)] at hr
            subst hr
            clear HR5 he
            go_wp2_with (first | (refine wpList_build 43 _ rfl rfl [(0, .slice pp1 xs.length cap1), (1, .slice pp2 ys.length cap2)] rfl _ (build_id2 _ _ _ _ _ _ _) ?_) | ((with_reducible apply wpM_alloc' M 43 (idV none 0 none 0 0 0)); rfl; exact ⟨rfl, _, zero_idn _, rfl⟩; clear M; (try clear C); intro bo w9 h_bo M; have C := M.ruleAll; simp only [Go.Proofs.YtocejggobgfccaaGreatDoor.ruleAll] at C) | ((with_reducible apply wpM_sta' M 0 43 (idV pp1 cap1 pp2 cap2 xs.length ys.length)); rfl; rfl; rfl; rfl; (first | exact .inl (by assumption) | exact .inr rfl | exact .inr (by assumption)); exact ⟨rfl, inf_idn.trans (congrArg some (idv_size ..).symm), flat_idv _ _ _ _ _ _⟩; (simp only [entCells, List.getElem?_cons_zero, List.getElem?_cons_succ, idv_size, idv_size]); clear M; (try clear C); intro w9 M; simp only [List.set_cons_zero, List.set_cons_succ, entBlk, entT, List.getElem?_cons_zero, List.getElem?_cons_succ] at M; have C := M.ruleAll; simp only [Go.Proofs.YtocejggobgfccaaGreatDoor.ruleAll] at C))
            have M9 : Mm no w _ (fBox bz 43 (idV none 0 none 0 0 0) (idV pp1 cap1 pp2 cap2 xs.length ys.length) [.box bo (idV pp1 cap1 pp2 cap2 xs.length ys.length) 43, .row w.heap.size (.slice pp2 ys.length cap2) ys.length (u8s ys) 5 1, .row w.heap.size (.slice pp1 xs.length cap1) xs.length (u8s xs) 5 1] []) := M.sub [3, 0, 1, 2] (by decide)
            clear M
            try clear C
            apply wp_region_mmfs (fBox bz 43 (idV none 0 none 0 0 0) (idV pp1 cap1 pp2 cap2 xs.length ys.length) [.box bo (idV pp1 cap1 pp2 cap2 xs.length ys.length) 43, .row w.heap.size (.slice pp2 ys.length cap2) ys.length (u8s ys) 5 1, .row w.heap.size (.slice pp1 xs.length cap1) xs.length (u8s xs) 5 1]) M9 [0, 1, 2, 3, 4, 5, 6, 7, 8, 9, 10, 11, 12, 13, 14, 15, 16, 17] 18 19 _ (by kernel_rfl) (by kernel_rfl) rfl rfl
            case ht => (repeat (first | exact wpTextG_nil | (apply wpTextG_cons; (intro g9 w2 M0; have M : Mm no w w2 (.box bz (if g9.isEmpty then idV none 0 none 0 0 0 else idV pp1 cap1 pp2 cap2 xs.length ys.length) 43 :: [.box bo (idV pp1 cap1 pp2 cap2 xs.length ys.length) 43, .row w.heap.size (.slice pp2 ys.length cap2) ys.length (u8s ys) 5 1, .row w.heap.size (.slice pp1 xs.length cap1) xs.length (u8s xs) 5 1]) := M0; clear M0; go_wp2_with (first | ((with_reducible apply wpM_lda' M 1 43 0 (idV pp1 cap1 pp2 cap2 xs.length ys.length)); rfl; rfl; rfl; exact ⟨rfl, inf_idn.trans (congrArg some (idv_size ..).symm), _, und_idn, rfl⟩; exact whole_of rfl)); exact ⟨rfl, rfl, M⟩); rfl)))
            case hA =>
              intro w2 M0
              have M : Mm no w w2 (.box bz (idV none 0 none 0 0 0) 43 :: [.box bo (idV pp1 cap1 pp2 cap2 xs.length ys.length) 43, .row w.heap.size (.slice pp2 ys.length cap2) ys.length (u8s ys) 5 1, .row w.heap.size (.slice pp1 xs.length cap1) xs.length (u8s xs) 5 1]) := M0
              clear M0
              refine yield_store (ops := #[]) (by exact rfl) (by exact rfl) ?_
              go_wp2_with (first | ((with_reducible apply wpM_sta' M 0 43 (idV pp1 cap1 pp2 cap2 xs.length ys.length)); rfl; rfl; rfl; rfl; (first | exact .inl (by assumption) | exact .inr rfl | exact .inr (by assumption)); exact ⟨rfl, inf_idn.trans (congrArg some (idv_size ..).symm), flat_idv _ _ _ _ _ _⟩; (simp only [entCells, List.getElem?_cons_zero, List.getElem?_cons_succ, idv_size, idv_size]); clear M; (try clear C); intro w9 M; simp only [List.set_cons_zero, List.set_cons_succ, entBlk, entT, List.getElem?_cons_zero, List.getElem?_cons_succ] at M; have C := M.ruleAll; simp only [Go.Proofs.YtocejggobgfccaaGreatDoor.ruleAll] at C))
              exact M
            clear M9
            intro v w2 M0
            have M : Mm no w w2 (.box bz (idV pp1 cap1 pp2 cap2 xs.length ys.length) 43 :: [.box bo (idV pp1 cap1 pp2 cap2 xs.length ys.length) 43, .row w.heap.size (.slice pp2 ys.length cap2) ys.length (u8s ys) 5 1, .row w.heap.size (.slice pp1 xs.length cap1) xs.length (u8s xs) 5 1]) := M0
            clear M0
            simp only [List.drop_succ_cons, List.drop_zero]
            go_wp2
            refine bodyPost_ret (v := .tuple #[.agg (idV pp1 cap1 pp2 cap2 xs.length ys.length), .bool false]) (by exact results_part2 rfl _ _ _ _ (idV pp1 cap1 pp2 cap2 xs.length ys.length) _ rfl und_idn rfl inf_idn (cells_of_blk0 (M.box 0 rfl)) _ rfl) rfl ?_
            exact ⟨_, _, _, _, _, _, rfl, M.below⟩
      · have hr := HR3.out
        rw [if_pos hc] at hr
        subst hr
        clear HR3 HS2 HB2
        by_cases hlt : k1 < l.length
        · have h2 : ¬ ((l.length : Int) ≤ (k1 : Int)) := by omega
          have hix := ix_str hb k1 hlt
          have e4 : (((l.getD k1 0 : Nat) : Int) == 61) = false := neI hc
          have e5 : (((l.getD k1 0 : Nat) : Int) != 61) = true := by rw [bne, e4]; rfl
          have e6 : ((l.getD k1 0 : Nat) : Int) ≠ 61 := by have := hc; omega
          generalize l.getD k1 0 = b at *
          clear hc
          go_wp2_with (first | (refine wpList_build 43 _ rfl rfl [] rfl _ (build_id0 _) ?_) | ((with_reducible apply wpM_sta' M 1 43 (idV none 0 none 0 0 0)); rfl; rfl; rfl; rfl; (first | exact .inl (by assumption) | exact .inr rfl | exact .inr (by assumption)); exact ⟨rfl, inf_idn.trans (congrArg some (idv_size ..).symm), flat_idv _ _ _ _ _ _⟩; (simp only [entCells, List.getElem?_cons_zero, List.getElem?_cons_succ, idv_size, idv_size]); clear M; (try clear C); intro w9 M; simp only [List.set_cons_zero, List.set_cons_succ, entBlk, entT, List.getElem?_cons_zero, List.getElem?_cons_succ] at M; have C := M.ruleAll; simp only [Go.Proofs.YtocejggobgfccaaGreatDoor.ruleAll] at C))
          refine bodyPost_ret (v := .tuple #[.agg (idV none 0 none 0 0 0), .bool false]) (by exact results_part2 rfl _ _ _ _ (idV none 0 none 0 0 0) _ rfl und_idn rfl inf_idn (cells_of_blk0 (M.box 1 rfl)) _ rfl) rfl ?_
          exact ⟨_, _, _, _, _, _, rfl, M.below⟩
        · have h2 : (l.length : Int) ≤ (k1 : Int) := by omega
          clear hc
          go_wp2_with (first | (refine wpList_build 43 _ rfl rfl [] rfl _ (build_id0 _) ?_) | ((with_reducible apply wpM_sta' M 1 43 (idV none 0 none 0 0 0)); rfl; rfl; rfl; rfl; (first | exact .inl (by assumption) | exact .inr rfl | exact .inr (by assumption)); exact ⟨rfl, inf_idn.trans (congrArg some (idv_size ..).symm), flat_idv _ _ _ _ _ _⟩; (simp only [entCells, List.getElem?_cons_zero, List.getElem?_cons_succ, idv_size, idv_size]); clear M; (try clear C); intro w9 M; simp only [List.set_cons_zero, List.set_cons_succ, entBlk, entT, List.getElem?_cons_zero, List.getElem?_cons_succ] at M; have C := M.ruleAll; simp only [Go.Proofs.YtocejggobgfccaaGreatDoor.ruleAll] at C))
          refine bodyPost_ret (v := .tuple #[.agg (idV none 0 none 0 0 0), .bool false]) (by exact results_part2 rfl _ _ _ _ (idV none 0 none 0 0 0) _ rfl und_idn rfl inf_idn (cells_of_blk0 (M.box 1 rfl)) _ rfl) rfl ?_
          exact ⟨_, _, _, _, _, _, rfl, M.below⟩
end Go.Proofs.YtocejggobgfccaaGreatDoor

/- The value of a term, for the reference: a contract. -/
namespace Go.Proofs.YtocejggobgfccaaGreatDoor
set_option linter.unusedSimpArgs false
set_option linter.unusedVariables false
open Go Go.RowKit

/-- A stack of values, the last one first, as a row. -/
def stkV (s : List Nat) : List Value := s.reverse.map fun (v : Nat) => .int .u8 (v : Int)
theorem stkV_len (s : List Nat) : (stkV s).length = s.length := by simp [stkV]
theorem stkV_push (v : Nat) (s : List Nat) : stkV (v :: s) = stkV s ++ [.int .u8 (v : Int)] := by simp [stkV]
theorem stkV_at1 (c a : Nat) (r : List Nat) : (stkV (c :: a :: r))[r.length]? = some (.int .u8 (a : Int)) := by
  rw [stkV_push, stkV_push, List.append_assoc, List.getElem?_append_right (by rw [stkV_len]; exact Nat.le_refl _), stkV_len]; simp
theorem stkV_at2 (c a : Nat) (r : List Nat) : (stkV (c :: a :: r))[r.length + 1]? = some (.int .u8 (c : Int)) := by
  rw [stkV_push, stkV_push, List.append_assoc, List.getElem?_append_right (by rw [stkV_len]; omega), stkV_len]; simp
theorem stkV_cut (c a : Nat) (r : List Nat) : (stkV (c :: a :: r)).take r.length = stkV r := by
  rw [stkV_push, stkV_push, List.append_assoc, ← stkV_len r, List.take_left']
  rfl
theorem bsl_u80 (w : World) : (Instr.buildSlice 41 0 [].toArray).run Tryz.prog w = .ok (.slice (some ⟨w.heap.size, 0, none⟩) 0 0) (w.alloc (.cells #[] 5)) := by kernel_rfl
theorem bsl_u8 (i : Int) (w : World) : (Instr.buildSlice 41 1 [(0, Value.int .u8 i)].toArray).run Tryz.prog w = .ok (.slice (some ⟨w.heap.size, 0, none⟩) 1 1) (w.alloc (.cells #[.int .u8 i] 5)) := by kernel_rfl

set_option maxRecDepth 100000 in
set_option maxHeartbeats 4000000 in
theorem l03Value_any (n : Int) (t : Nat → Nat → Nat) (hs : IsSq n t) (x y z : Nat) (hx : (x : Int) < n) (hy : (y : Int) < n) (hz : (z : Int) < n) (xs : List Nat) (hT : isTm (elB xs) xs.length = true)
    (w : World) (p : Option Addr) (cap : Nat) (hr : rdq w p xs.length (bytF xs)) :
    Calls Tryz.prog 53 #[.agg (sqs n t), .slice p xs.length cap, .int .u8 (x : Int), .int .u8 (y : Int), .int .u8 (z : Int)] w fun e w' => e = .returned (.int .u8 (evB t x y z (elB xs) xs.length : Nat)) ∧ Below w.heap.size w w' := by
  have M := Mm.start no w
  have F1 := Hid2.mk (fun w1 (hb : Below w.heap.size w w1) => hr.later hb)
  have hn := hs.hi
  have h40 : xs.length ≤ 40 := (isTm_iff.1 hT).2
  have HTM := Hid2.mk hT
  have HAP := Hid2.mk (fun b a c hb ha hc w1 => l03Apply_any n t hs b a c hb ha hc w1)
  have HLT := Hid2.mk (fun k => evTo_lt hs hx hy hz (f := elB xs) k)
  have HLE := Hid2.mk (fun {k v} => @evTo_length t x y z (elB xs) k v)
  have HEV := Hid2.mk (evTo_succ t x y z (elB xs))
  have HE0 := Hid2.mk (show stkV (evTo t x y z (elB xs) 0) = [] from rfl)
  have HEB := Hid2.mk (show evB t x y z (elB xs) xs.length = (evTo t x y z (elB xs) xs.length).headD 0 from rfl)
  have hl0 : lfB x y z 101 = 0 := rfl
  have hl1 : lfB x y z 120 = x := rfl
  have hl2 : lfB x y z 121 = y := rfl
  have hl3 : lfB x y z 122 = z := rfl
  have HL := Hid2.mk (fun {b} h s => @evStep_leaf t x y z b h s)
  have HO := Hid2.mk (fun {b} h c a r => @evStep_op t x y z b h c a r)
  generalize evB t x y z (elB xs) xs.length = res at HEB ⊢
  generalize evTo t x y z (elB xs) = ev at HLT HLE HEV HE0 HEB
  generalize evStep t x y z = st at HEV HL HO
  generalize lfB x y z = lf at hl0 hl1 hl2 hl3 HL
  generalize apB t = ap at HAP HO
  clear hr hT hs hx hy hz
  go_enter Tryz.func53, Tryz.ntmps53
  go_wp2_with (first | ((with_reducible apply wpM_box' M 50 (sqs n t)); rfl; exact ⟨rfl, rfl⟩; clear M; (try clear C); intro bq w9 h_bq M; have C := M.ruleAll; simp only [Go.Proofs.YtocejggobgfccaaGreatDoor.ruleAll] at C) | ((with_reducible apply wpM_bsl' M 41 0 5 ([]) (#[])); rfl; rfl; rfl; exact bsl_u80; clear M; (try clear C); intro bo w9 h_bo M; have C := M.ruleAll; simp only [Go.Proofs.YtocejggobgfccaaGreatDoor.ruleAll] at C))
  have M9 := M.asRow 0 rfl w.heap.size 0 1 h_bo rfl (Nat.zero_le _)
  clear M; (try clear C)
  have M : Mm no w w9 [.row w.heap.size (.slice (some ⟨bo, 0, none⟩) 0 0) 0 [] 5 1, .box bq (sqs n t) 50] := M9
  clear M9
  have C := M.ruleAll; simp only [Go.Proofs.YtocejggobgfccaaGreatDoor.ruleAll] at C
  go_wp2
  go_loopw [12, 11, 13, 14, 51, 57, 63, 69] (fun i v _ _ _ _ _ _ wr => ∃ k u : Nat, k ≤ xs.length ∧ i = .int .i64 (k : Int) ∧ tmTo (elB xs) k = some u ∧ ∃ g cv, v = .slice (some ⟨g, 0, none⟩) u cv ∧ Mm no w wr [.row w.heap.size (.slice (some ⟨g, 0, none⟩) u cv) u (stkV (ev k)) 5 1, .box bq (sqs n t) 50]) (fun i _ _ _ _ _ _ _ _ => xs.length - (intOf i).toNat)
  case atStart => exact ⟨0, 0, by omega, rfl, rfl, bo, 0, rfl, by rw [HE0.out]; exact M⟩
  case round =>
    obtain ⟨k, u, hk, rfl, ht, g, cv, rfl, M9⟩ := hrel
    clear M; (try clear C)
    have M := M9
    clear M9
    have C := M.ruleAll; simp only [Go.Proofs.YtocejggobgfccaaGreatDoor.ruleAll] at C
    have hu := tmTo_le ht
    have HT := Hid2.mk ht
    have hlen := HLE.out ht
    clear ht
    obtain ⟨hcv, hcm⟩ := own_cap (M.row 0 rfl)
    by_cases hlt : k < xs.length
    · have hlt' : (k : Int) < (xs.length : Int) := by omega
      obtain ⟨gx, rfl, hrr⟩ := F1.out _ M.below (by omega)
      have hcx : ∀ w1, Below w.heap.size w w1 → w1.cell? ⟨gx, k, none⟩ = some (.int .u8 (elB xs k : Nat)) := fun w1 hb => by
        obtain ⟨g', e, hr⟩ := F1.out w1 hb (by omega)
        cases e
        exact hr.at_ k hlt
      clear hrr
      have hst := HEV.out k
      rcases tm_byte HTM.out hlt HT.out with ⟨hl, hnx⟩ | ⟨hl, ho, h2, hnx⟩
      · rw [HL.out hl] at hst
        have HST := Hid2.mk hst
        have HNX := Hid2.mk hnx
        have hb := leaf_cases hl
        generalize elB xs k = b at hcx hb HST
        have hc0 := hcx _ M.below
        clear hl hst hnx hcx
        rcases hb with rfl | rfl | rfl | rfl
        · go_wp2_with (first | ((with_reducible apply wpM_bsl' M 41 1 5 ([(0, .int .u8 (x : Int))]) (#[.int .u8 (x : Int)])); rfl; rfl; rfl; exact bsl_u8 _; clear M; (try clear C); intro bi w9 h_bi M; have C := M.ruleAll; simp only [Go.Proofs.YtocejggobgfccaaGreatDoor.ruleAll] at C) | ((with_reducible apply wpM_app' M 41 1 0 (w.heap.size) (.slice (some ⟨g, 0, none⟩) u cv) (u) (stkV (ev k)) 5 1 1); rfl; rfl; rfl; rfl; rfl; rfl; rfl; (first | exact .inl (Nat.le_refl _) | exact .inl (by assumption) | exact .inr (by assumption) | exact .inr HDv.out); (first | exact M.size | (have hq := M.size; omega)); exact und_sl8; exact inf_el8; rfl; decide; decide; rfl; exact rfl; exact flat_u8 _; omega; clear M; (try clear C); intro v2 w9 far_v2 M; simp only [List.set_cons_zero, List.set_cons_succ, entBlk, entT, List.getElem?_cons_zero, List.getElem?_cons_succ] at M; obtain ⟨pp_v2, cap_v2, rfl⟩ := own_form (M.row 1 rfl); have C := M.ruleAll; simp only [Go.Proofs.YtocejggobgfccaaGreatDoor.ruleAll] at C))
          obtain ⟨go, cq, he9, _, _, _⟩ := own_rds (M.row 1 rfl) (by omega)
          cases he9
          go_roundw
          case rel => exact ⟨k + 1, u + 1, by omega, by go_num, HNX.out, go, _, rfl, by rw [HST.out, hl1, stkV_push]; exact M.drop 0⟩
          case measure => simp [intOf]; omega
        · go_wp2_with (first | ((with_reducible apply wpM_bsl' M 41 1 5 ([(0, .int .u8 (y : Int))]) (#[.int .u8 (y : Int)])); rfl; rfl; rfl; exact bsl_u8 _; clear M; (try clear C); intro bi w9 h_bi M; have C := M.ruleAll; simp only [Go.Proofs.YtocejggobgfccaaGreatDoor.ruleAll] at C) | ((with_reducible apply wpM_app' M 41 1 0 (w.heap.size) (.slice (some ⟨g, 0, none⟩) u cv) (u) (stkV (ev k)) 5 1 1); rfl; rfl; rfl; rfl; rfl; rfl; rfl; (first | exact .inl (Nat.le_refl _) | exact .inl (by assumption) | exact .inr (by assumption) | exact .inr HDv.out); (first | exact M.size | (have hq := M.size; omega)); exact und_sl8; exact inf_el8; rfl; decide; decide; rfl; exact rfl; exact flat_u8 _; omega; clear M; (try clear C); intro v2 w9 far_v2 M; simp only [List.set_cons_zero, List.set_cons_succ, entBlk, entT, List.getElem?_cons_zero, List.getElem?_cons_succ] at M; obtain ⟨pp_v2, cap_v2, rfl⟩ := own_form (M.row 1 rfl); have C := M.ruleAll; simp only [Go.Proofs.YtocejggobgfccaaGreatDoor.ruleAll] at C))
          obtain ⟨go, cq, he9, _, _, _⟩ := own_rds (M.row 1 rfl) (by omega)
          cases he9
          go_roundw
          case rel => exact ⟨k + 1, u + 1, by omega, by go_num, HNX.out, go, _, rfl, by rw [HST.out, hl2, stkV_push]; exact M.drop 0⟩
          case measure => simp [intOf]; omega
        · go_wp2_with (first | ((with_reducible apply wpM_bsl' M 41 1 5 ([(0, .int .u8 (z : Int))]) (#[.int .u8 (z : Int)])); rfl; rfl; rfl; exact bsl_u8 _; clear M; (try clear C); intro bi w9 h_bi M; have C := M.ruleAll; simp only [Go.Proofs.YtocejggobgfccaaGreatDoor.ruleAll] at C) | ((with_reducible apply wpM_app' M 41 1 0 (w.heap.size) (.slice (some ⟨g, 0, none⟩) u cv) (u) (stkV (ev k)) 5 1 1); rfl; rfl; rfl; rfl; rfl; rfl; rfl; (first | exact .inl (Nat.le_refl _) | exact .inl (by assumption) | exact .inr (by assumption) | exact .inr HDv.out); (first | exact M.size | (have hq := M.size; omega)); exact und_sl8; exact inf_el8; rfl; decide; decide; rfl; exact rfl; exact flat_u8 _; omega; clear M; (try clear C); intro v2 w9 far_v2 M; simp only [List.set_cons_zero, List.set_cons_succ, entBlk, entT, List.getElem?_cons_zero, List.getElem?_cons_succ] at M; obtain ⟨pp_v2, cap_v2, rfl⟩ := own_form (M.row 1 rfl); have C := M.ruleAll; simp only [Go.Proofs.YtocejggobgfccaaGreatDoor.ruleAll] at C))
          obtain ⟨go, cq, he9, _, _, _⟩ := own_rds (M.row 1 rfl) (by omega)
          cases he9
          go_roundw
          case rel => exact ⟨k + 1, u + 1, by omega, by go_num, HNX.out, go, _, rfl, by rw [HST.out, hl3, stkV_push]; exact M.drop 0⟩
          case measure => simp [intOf]; omega
        · go_wp2_with (first | ((with_reducible apply wpM_bsl' M 41 1 5 ([(0, .int .u8 0)]) (#[.int .u8 0])); rfl; rfl; rfl; exact bsl_u8 _; clear M; (try clear C); intro bi w9 h_bi M; have C := M.ruleAll; simp only [Go.Proofs.YtocejggobgfccaaGreatDoor.ruleAll] at C) | ((with_reducible apply wpM_app' M 41 1 0 (w.heap.size) (.slice (some ⟨g, 0, none⟩) u cv) (u) (stkV (ev k)) 5 1 1); rfl; rfl; rfl; rfl; rfl; rfl; rfl; (first | exact .inl (Nat.le_refl _) | exact .inl (by assumption) | exact .inr (by assumption) | exact .inr HDv.out); (first | exact M.size | (have hq := M.size; omega)); exact und_sl8; exact inf_el8; rfl; decide; decide; rfl; exact rfl; exact flat_u8 _; omega; clear M; (try clear C); intro v2 w9 far_v2 M; simp only [List.set_cons_zero, List.set_cons_succ, entBlk, entT, List.getElem?_cons_zero, List.getElem?_cons_succ] at M; obtain ⟨pp_v2, cap_v2, rfl⟩ := own_form (M.row 1 rfl); have C := M.ruleAll; simp only [Go.Proofs.YtocejggobgfccaaGreatDoor.ruleAll] at C))
          obtain ⟨go, cq, he9, _, _, _⟩ := own_rds (M.row 1 rfl) (by omega)
          cases he9
          go_roundw
          case rel => exact ⟨k + 1, u + 1, by omega, by go_num, HNX.out, go, _, rfl, by rw [HST.out, hl0, stkV_push]; exact M.drop 0⟩
          case measure => simp [intOf]; omega
      · obtain ⟨m, hm⟩ : ∃ m, u = m + 2 := ⟨u - 2, by omega⟩
        obtain ⟨c, a, r, hr⟩ : ∃ c a r, ev k = c :: a :: r := by
          revert hlen
          rcases ev k with _ | ⟨c, _ | ⟨a, r⟩⟩
          · intro h; simp at h; omega
          · intro h; simp at h; omega
          · intro _; exact ⟨c, a, r, rfl⟩
        have hrl : r.length = m := by rw [hr] at hlen; simp at hlen; omega
        have hcn := HLT.out k c (by rw [hr]; simp)
        have han := HLT.out k a (by rw [hr]; simp)
        have hcut : (stkV (ev k)).take m = stkV r := by rw [hr, ← hrl]; exact stkV_cut c a r
        have HC := Hid2.mk (show ∀ w2, Mm no w w2 [.row w.heap.size (.slice (some ⟨g, 0, none⟩) u cv) u (stkV (ev k)) 5 1, .box bq (sqs n t) 50] → w2.cell? ⟨g, m, none⟩ = some (.int .u8 (a : Int)) ∧ w2.cell? ⟨g, m + 1, none⟩ = some (.int .u8 (c : Int)) from fun w2 M => by
          have hown := M.row 0 rfl
          rw [hr] at hown
          have h1 := stkV_at1 c a r
          have h2 := stkV_at2 c a r
          rw [hrl] at h1 h2
          exact ⟨(World.ownsRow.cellAt hown m (by omega)).trans h1, (World.ownsRow.cellAt hown (m + 1) (by omega)).trans h2⟩)
        have HA := fun w1 => HAP.out (elB xs k) a c ho han hcn w1
        rw [hr, HO.out hl] at hst
        have HST := Hid2.mk hst
        have HNX := Hid2.mk (show tmTo (elB xs) (k + 1) = some (m + 1) by rw [hnx]; congr 1; omega)
        have HCX := Hid2.mk hcx
        have HCUT := Hid2.mk hcut
        have hu1 : (u : Int) - 1 = (m : Int) + 1 := by omega
        have hu2 : (u : Int) - 2 = (m : Int) := by omega
        have hmu : (m : Int) < (u : Int) := by omega
        have hmu1 : (m : Int) + 1 < (u : Int) := by omega
        have hmc : (m : Int) ≤ (cv : Int) := by omega
        have hm40 : (m : Int) + 1 < 40 := by omega
        have hmle : m ≤ u := by omega
        obtain ⟨n1, n2, n3, n4⟩ := leaf_none hl
        have e1 : ((elB xs k : Int) == 120) = false := neI n1
        have e2 : ((elB xs k : Int) == 121) = false := neI n2
        have e3 : ((elB xs k : Int) == 122) = false := neI n3
        have e4 : ((elB xs k : Int) == 101) = false := neI n4
        have hc0 := hcx _ M.below
        generalize elB xs k = b at hc0 HA HST HCX e1 e2 e3 e4
        clear hl ho h2 hst hnx hr hrl hcn han hcut hcx hm hlen n1 n2 n3 n4
        go_wp2
        apply wp_region_mm M 15 (by kernel_rfl) (by kernel_rfl)
        · simp only [List.take_succ_cons, List.take_zero]
          repeat (first | exact wpText_nil | (apply wpText_cons; (intro w2 M; have C := M.ruleAll; simp only [Go.Proofs.YtocejggobgfccaaGreatDoor.ruleAll] at C; have hd0 := HCX.out _ M.below; have hd1 := (HC.out _ M).1; have hd2 := (HC.out _ M).2; go_wp2_with (first | ((with_reducible apply wpM_lda' M 1 50 0 (sqs n t)); rfl; rfl; rfl; exact ⟨rfl, inf_sqs.trans (congrArg some (sqs_size ..).symm), _, und_sqs, rfl⟩; exact whole_of rfl)); exact ⟨rfl, rfl, M⟩); rfl))
        clear M; (try clear C)
        intro w2 M
        simp only [List.drop_succ_cons, List.drop_zero]
        have M7 := M.cutRow 0 rfl hmle
        simp only [List.set_cons_zero] at M7
        rw [HCUT.out] at M7
        clear M
        have M := M7
        clear M7
        have C := M.ruleAll; simp only [Go.Proofs.YtocejggobgfccaaGreatDoor.ruleAll] at C
        generalize ap b a c = val at HA HST
        go_wp2_with (first | (go_at_call 74; ((with_reducible refine (HA _).mono ?_); rintro e w1 ⟨rfl, hb⟩; have hsz := M.size; (try (have G9 := G.later hb; clear G; have G := G9; clear G9)); have M9 := M.later hb; clear M; (try clear C); have M := M9; clear M9; have C := M.ruleAll; simp only [Go.Proofs.YtocejggobgfccaaGreatDoor.ruleAll] at C)) | ((with_reducible apply wpM_bsl' M 41 1 5 ([(0, .int .u8 (val : Int))]) (#[.int .u8 (val : Int)])); rfl; rfl; rfl; exact bsl_u8 _; clear M; (try clear C); intro bi w9 h_bi M; have C := M.ruleAll; simp only [Go.Proofs.YtocejggobgfccaaGreatDoor.ruleAll] at C) | ((with_reducible apply wpM_app' M 41 1 0 (w.heap.size) (.slice (some ⟨g, 0, none⟩) m cv) (m) (stkV r) 5 1 1); rfl; rfl; rfl; rfl; rfl; rfl; rfl; (first | exact .inl (Nat.le_refl _) | exact .inl (by assumption) | exact .inr (by assumption) | exact .inr HDv.out); (first | exact M.size | (have hq := M.size; omega)); exact und_sl8; exact inf_el8; rfl; decide; decide; rfl; exact rfl; exact flat_u8 _; omega; clear M; (try clear C); intro v2 w9 far_v2 M; simp only [List.set_cons_zero, List.set_cons_succ, entBlk, entT, List.getElem?_cons_zero, List.getElem?_cons_succ] at M; obtain ⟨pp_v2, cap_v2, rfl⟩ := own_form (M.row 1 rfl); have C := M.ruleAll; simp only [Go.Proofs.YtocejggobgfccaaGreatDoor.ruleAll] at C))
        obtain ⟨go, cq, he9, _, _, _⟩ := own_rds (M.row 1 rfl) (by omega)
        cases he9
        go_roundw
        case rel => exact ⟨k + 1, m + 1, by omega, by go_num, HNX.out, go, _, rfl, by rw [HST.out, stkV_push]; exact M.drop 0⟩
        case measure => simp [intOf]; omega
    · obtain rfl : k = xs.length := by omega
      have hge : ¬ ((xs.length : Int) < (xs.length : Int)) := by omega
      obtain rfl : u = 1 := by
        have h1 := (isTm_iff.1 HTM.out).1.symm.trans HT.out
        cases h1; rfl
      obtain ⟨v, hv⟩ : ∃ v, ev xs.length = [v] := List.length_eq_one_iff.1 hlen
      have hown := M.row 0 rfl
      rw [hv] at hown HEB
      have e1 : wr.cell? ⟨g, 0, none⟩ = some (.int .u8 (v : Int)) := World.ownsRow.cellAt hown 0 (by omega)
      have hres : res = v := HEB.out
      subst hres
      clear hlen hv hown
      go_wp2
      go_ret
      exact ⟨rfl, M.below⟩
end Go.Proofs.YtocejggobgfccaaGreatDoor

/- How far a variable runs, for the reference: a contract. -/
namespace Go.Proofs.YtocejggobgfccaaGreatDoor
set_option linter.unusedSimpArgs false
set_option linter.unusedVariables false
open Go Go.RowKit

set_option maxRecDepth 100000 in
set_option maxHeartbeats 2000000 in
theorem l03Range_any (n : Nat) (t : Nat → Nat → Nat) (hn1 : 1 ≤ n) (hn2 : n ≤ 10) (xs ys : List Nat) (h1 : xs.length ≤ 40) (h2 : ys.length ≤ 40) (b : Nat) (w : World) (p1 p2 : Option Addr) (c1 c2 : Nat) (r1 : rdq w p1 xs.length (bytF xs)) (r2 : rdq w p2 ys.length (bytF ys)) :
    Calls Tryz.prog 52 #[.agg (sqs n t), .agg (idV p1 c1 p2 c2 xs.length ys.length), .int .u8 (b : Int)] w fun e w' => e = .returned (.int .u8 (rngB n (elB xs) xs.length (elB ys) ys.length b : Nat)) ∧ Below w.heap.size w w' := by
  have M := Mm.start no w
  have so := sqs_order (n : Int) t
  have F1 := Hid2.mk (fun w1 (hb : Below w.heap.size w w1) => r1.later hb)
  have F2 := Hid2.mk (fun w1 (hb : Below w.heap.size w w1) => r2.later hb)
  have hI1 := idv_0 p1 c1 p2 c2 xs.length ys.length
  have hI2 := idv_1 p1 c1 p2 c2 xs.length ys.length
  generalize hV : idV p1 c1 p2 c2 xs.length ys.length = V at hI1 hI2 ⊢
  have hnI1 : (1 : Int) ≤ (n : Int) := by omega
  have hnI2 : (n : Int) ≤ 10 := by omega
  have HY := Hid2.mk (show occB (elB xs) xs.length b = true ∨ occB (elB ys) ys.length b = true → rngB n (elB xs) xs.length (elB ys) ys.length b = n from fun h => if_pos h)
  have HNO := Hid2.mk (show (∀ j, j < xs.length → elB xs j ≠ b) → (∀ j, j < ys.length → elB ys j ≠ b) → rngB n (elB xs) xs.length (elB ys) ys.length b = 1 from fun h1 h2 => if_neg (by
    rintro (h | h)
    · rw [occB, decide_eq_true_eq] at h; obtain ⟨k, hk, e⟩ := h; exact h1 k hk e
    · rw [occB, decide_eq_true_eq] at h; obtain ⟨k, hk, e⟩ := h; exact h2 k hk e))
  generalize rngB n (elB xs) xs.length (elB ys) ys.length b = res at HY HNO ⊢
  clear r1 r2 hV
  go_enter Tryz.func52, Tryz.ntmps52
  go_wp2_with (first | ((with_reducible apply wpM_box' M 50 (sqs n t)); rfl; exact ⟨rfl, rfl⟩; clear M; (try clear C); intro bq w9 h_bq M; have C := M.ruleAll; simp only [Go.Proofs.YtocejggobgfccaaGreatDoor.ruleAll] at C) | ((with_reducible apply wpM_box' M 43 (V)); rfl; exact ⟨rfl, rfl⟩; clear M; (try clear C); intro bi w9 h_bi M; have C := M.ruleAll; simp only [Go.Proofs.YtocejggobgfccaaGreatDoor.ruleAll] at C))
  go_loopw [7] (fun i wr => ∃ k : Nat, k ≤ xs.length ∧ i = .int .i64 (k : Int) ∧ (∀ j, j < k → elB xs j ≠ b) ∧ Mm no w wr [.box bi V 43, .box bq (sqs n t) 50]) (fun i _ => xs.length - (intOf i).toNat)
  case atStart => exact ⟨0, by omega, rfl, fun j h => by omega, M⟩
  case round =>
    obtain ⟨k, hk, rfl, hl, M9⟩ := hrel
    clear M; (try clear C)
    have M := M9
    clear M9
    have C := M.ruleAll; simp only [Go.Proofs.YtocejggobgfccaaGreatDoor.ruleAll] at C
    have HL := Hid2.mk hl
    clear hl
    by_cases hlt : k < xs.length
    · have hlt' : (k : Int) < (xs.length : Int) := by omega
      obtain ⟨g, rfl, hrr⟩ := F1.out _ M.below (by omega)
      have hc0 : wr.cell? ⟨g, k, none⟩ = some (.int .u8 (elB xs k : Nat)) := hrr.at_ k hlt
      clear hrr
      by_cases e : elB xs k = b
      · have HR := Hid2.mk (HY.out (.inl (by rw [occB, decide_eq_true_eq]; exact ⟨k, hlt, e⟩)))
        rw [e] at hc0
        have hd : ((b : Int) == (b : Int)) = true := by simp
        go_wp2
        go_ret
        exact ⟨by rw [HR.out]; rfl, M.below⟩
      · have HN := Hid2.mk (show ∀ j, j < k + 1 → elB xs j ≠ b from fun j hj => if e2 : j = k then e2 ▸ e else HL.out j (by omega))
        have hd : ((elB xs k : Int) == (b : Int)) = false := neI e
        generalize elB xs k = v at hc0 hd
        go_wp2
        go_roundw
        case rel => exact ⟨k + 1, by omega, by go_num, HN.out, M⟩
        case measure => simp [intOf]; omega
    · obtain rfl : k = xs.length := by omega
      have hge : decide ((xs.length : Int) < (xs.length : Int)) = false := by simp
      go_wp2
      obtain ⟨wo, rfl⟩ : ∃ wo : World, wo = wr := ⟨_, rfl⟩
      clear hge
      go_loopw [8] (fun i wr => ∃ k : Nat, k ≤ ys.length ∧ i = .int .i64 (k : Int) ∧ (∀ j, j < k → elB ys j ≠ b) ∧ Mm no w wr [.box bi V 43, .box bq (sqs n t) 50]) (fun i _ => ys.length - (intOf i).toNat)
      case atStart => exact ⟨0, by omega, rfl, fun j h => by omega, M⟩
      case round =>
        obtain ⟨k, hk, rfl, hl, M9⟩ := hrel
        clear M; (try clear C)
        have M := M9
        clear M9
        have C := M.ruleAll; simp only [Go.Proofs.YtocejggobgfccaaGreatDoor.ruleAll] at C
        have HL2 := Hid2.mk hl
        clear hl
        by_cases hlt : k < ys.length
        · have hlt' : (k : Int) < (ys.length : Int) := by omega
          obtain ⟨g, rfl, hrr⟩ := F2.out _ M.below (by omega)
          have hc0 : wr.cell? ⟨g, k, none⟩ = some (.int .u8 (elB ys k : Nat)) := hrr.at_ k hlt
          clear hrr
          by_cases e : elB ys k = b
          · have HR := Hid2.mk (HY.out (.inr (by rw [occB, decide_eq_true_eq]; exact ⟨k, hlt, e⟩)))
            rw [e] at hc0
            have hd : ((b : Int) == (b : Int)) = true := by simp
            go_wp2
            go_ret
            exact ⟨by rw [HR.out]; rfl, M.below⟩
          · have HN := Hid2.mk (show ∀ j, j < k + 1 → elB ys j ≠ b from fun j hj => if e2 : j = k then e2 ▸ e else HL2.out j (by omega))
            have hd : ((elB ys k : Int) == (b : Int)) = false := neI e
            generalize elB ys k = v at hc0 hd
            go_wp2
            go_roundw
            case rel => exact ⟨k + 1, by omega, by go_num, HN.out, M⟩
            case measure => simp [intOf]; omega
        · obtain rfl : k = ys.length := by omega
          have hge : ¬ ((ys.length : Int) < (ys.length : Int)) := by omega
          have HR := Hid2.mk (HNO.out HL.out HL2.out)
          go_wp2
          go_ret
          exact ⟨by rw [HR.out]; rfl, M.below⟩
end Go.Proofs.YtocejggobgfccaaGreatDoor

/- The first place where an identity does not hold, for the reference: a contract. -/
namespace Go.Proofs.YtocejggobgfccaaGreatDoor
set_option linter.unusedSimpArgs false
set_option linter.unusedVariables false
open Go Go.RowKit

/-- A new list of the three numbers, or no list. -/
def FailPost (o : Option (Nat × Nat × Nat)) (w : World) (e : Ending) (w' : World) : Prop :=
  match o with
  | none => e = .returned (.slice none 0 0) ∧ Below w.heap.size w w'
  | some (x, y, z) => ∃ g, e = .returned (.slice (some ⟨g, 0, none⟩) 3 3) ∧ w.heap.size ≤ g ∧ Mm no w w' [.box g #[.int .i64 (x : Int), .int .i64 (y : Int), .int .i64 (z : Int)] 2]
theorem rngB_le {n : Nat} (h : 1 ≤ n) (f : Nat → Nat) (m : Nat) (g : Nat → Nat) (l b : Nat) : rngB n f m g l b ≤ n := by unfold rngB; split <;> omega
theorem bsl_i3 (x y z : Int) (w : World) : (Instr.buildSlice 66 3 [(0, Value.int .i64 x), (1, Value.int .i64 y), (2, Value.int .i64 z)].toArray).run Tryz.prog w = .ok (.slice (some ⟨w.heap.size, 0, none⟩) 3 3) (w.alloc (.cells #[.int .i64 x, .int .i64 y, .int .i64 z] 2)) := by kernel_rfl
theorem neB_true {t : Nat → Nat → Nat} {f g : Nat → Nat} {m l x y z : Nat} (h : evB t x y z f m ≠ evB t x y z g l) : neB t f m g l x y z = true := by unfold neB; exact decide_eq_true h
theorem neB_false {t : Nat → Nat → Nat} {f g : Nat → Nat} {m l x y z : Nat} (h : evB t x y z f m = evB t x y z g l) : neB t f m g l x y z = false := by unfold neB; exact decide_eq_false fun h2 => h2 h

set_option maxRecDepth 100000 in
set_option maxHeartbeats 4000000 in
theorem l03Fails_any (n : Nat) (t : Nat → Nat → Nat) (hs : IsSq (n : Int) t) (xs ys : List Nat) (hX : isTm (elB xs) xs.length = true) (hY : isTm (elB ys) ys.length = true) (w : World) (p1 p2 : Option Addr) (c1 c2 : Nat) (r1 : rdq w p1 xs.length (bytF xs)) (r2 : rdq w p2 ys.length (bytF ys)) :
    Calls Tryz.prog 34 #[.agg (sqs n t), .agg (idV p1 c1 p2 c2 xs.length ys.length)] w fun e w' => FailPost (fst3 (neB t (elB xs) xs.length (elB ys) ys.length) n n n) w e w' := by
  have M := Mm.start no w
  have so := sqs_order (n : Int) t
  have hn1 : 1 ≤ n := by have := hs.lo; omega
  have hn2 : n ≤ 10 := by have := hs.hi; omega
  have h40 := (isTm_iff.1 hX).2
  have h41 := (isTm_iff.1 hY).2
  have R1 : ∀ w1, Below w.heap.size w w1 → Calls Tryz.prog 52 #[.agg (sqs n t), .agg (idV p1 c1 p2 c2 xs.length ys.length), .int .u8 120] w1 _ := fun w1 hb => l03Range_any n t hn1 hn2 xs ys h40 h41 120 w1 p1 p2 c1 c2 (r1.later hb) (r2.later hb)
  have R2 : ∀ w1, Below w.heap.size w w1 → Calls Tryz.prog 52 #[.agg (sqs n t), .agg (idV p1 c1 p2 c2 xs.length ys.length), .int .u8 121] w1 _ := fun w1 hb => l03Range_any n t hn1 hn2 xs ys h40 h41 121 w1 p1 p2 c1 c2 (r1.later hb) (r2.later hb)
  have R3 : ∀ w1, Below w.heap.size w w1 → Calls Tryz.prog 52 #[.agg (sqs n t), .agg (idV p1 c1 p2 c2 xs.length ys.length), .int .u8 122] w1 _ := fun w1 hb => l03Range_any n t hn1 hn2 xs ys h40 h41 122 w1 p1 p2 c1 c2 (r1.later hb) (r2.later hb)
  have V1 := Hid2.mk (fun x y z (hx : x < n) (hy : y < n) (hz : z < n) w1 (hb : Below w.heap.size w w1) => l03Value_any n t hs x y z (by omega) (by omega) (by omega) xs hX w1 p1 c1 (r1.later hb))
  have V2 := Hid2.mk (fun x y z (hx : x < n) (hy : y < n) (hz : z < n) w1 (hb : Below w.heap.size w w1) => l03Value_any n t hs x y z (by omega) (by omega) (by omega) ys hY w1 p2 c2 (r2.later hb))
  have hI1 := idv_0 p1 c1 p2 c2 xs.length ys.length
  have hI2 := idv_1 p1 c1 p2 c2 xs.length ys.length
  rw [← fails_same hn1]
  have l1 := rngB_le hn1 (elB xs) xs.length (elB ys) ys.length 120
  have l2 := rngB_le hn1 (elB xs) xs.length (elB ys) ys.length 121
  have l3 := rngB_le hn1 (elB xs) xs.length (elB ys) ys.length 122
  have HNT := Hid2.mk (fun {x y z} => @neB_true t (elB xs) (elB ys) xs.length ys.length x y z)
  have HNF := Hid2.mk (fun {x y z} => @neB_false t (elB xs) (elB ys) xs.length ys.length x y z)
  generalize rngB n (elB xs) xs.length (elB ys) ys.length 120 = A at R1 l1 ⊢
  generalize rngB n (elB xs) xs.length (elB ys) ys.length 121 = B at R2 l2 ⊢
  generalize rngB n (elB xs) xs.length (elB ys) ys.length 122 = Cc at R3 l3 ⊢
  generalize neB t (elB xs) xs.length (elB ys) ys.length = p at HNT HNF ⊢
  have L1 := Hid2.mk l1
  have L2 := Hid2.mk l2
  have L3 := Hid2.mk l3
  have hA10 : (A : Int) ≤ 10 := by omega
  have hB10 : (B : Int) ≤ 10 := by omega
  have hC10 : (Cc : Int) ≤ 10 := by omega
  clear r1 r2 hX hY hs h40 h41 l1 l2 l3
  generalize hG : (fun x => fstTo (fun y => fstTo (fun z => if p x y z = true then some (x, y, z) else none) Cc) B) = G
  have HG := Hid2.mk hG
  have hF3 : fst3 p A B Cc = fstTo G A := by rw [← hG]; rfl
  rw [hF3]
  clear hF3 hG
  go_enter Tryz.func34, Tryz.ntmps34
  go_wp2_with (first | ((with_reducible apply wpM_box' M 50 (sqs n t)); rfl; exact ⟨rfl, rfl⟩; clear M; (try clear C); intro bq w9 h_bq M; have C := M.ruleAll; simp only [Go.Proofs.YtocejggobgfccaaGreatDoor.ruleAll] at C) | ((with_reducible apply wpM_box' M 43 (idV p1 c1 p2 c2 xs.length ys.length)); rfl; exact ⟨rfl, rfl⟩; clear M; (try clear C); intro bi w9 h_bi M; have C := M.ruleAll; simp only [Go.Proofs.YtocejggobgfccaaGreatDoor.ruleAll] at C))
  apply wp_region_mm M 9 (by kernel_rfl) (by kernel_rfl); (simp only [List.take_succ_cons, List.take_zero]; repeat (first | exact wpText_nil | (apply wpText_cons; (intro w2 M; have C := M.ruleAll; simp only [Go.Proofs.YtocejggobgfccaaGreatDoor.ruleAll] at C; go_wp2_with (first | ((with_reducible apply wpM_lda' M 1 50 0 (sqs n t)); rfl; rfl; rfl; exact ⟨rfl, inf_sqs.trans (congrArg some (sqs_size ..).symm), _, und_sqs, rfl⟩; exact whole_of rfl) | ((with_reducible apply wpM_lda' M 0 43 0 (idV p1 c1 p2 c2 xs.length ys.length)); rfl; rfl; rfl; exact ⟨rfl, inf_idn.trans (congrArg some (idv_size ..).symm), _, und_idn, rfl⟩; exact whole_of rfl) | (go_at_call 52; ((with_reducible refine (R1 _ M.below).mono ?_); rintro e w1 ⟨rfl, hb⟩; have hsz := M.size; (try (have G9 := G.later hb; clear G; have G := G9; clear G9)); have M9 := M.later hb; clear M; (try clear C); have M := M9; clear M9; have C := M.ruleAll; simp only [Go.Proofs.YtocejggobgfccaaGreatDoor.ruleAll] at C)) | (go_at_call 52; ((with_reducible refine (R2 _ M.below).mono ?_); rintro e w1 ⟨rfl, hb⟩; have hsz := M.size; (try (have G9 := G.later hb; clear G; have G := G9; clear G9)); have M9 := M.later hb; clear M; (try clear C); have M := M9; clear M9; have C := M.ruleAll; simp only [Go.Proofs.YtocejggobgfccaaGreatDoor.ruleAll] at C)) | (go_at_call 52; ((with_reducible refine (R3 _ M.below).mono ?_); rintro e w1 ⟨rfl, hb⟩; have hsz := M.size; (try (have G9 := G.later hb; clear G; have G := G9; clear G9)); have M9 := M.later hb; clear M; (try clear C); have M := M9; clear M9; have C := M.ruleAll; simp only [Go.Proofs.YtocejggobgfccaaGreatDoor.ruleAll] at C))); exact ⟨rfl, rfl, M⟩); rfl))); (clear M; (try clear C); intro w2 M; simp only [List.drop_succ_cons, List.drop_zero]; have C := M.ruleAll; simp only [Go.Proofs.YtocejggobgfccaaGreatDoor.ruleAll] at C)
  clear R1 R2 R3
  go_wp2
  go_loopw [8, 9, 10] (fun i _ _ wr => ∃ x : Nat, x ≤ A ∧ i = .int .u8 (x : Int) ∧ (∀ j, j < x → G j = none) ∧ Mm no w wr [.box bi (idV p1 c1 p2 c2 xs.length ys.length) 43, .box bq (sqs n t) 50]) (fun i _ _ _ => A - (intOf i).toNat)
  case atStart => exact ⟨0, by omega, rfl, fun j h => by omega, M⟩
  case round =>
    obtain ⟨x, hx, rfl, hg, M9⟩ := hrel
    clear M; (try clear C)
    have M := M9
    clear M9
    have C := M.ruleAll; simp only [Go.Proofs.YtocejggobgfccaaGreatDoor.ruleAll] at C
    have HX := Hid2.mk hg
    clear hg
    by_cases hxA : x < A
    · have hxA' : (x : Int) < (A : Int) := by omega
      have hx10 : (x : Int) < 10 := by omega
      have dlt : decide ((x : Int) < (A : Int)) = true := decide_eq_true hxA'
      have HXN := Hid2.mk (Nat.lt_of_lt_of_le hxA L1.out)
      have HXA := Hid2.mk hxA
      clear hxA hx
      generalize hF : (fun y => fstTo (fun z => if p x y z = true then some (x, y, z) else none) Cc) = F
      have HGx := Hid2.mk (show G x = fstTo F B by rw [← HG.out, ← hF])
      have HF := Hid2.mk hF
      clear hF
      go_wp2
      obtain ⟨wo, rfl⟩ : ∃ wo : World, wo = wr := ⟨_, rfl⟩
      clear dlt
      go_loopw [9, 10] (fun i _ wr => ∃ y : Nat, y ≤ B ∧ i = .int .u8 (y : Int) ∧ (∀ j, j < y → F j = none) ∧ Mm no w wr [.box bi (idV p1 c1 p2 c2 xs.length ys.length) 43, .box bq (sqs n t) 50]) (fun i _ _ => B - (intOf i).toNat)
      case atStart => exact ⟨0, by omega, rfl, fun j h => by omega, M⟩
      case round =>
        obtain ⟨y, hy, rfl, hg, M9⟩ := hrel
        clear M; (try clear C)
        have M := M9
        clear M9
        have C := M.ruleAll; simp only [Go.Proofs.YtocejggobgfccaaGreatDoor.ruleAll] at C
        have HY := Hid2.mk hg
        clear hg
        by_cases hyB : y < B
        · have hyB' : (y : Int) < (B : Int) := by omega
          have hy10 : (y : Int) < 10 := by omega
          have dlt : decide ((y : Int) < (B : Int)) = true := decide_eq_true hyB'
          have HYN := Hid2.mk (Nat.lt_of_lt_of_le hyB L2.out)
          have HYB := Hid2.mk hyB
          clear hyB hy
          generalize hE : (fun z => if p x y z = true then some (x, y, z) else none) = E
          have HFy := Hid2.mk (show F y = fstTo E Cc by rw [← HF.out, ← hE])
          have HE := Hid2.mk hE
          clear hE
          go_wp2
          obtain ⟨wo2, rfl⟩ : ∃ wo : World, wo = wr := ⟨_, rfl⟩
          clear dlt
          go_loopw [10] (fun i wr => ∃ z : Nat, z ≤ Cc ∧ i = .int .u8 (z : Int) ∧ (∀ j, j < z → E j = none) ∧ Mm no w wr [.box bi (idV p1 c1 p2 c2 xs.length ys.length) 43, .box bq (sqs n t) 50]) (fun i _ => Cc - (intOf i).toNat)
          case atStart => exact ⟨0, by omega, rfl, fun j h => by omega, M⟩
          case round =>
            obtain ⟨z, hz, rfl, hg, M9⟩ := hrel
            clear M; (try clear C)
            have M := M9
            clear M9
            have C := M.ruleAll; simp only [Go.Proofs.YtocejggobgfccaaGreatDoor.ruleAll] at C
            have HZ := Hid2.mk hg
            clear hg
            by_cases hzC : z < Cc
            · have hzC' : (z : Int) < (Cc : Int) := by omega
              have hz10 : (z : Int) < 10 := by omega
              have HZN := Hid2.mk (Nat.lt_of_lt_of_le hzC L3.out)
              have HZC := Hid2.mk hzC
              have A1 := V1.out x y z HXN.out HYN.out HZN.out
              have A2 := V2.out x y z HXN.out HYN.out HZN.out
              clear hzC hz
              have hEz : E z = if p x y z = true then some (x, y, z) else none := by rw [← HE.out]
              by_cases hne : evB t x y z (elB xs) xs.length = evB t x y z (elB ys) ys.length
              · have HEz := Hid2.mk (show E z = none by rw [hEz, if_neg (by rw [HNF.out hne]; exact Bool.false_ne_true)])
                rw [hne] at A1
                generalize evB t x y z (elB ys) ys.length = v at A1 A2
                have hd : ((v : Int) == (v : Int)) = true := by simp
                have hd2 : ((v : Int) != (v : Int)) = false := by simp
                clear hne hEz
                go_wp2
                apply wp_region_mm M 14 (by kernel_rfl) (by kernel_rfl); (simp only [List.take_succ_cons, List.take_zero]; repeat (first | exact wpText_nil | (apply wpText_cons; (intro w2 M; have C := M.ruleAll; simp only [Go.Proofs.YtocejggobgfccaaGreatDoor.ruleAll] at C; go_wp2_with (first | ((with_reducible apply wpM_lda' M 1 50 0 (sqs n t)); rfl; rfl; rfl; exact ⟨rfl, inf_sqs.trans (congrArg some (sqs_size ..).symm), _, und_sqs, rfl⟩; exact whole_of rfl) | (go_at_call 53; ((with_reducible refine (A1 _ M.below).mono ?_); rintro e w1 ⟨rfl, hb⟩; have hsz := M.size; (try (have G9 := G.later hb; clear G; have G := G9; clear G9)); have M9 := M.later hb; clear M; (try clear C); have M := M9; clear M9; have C := M.ruleAll; simp only [Go.Proofs.YtocejggobgfccaaGreatDoor.ruleAll] at C)) | (go_at_call 53; ((with_reducible refine (A2 _ M.below).mono ?_); rintro e w1 ⟨rfl, hb⟩; have hsz := M.size; (try (have G9 := G.later hb; clear G; have G := G9; clear G9)); have M9 := M.later hb; clear M; (try clear C); have M := M9; clear M9; have C := M.ruleAll; simp only [Go.Proofs.YtocejggobgfccaaGreatDoor.ruleAll] at C))); exact ⟨rfl, rfl, M⟩); rfl))); (clear M; (try clear C); intro w2 M; simp only [List.drop_succ_cons, List.drop_zero]; have C := M.ruleAll; simp only [Go.Proofs.YtocejggobgfccaaGreatDoor.ruleAll] at C)
                go_wp2
                go_roundw
                case rel => exact ⟨z + 1, by have := HZC.out; omega, by go_num, fun j hj => if e : j = z then e ▸ HEz.out else HZ.out j (by omega), M⟩
                case measure => have := HZC.out; simp [intOf]; omega
              · have HEz := Hid2.mk (show E z = some (x, y, z) by rw [hEz, if_pos (HNT.out hne)])
                have HRES := Hid2.mk (show fstTo G A = some (x, y, z) from fstTo_at HX.out (by rw [HGx.out]; exact fstTo_at HY.out (by rw [HFy.out]; exact fstTo_at HZ.out HEz.out _ HZC.out) _ HYB.out) _ HXA.out)
                generalize hv1 : evB t x y z (elB xs) xs.length = v1 at A1 hne
                generalize hv2 : evB t x y z (elB ys) ys.length = v2 at A2 hne
                have hd : ((v1 : Int) == (v2 : Int)) = false := neI hne
                have hd2 : ((v1 : Int) != (v2 : Int)) = true := by simp [bne, hd]
                clear hne hEz hv1 hv2
                go_wp2
                apply wp_region_mm M 14 (by kernel_rfl) (by kernel_rfl); (simp only [List.take_succ_cons, List.take_zero]; repeat (first | exact wpText_nil | (apply wpText_cons; (intro w2 M; have C := M.ruleAll; simp only [Go.Proofs.YtocejggobgfccaaGreatDoor.ruleAll] at C; go_wp2_with (first | ((with_reducible apply wpM_lda' M 1 50 0 (sqs n t)); rfl; rfl; rfl; exact ⟨rfl, inf_sqs.trans (congrArg some (sqs_size ..).symm), _, und_sqs, rfl⟩; exact whole_of rfl) | (go_at_call 53; ((with_reducible refine (A1 _ M.below).mono ?_); rintro e w1 ⟨rfl, hb⟩; have hsz := M.size; (try (have G9 := G.later hb; clear G; have G := G9; clear G9)); have M9 := M.later hb; clear M; (try clear C); have M := M9; clear M9; have C := M.ruleAll; simp only [Go.Proofs.YtocejggobgfccaaGreatDoor.ruleAll] at C)) | (go_at_call 53; ((with_reducible refine (A2 _ M.below).mono ?_); rintro e w1 ⟨rfl, hb⟩; have hsz := M.size; (try (have G9 := G.later hb; clear G; have G := G9; clear G9)); have M9 := M.later hb; clear M; (try clear C); have M := M9; clear M9; have C := M.ruleAll; simp only [Go.Proofs.YtocejggobgfccaaGreatDoor.ruleAll] at C))); exact ⟨rfl, rfl, M⟩); rfl))); (clear M; (try clear C); intro w2 M; simp only [List.drop_succ_cons, List.drop_zero]; have C := M.ruleAll; simp only [Go.Proofs.YtocejggobgfccaaGreatDoor.ruleAll] at C)
                go_wp2_with (first | ((with_reducible apply wpM_bsl' M 66 3 2 ([(0, .int .i64 (x : Int)), (1, .int .i64 (y : Int)), (2, .int .i64 (z : Int))]) (#[.int .i64 (x : Int), .int .i64 (y : Int), .int .i64 (z : Int)])); rfl; rfl; rfl; exact bsl_i3 _ _ _; clear M; (try clear C); intro bo w9 h_bo M; have C := M.ruleAll; simp only [Go.Proofs.YtocejggobgfccaaGreatDoor.ruleAll] at C))
                go_ret
                rw [HRES.out]
                exact ⟨bo, rfl, h_bo, (M.drop 1).drop 1⟩
            · have hge : ¬ ((z : Int) < (Cc : Int)) := by omega
              have HFN := Hid2.mk (show F y = none by rw [HFy.out, fstTo_none]; exact fun k hk => HZ.out k (by omega))
              clear hzC hz
              go_wp2
              go_roundw
              case rel => exact ⟨y + 1, by have := HYB.out; omega, by go_num, fun j hj => if e : j = y then e ▸ HFN.out else HY.out j (by omega), M⟩
              case measure => have := HYB.out; simp [intOf]; omega
        · have hge : ¬ ((y : Int) < (B : Int)) := by omega
          have HGN := Hid2.mk (show G x = none by rw [HGx.out, fstTo_none]; exact fun k hk => HY.out k (by omega))
          clear hyB hy
          go_wp2
          go_roundw
          case rel => exact ⟨x + 1, by have := HXA.out; omega, by go_num, fun j hj => if e : j = x then e ▸ HGN.out else HX.out j (by omega), M⟩
          case measure => have := HXA.out; simp [intOf]; omega
    · have hge : ¬ ((x : Int) < (A : Int)) := by omega
      have HRES := Hid2.mk (show fstTo G A = none by rw [fstTo_none]; exact fun k hk => HX.out k (by omega))
      clear hxA hx
      go_wp2
      go_ret
      rw [HRES.out]
      exact ⟨rfl, M.below⟩
end Go.Proofs.YtocejggobgfccaaGreatDoor

/- The law's own turning of a square, and the program's elements of a square: contracts. -/
namespace Go.Proofs.YtocejggobgfccaaGreatDoor
set_option linter.unusedSimpArgs false
set_option linter.unusedVariables false
open Go.RowKit

set_option maxRecDepth 100000 in
set_option maxHeartbeats 1000000 in
theorem toSquare_any (n : Int) (t : Nat → Nat → Nat) (w : World) :
    Calls Tryz.prog 35 #[.agg (sqs n t)] w fun e w' => e = .returned (.agg (sqs n t)) ∧ Below w.heap.size w w' := by
  have hz := zero_sqs
  have so := sqs_order n t
  have so2 := sqs_order 0 (fun _ _ => 0)
  have hs := sqs_set_order 0 n (fun _ _ => 0)
  have hB := ((((Below.refl w.heap.size w).alloc (by simp) (.cells (sqs n t) 70)).alloc (by simp) (.cells (sqs 0 fun _ _ => 0) 50)).alloc (by simp; omega) (.cells (sqs n fun _ _ => 0) 50))
  go_enter Tryz.func35, Tryz.ntmps35
  go_wp2_with (first | (refine wpList_load_part rfl 47 _ rfl _ _ rfl (tbs t) _ und_tb0 rfl inf_tb0 (cells_of_blk (((blk_new _ _ _ _ (by simp)).alloc _).alloc _) _ _ sqs_tbs) ?_) | (go_at_call 54; ((with_reducible refine (toTable_any _ _).mono ?_); rintro e w1 ⟨rfl, hb⟩; have b2 := ((blk_new (w.alloc (.cells (sqs n t) 70)) (sqs 0 fun _ _ => 0) 50 (w.heap.size + 1) (by simp)).alloc (.cells (sqs n fun _ _ => 0) 50)).later hb; have b3 := (blk_new ((w.alloc (.cells (sqs n t) 70)).alloc (.cells (sqs 0 fun _ _ => 0) 50)) (sqs n fun _ _ => 0) 50 (w.heap.size + 1 + 1) (by simp)).later hb)) | (refine wpList_store_part rfl 48 _ _ rfl _ _ rfl _ rfl inf_tbl _ _ b3 (by simp [sqs_size, tbs_size]) (flat_tbs _) ?_; rw [splice_tbs]; have b4 := blk_put b3 (cs' := sqs n t) 50; have b5 := blk_put_other (cs' := sqs n t) (t' := 50) b2 (c := w.heap.size + 1 + 1) (by omega)) | (refine wpList_load_part rfl 50 _ rfl _ _ rfl (sqs n t) _ und_sqs rfl inf_sqs (cells_of_blk0 b4) ?_) | (refine wpList_store_row rfl 50 _ _ rfl _ rfl _ rfl inf_sqs _ _ (b5) (by simp [sqs_size]) (flat_sqs _ _) ?_))
  refine bodyPost_ret (v := .agg (sqs n t)) (by exact results_part rfl _ _ _ _ _ _ rfl und_sqs rfl inf_sqs (cells_of_blk0 (blk_put b5 _))) rfl ?_
  exact ⟨rfl, below_put (below_put (below_self hB hb) (by omega) _ _) (by omega) _ _⟩
end Go.Proofs.YtocejggobgfccaaGreatDoor

/- The products and the quotients of a square, laid by the program: a contract. -/
namespace Go.Proofs.YtocejggobgfccaaGreatDoor
set_option linter.unusedSimpArgs false
set_option linter.unusedVariables false
open Go Go.RowKit

/-- The products and as many quotients as have been laid. -/
structure VlP (n : Int) (t : Nat → Nat → Nat) (X Y : Nat) (cs : Array Value) : Prop where
  size : cs.size = 300
  mul : ∀ a c : Nat, (a : Int) < n → (c : Int) < n → cs[a * 10 + c]? = some (.int .u8 (t a c : Nat))
  lft : ∀ a c : Nat, (a : Int) < n → (c : Int) < n → (a < X ∨ (a = X ∧ c < Y)) → cs[100 + a * 10 + t a c]? = some (.int .u8 (c : Int))
  rgt : ∀ a c : Nat, (a : Int) < n → (c : Int) < n → (a < X ∨ (a = X ∧ c < Y)) → cs[200 + t a c * 10 + c]? = some (.int .u8 (a : Int))
theorem VlP.step {n : Int} {t : Nat → Nat → Nat} {x y : Nat} {cs : Array Value} (h : VlP n t x y cs) (hs : IsSq n t) (hx : (x : Int) < n) (hy : (y : Int) < n) :
    VlP n t x (y + 1) ((cs.setIfInBounds (100 + x * 10 + t x y) (.int .u8 (y : Int))).setIfInBounds (200 + t x y * 10 + y) (.int .u8 (x : Int))) := by
  have hn := hs.hi
  have lt : ∀ a c : Nat, (a : Int) < n → (c : Int) < n → (t a c : Int) < n := fun a c ha hc => ((SqAt.of hs (x := a) (by omega)).lt ha c hc).1
  have row : ∀ c : Nat, (c : Int) < n → t x c = t x y → c = y := fun c hc e => (SqAt.of hs (x := x) (by omega)).row hx c y hc hy e
  have col : ∀ a : Nat, (a : Int) < n → t a y = t x y → a = x := fun a ha e => (SqAt.of hs (x := y) (by omega)).col hy a x ha hx e
  have hz := lt x y hx hy
  have hsz := h.size
  refine ⟨by rw [Array.size_setIfInBounds, Array.size_setIfInBounds]; exact h.size, fun a c ha hc => ?_, fun a c ha hc hac => ?_, fun a c ha hc hac => ?_⟩
  · rw [Array.getElem?_setIfInBounds, if_neg (by omega), Array.getElem?_setIfInBounds, if_neg (by omega)]
    exact h.mul a c ha hc
  · have := lt a c ha hc
    rw [Array.getElem?_setIfInBounds, if_neg (by omega), Array.getElem?_setIfInBounds]
    split
    · rename_i e
      have e1 : a = x := by omega
      subst e1
      have e2 : c = y := row c hc (by omega)
      subst e2
      rw [if_pos (by omega)]
    · rename_i e
      refine h.lft a c ha hc ?_
      rcases hac with h1 | ⟨h1, h2⟩
      · exact .inl h1
      · right
        refine ⟨h1, ?_⟩
        by_cases e2 : c = y
        · subst h1 e2; exact absurd rfl e
        · omega
  · have := lt a c ha hc
    rw [Array.getElem?_setIfInBounds]
    split
    · rename_i e
      have e1 : c = y := by omega
      subst e1
      have e2 : a = x := col a ha (by omega)
      subst e2
      rw [if_pos (by rw [Array.size_setIfInBounds]; omega)]
    · rename_i e
      rw [Array.getElem?_setIfInBounds, if_neg (by omega)]
      refine h.rgt a c ha hc ?_
      rcases hac with h1 | ⟨h1, h2⟩
      · exact .inl h1
      · right
        refine ⟨h1, ?_⟩
        by_cases e2 : c = y
        · subst h1 e2; exact absurd rfl e
        · omega
theorem VlP.next {n : Int} {t : Nat → Nat → Nat} {x N : Nat} {cs : Array Value} (h : VlP n t x N cs) (hN : n ≤ (N : Int)) : VlP n t (x + 1) 0 cs :=
  ⟨h.size, h.mul, fun a c ha hc hac => h.lft a c ha hc (by omega), fun a c ha hc hac => h.rgt a c ha hc (by omega)⟩
theorem VlP.all {n : Int} {t : Nat → Nat → Nat} {N : Nat} {cs : Array Value} (h : VlP n t N 0 cs) (hs : IsSq n t) (hN : n ≤ (N : Int)) : VlC n t cs := by
  refine ⟨h.size, h.mul, fun a c ha hc => ?_, fun a c ha hc => ?_⟩
  · obtain ⟨h1, h2, _⟩ := lq_lt hs ha hc
    have h3 := h.lft a (lq t a c) ha h1 (.inl (by omega))
    rw [h2] at h3; exact h3
  · obtain ⟨h1, h2, _⟩ := lq_lt hs.turn hc ha
    have h3 := h.rgt (lq (fun x y => t y x) c a) c h1 hc (.inl (by omega))
    rw [h2] at h3; exact h3
/-- The products alone. -/
def vl0 (t : Nat → Nat → Nat) : Array Value := tab 300 fun i => if i < 100 then .int .u8 (t (i / 10) (i % 10)) else .int .u8 0
theorem vl0_start (n : Int) (t : Nat → Nat → Nat) (hn : n ≤ 10) : VlP n t 0 0 (vl0 t) :=
  ⟨tab_size _ _, fun a c ha hc => by
    unfold vl0; rw [tab_get (by omega), if_pos (by omega), show (a * 10 + c) / 10 = a by omega, show (a * 10 + c) % 10 = c by omega], fun a c _ _ h => absurd h (by omega), fun a c _ _ h => absurd h (by omega)⟩
theorem build_vls (t : Nat → Nat → Nat) (w : World) : (Instr.build 112 #[(0, .agg (tbs t))]).run Tryz.prog w = .ok (.agg (vl0 t)) w := by kernel_rfl
/-- A block whose cells change when an operation that floats is done. -/
def StW (b : Nat) (cs cs' : Array Value) (t : Nat) : List Value → List Ent → Prop
  | [], Lg => Lg = [.box b cs t]
  | _ :: _, Lg => Lg = [.box b cs' t]

set_option maxRecDepth 100000 in
set_option maxHeartbeats 4000000 in
theorem newValues_any (n : Nat) (t : Nat → Nat → Nat) (hs : IsSq (n : Int) t) (w : World) :
    Calls Tryz.prog 61 #[.agg (sqs n t)] w fun e w' => ∃ b, e = .returned (.pointer (some ⟨b, 0, none⟩)) ∧ w.heap.size ≤ b ∧ ∃ cs, VlC n t cs ∧ Mm no w w' [.box b cs 112] := by
  have M := Mm.start no w
  have hn1 : 1 ≤ n := by have := hs.lo; omega
  have hn2 : n ≤ 10 := by have := hs.hi; omega
  have hnn : (n : Int).toNat = n := rfl
  have hbl := build_vls t
  have HV0 := Hid2.mk (vl0_start n t (by omega))
  have HST := Hid2.mk (fun {x y cs} (h : VlP n t x y cs) (hx : x < n) (hy : y < n) => h.step hs (by omega) (by omega))
  have HNX := Hid2.mk (fun {x cs} (h : VlP n t x n cs) => h.next (Int.le_refl _))
  have HAL := Hid2.mk (fun {cs} (h : VlP n t n 0 cs) => h.all hs (Int.le_refl _))
  have HLT := Hid2.mk (fun x y (hx : x < n) (hy : y < n) => show t x y < 10 by
    have := ((SqAt.of hs (x := x) (by omega)).lt (by omega) y (by omega)).1; omega)
  generalize vl0 t = Z at hbl HV0
  clear hs
  go_enter Tryz.func61, Tryz.ntmps61
  go_wp2_with (first | ((with_reducible apply wpM_box' M 50 (sqs n t)); rfl; exact ⟨rfl, rfl⟩; clear M; (try clear C); intro bq w9 h_bq M; have C := M.ruleAll; simp only [Go.Proofs.YtocejggobgfccaaGreatDoor.ruleAll] at C) | ((with_reducible apply wpM_lda' M 0 48 (1) (tbs t)); rfl; rfl; rfl; exact ⟨rfl, inf_tbl.trans (congrArg some (tbs_size ..).symm), _, und_tbl, rfl⟩; exact sqs_tbs) | (refine wpList_build 112 _ rfl rfl [(0, .agg (tbs t))] rfl _ (hbl _) ?_) | ((with_reducible apply wpM_box' M 112 (Z)); rfl; exact ⟨rfl, rfl⟩; clear M; (try clear C); intro bv w9 h_bv M; have C := M.ruleAll; simp only [Go.Proofs.YtocejggobgfccaaGreatDoor.ruleAll] at C) | ((with_reducible apply wpM_lda' M 1 50 0 (sqs n t)); rfl; rfl; rfl; exact ⟨rfl, inf_sqs.trans (congrArg some (sqs_size ..).symm), _, und_sqs, rfl⟩; exact whole_of rfl) | (go_at_call 80; ((with_reducible refine (elements_any _ _ _ (by omega) (by omega)).mono ?_); rintro e w1 ⟨g, cap_g, rfl, hb, hg, hr⟩; have hsz := M.size; have M9 := M.gain hb (x := .rd g n (fun j => .int .u8 (j : Int))) hr (fun b h => by cases h; exact hg); clear M; (try clear C); have M := M9; clear M9; (try simp only [List.set_cons_zero, List.set_cons_succ] at M); have C := M.ruleAll; simp only [Go.Proofs.YtocejggobgfccaaGreatDoor.ruleAll] at C; clear hb hg hr)))
  go_loopw [16, 5, 7, 8, 23] (fun i _ _ _ _ wr => ∃ x : Nat, x ≤ n ∧ i = .int .i64 (x : Int) ∧ ∃ cs, VlP n t x 0 cs ∧ Mm no w wr [.rd g n (fun j => .int .u8 (j : Int)), .box bv cs 112, .box bq (sqs n t) 50]) (fun i _ _ _ _ _ => n - (intOf i).toNat)
  case atStart => exact ⟨0, by omega, rfl, _, HV0.out, M⟩
  case round =>
    obtain ⟨x, hx, rfl, cs0, hcs0, M9⟩ := hrel
    clear M; (try clear C)
    have M := M9
    clear M9
    have C := M.ruleAll; simp only [Go.Proofs.YtocejggobgfccaaGreatDoor.ruleAll] at C
    have HC0 := Hid2.mk hcs0
    clear hcs0
    by_cases hxn : x < n
    · have hxn' : (x : Int) < (n : Int) := by omega
      have hx10 : (x : Int) < 10 := by omega
      have hx10' : x < 10 := by omega
      have dlt : decide ((x : Int) < (n : Int)) = true := decide_eq_true hxn'
      go_wp2_with (first | ((with_reducible apply wpM_lda' M 2 50 0 (sqs n t)); rfl; rfl; rfl; exact ⟨rfl, inf_sqs.trans (congrArg some (sqs_size ..).symm), _, und_sqs, rfl⟩; exact whole_of rfl) | (go_at_call 80; ((with_reducible refine (elements_any _ _ _ (by omega) (by omega)).mono ?_); rintro e w2 ⟨g2, cap_g2, rfl, hb, hg, hr⟩; have hsz := M.size; have M9 := M.gain hb (x := .rd g2 n (fun j => .int .u8 (j : Int))) hr (fun b h => by cases h; exact hg); clear M; (try clear C); have M := M9; clear M9; (try simp only [List.set_cons_zero, List.set_cons_succ] at M); have C := M.ruleAll; simp only [Go.Proofs.YtocejggobgfccaaGreatDoor.ruleAll] at C; clear hb hg hr)))
      have M9 : Mm no w w2 [.box bv cs0 112, .rd g2 n (fun j => .int .u8 (j : Int)), .rd g n (fun j => .int .u8 (j : Int)), .box bq (sqs n t) 50] := M.sub [2, 0, 1, 3] (by decide)
      clear M; (try clear C)
      have M := M9
      clear M9 dlt
      go_loopw [23, 7, 8] (fun i _ _ wr => ∃ y : Nat, y ≤ n ∧ i = .int .i64 (y : Int) ∧ ∃ cs, VlP n t x y cs ∧ Mm no w wr [.box bv cs 112, .rd g2 n (fun j => .int .u8 (j : Int)), .rd g n (fun j => .int .u8 (j : Int)), .box bq (sqs n t) 50]) (fun i _ _ _ => n - (intOf i).toNat)
      case atStart => exact ⟨0, by omega, rfl, _, HC0.out, M⟩
      case round =>
        obtain ⟨y, hy, rfl, cs, hcs, M9⟩ := hrel
        clear M; (try clear C)
        have M := M9
        clear M9
        have C := M.ruleAll; simp only [Go.Proofs.YtocejggobgfccaaGreatDoor.ruleAll] at C
        have HC := Hid2.mk hcs
        clear hcs
        by_cases hyn : y < n
        · have hyn' : (y : Int) < (n : Int) := by omega
          have hy10 : (y : Int) < 10 := by omega
          have hy10' : y < 10 := by omega
          have c1 := sqs_get (n := (n : Int)) (t := t) hx10' hy10'
          have hz := HLT.out x y hxn hyn
          have HP := Hid2.mk (HST.out HC.out hxn hyn)
          generalize t x y = z at c1 hz HP
          have hz10 : (z : Int) < 10 := by omega
          have hsz : cs.size = 300 := HC.out.size
          have hsz2 : (cs.setIfInBounds (100 + x * 10 + z) (.int .u8 (y : Int))).size = 300 := by rw [Array.size_setIfInBounds]; exact hsz
          have HS1 := Hid2.mk hsz
          have HS2 := Hid2.mk hsz2
          clear hsz hsz2
          go_wp2
          apply wp_region_float1 [0, 1, 2, 3, 4, 5, 6, 7, 8, 9, 10, 11, 13, 14, 15] 12 16 _ (Stg (StW bv cs (cs.setIfInBounds (100 + x * 10 + z) (.int .u8 (y : Int))) 112) no w [.rd g2 n (fun j => .int .u8 (j : Int)), .rd g n (fun j => .int .u8 (j : Int)), .box bq (sqs n t) 50]) (by kernel_rfl) (by kernel_rfl) rfl rfl
          case hS => exact ⟨_, rfl, M.drew⟩
          case ht => repeat (first | exact wpTextG_nil | (apply wpTextG_cons; (intro g9 w3 hG; go_wp2; exact ⟨rfl, rfl, hG⟩); rfl))
          case hA =>
            clear M; (try clear C)
            intro w3 hG
            obtain ⟨Lg, h, M⟩ := hG
            obtain rfl : Lg = _ := h
            refine yield_store (ops := #[]) rfl rfl ?_
            simp only [List.cons_append, List.nil_append] at M
            have C := M.ruleAll; simp only [Go.Proofs.YtocejggobgfccaaGreatDoor.ruleAll] at C
            go_wp2_with (first | ((with_reducible apply wpM_st' M 0 5 (100 + x * 10 + z) (cs.setIfInBounds (100 + x * 10 + z) (.int .u8 (y : Int)))); rfl; rfl; rfl; (first | exact .inl (by assumption) | exact .inr rfl | exact .inr (by assumption)); exact ⟨rfl, rfl, by kernel_rfl⟩; (exact Nat.lt_of_lt_of_eq (by omega) (HS1.out).symm); exact rfl; clear M; (try clear C); intro w9 M; simp only [List.set_cons_zero, List.set_cons_succ, entBlk, entT, List.getElem?_cons_zero, List.getElem?_cons_succ] at M; have C := M.ruleAll; simp only [Go.Proofs.YtocejggobgfccaaGreatDoor.ruleAll] at C))
            exact ⟨_, rfl, M⟩
          clear M; (try clear C)
          intro v w3 hG
          obtain ⟨Lg, h, M⟩ := hG
          obtain rfl : Lg = _ := h
          simp only [List.cons_append, List.nil_append, List.drop_succ_cons, List.drop_zero] at M ⊢
          have C := M.ruleAll; simp only [Go.Proofs.YtocejggobgfccaaGreatDoor.ruleAll] at C
          go_wp2_with (first | ((with_reducible apply wpM_st' M 0 5 (200 + z * 10 + y) ((cs.setIfInBounds (100 + x * 10 + z) (.int .u8 (y : Int))).setIfInBounds (200 + z * 10 + y) (.int .u8 (x : Int)))); rfl; rfl; rfl; (first | exact .inl (by assumption) | exact .inr rfl | exact .inr (by assumption)); exact ⟨rfl, rfl, by kernel_rfl⟩; (exact Nat.lt_of_lt_of_eq (by omega) (HS2.out).symm); exact rfl; clear M; (try clear C); intro w9 M; simp only [List.set_cons_zero, List.set_cons_succ, entBlk, entT, List.getElem?_cons_zero, List.getElem?_cons_succ] at M; have C := M.ruleAll; simp only [Go.Proofs.YtocejggobgfccaaGreatDoor.ruleAll] at C))
          go_roundw
          case rel => exact ⟨y + 1, by omega, by go_num, _, HP.out, M⟩
          case measure => simp [intOf]; omega
        · obtain rfl : y = n := by omega
          have hge : ¬ ((y : Int) < (y : Int)) := by omega
          have HN := Hid2.mk (HNX.out HC.out)
          go_wp2
          go_roundw
          case rel => exact ⟨x + 1, by omega, by go_num, _, HN.out, M.sub [2, 0, 3] (by decide)⟩
          case measure => simp [intOf]; omega
    · obtain rfl : x = n := by omega
      have hge : ¬ ((x : Int) < (x : Int)) := by omega
      have HR := Hid2.mk (HAL.out HC0.out)
      go_wp2
      go_ret
      exact ⟨bv, rfl, h_bv, cs0, HR.out, M.sub [1] (by decide)⟩
end Go.Proofs.YtocejggobgfccaaGreatDoor

