/- The reader of terms, for the reference: contracts. -/
import Derived.Test.YtpmemoabkbmljaaDoorC83
import Derived.Test.YtpmemoabkbmljaaDoorK17
import Derived.OwnWalk
namespace Go.Proofs.YtpmemoabkbmljaaDoor
set_option linter.unusedSimpArgs false
set_option linter.unusedVariables false
open Go Go.RowKit

/-- A side, if operands are read by p. -/
def sideOf (l : List Nat) (p : Nat → Option (List Nat × Nat)) (k : Nat) : Option (List Nat × Nat) :=
  match p k with
  | none => none
  | some (a, k1) => if isOpB (l.getD k1 0) = false then some (a, k1) else match p (k1 + 1) with | none => none | some (b, k2) => some (a ++ b ++ [l.getD k1 0], k2)
def opK (l : List Nat) : Nat → Nat → Option (List Nat × Nat)
  | 0, k => if isLeafB (l.getD k 0) = true then some ([l.getD k 0], k + 1) else none
  | n + 1, k => if isLeafB (l.getD k 0) = true then some ([l.getD k 0], k + 1) else if l.getD k 0 = 40 then
      (match sideOf l (opK l n) (k + 1) with | none => none | some (t, k2) => if t.length = 1 ∨ l.getD k2 0 ≠ 41 then none else some (t, k2 + 1)) else none
/-- What is read is not too long, and the reader goes on. -/
def SdB (l : List Nat) (k : Nat) (o : Option (List Nat × Nat)) : Prop := ∀ a k', o = some (a, k') → k' ≤ l.length ∧ k < k' ∧ a.length ≤ 2 * (k' - k)
theorem leafB_lt {l : List Nat} {k : Nat} (h : isLeafB (l.getD k 0) = true) : k < l.length := getD_lt fun e => by rw [e] at h; cases h
theorem sideOf_b {l : List Nat} {p : Nat → Option (List Nat × Nat)} (hp : ∀ k, SdB l k (p k)) (k : Nat) : SdB l k (sideOf l p k) := by
  intro a k' h
  unfold sideOf at h
  split at h
  · cases h
  · rename_i a1 k1 h1
    have b1 := hp k a1 k1 h1
    split at h
    · cases h; exact b1
    · split at h
      · cases h
      · rename_i b2 k2 h2
        have b2' := hp (k1 + 1) b2 k2 h2
        cases h
        refine ⟨b2'.1, by omega, ?_⟩
        simp only [List.length_append, List.length_singleton]
        omega
theorem opK_b (l : List Nat) : ∀ n k, SdB l k (opK l n k)
  | 0, k => fun a k' h => by
    unfold opK at h
    split at h
    · rename_i hl; cases h; exact ⟨leafB_lt hl, by omega, by simp⟩
    · cases h
  | n + 1, k => fun a k' h => by
    unfold opK at h
    split at h
    · rename_i hl; cases h; exact ⟨leafB_lt hl, by omega, by simp⟩
    · split at h
      · split at h
        · cases h
        · rename_i t k2 h2
          have b := sideOf_b (fun k => opK_b l n k) (k + 1) t k2 h2
          split at h
          · cases h
          · rename_i hc
            cases h
            have : k2 < l.length := getD_lt (by rw [not_or] at hc; omega)
            exact ⟨by omega, by omega, by omega⟩
      · cases h

/-- What a reader hands back. -/
def SdPost (k : Nat) (o : Option (List Nat × Nat)) (w : World) (e : Ending) (w' : World) : Prop :=
  match o with
  | none => e = .returned (.tuple #[.slice none 0 0, .int .i64 (k : Int), .bool false]) ∧ Below w.heap.size w w'
  | some (xs, k') => ∃ v, e = .returned (.tuple #[v, .int .i64 (k' : Int), .bool true]) ∧ Mm no w w' [.row w.heap.size v xs.length (u8s xs) 5 1]
def Sdr (f : Nat) (l : List Nat) (n : Nat) (p : Nat → Option (List Nat × Nat)) : Prop :=
  ∀ k w, k ≤ l.length → l.length - k ≤ n → Calls Tryd.prog f #[.string (str l), .int .i64 (k : Int)] w (SdPost k (p k) w)

def sd7R : Nat → List Nat
  | 0 => []
  | 1 => []
  | 2 => [0, 1]
  | 3 => []
  | 4 => []
  | 5 => [3, 4]
  | 6 => [3, 4, 5]
  | 7 => [0, 1, 2, 3, 4, 5, 6]
  | 8 => []
  | 9 => [0, 1, 2, 3, 4, 5, 6, 7]
  | 10 => [0, 1, 2, 3, 4, 5, 6, 7, 8, 9]
  | 11 => [0, 1, 2, 3, 4, 5, 6, 7, 8, 9, 10]
  | _ => []
def sd7P (a b : List Nat) (c k1 k2 : Nat) (p1 p2 : Option Addr) (q1 q2 : Nat) (l : List Nat) (B0 : Nat) : Nat → (Nat → Bool) → (Nat → Value) → List Ent → Prop
  | 0, _, g, E => g 0 = .slice p1 a.length q1 ∧ E = []
  | 1, _, g, E => g 1 = .slice p2 b.length q2 ∧ E = []
  | 2, _, g, E => E = []
  | 3, _, g, E => g 3 = .string (str l) ∧ E = []
  | 4, _, g, E => g 4 = .int .i64 (k1 : Int) ∧ E = []
  | 5, _, g, E => g 5 = .int .u8 (c : Int) ∧ E = []
  | 6, _, g, E => ∃ bi, g 6 = .slice (some ⟨bi, 0, none⟩) 1 1 ∧ E = [.box bi #[.int .u8 (c : Int)] 5]
  | 7, _, g, E => E = []
  | 8, _, g, E => g 8 = .int .i64 (k2 : Int) ∧ E = []
  | 9, _, g, E => g 9 = g 7 ∧ E = []
  | 10, _, g, E => g 10 = .int .i64 (k2 : Int) ∧ E = []
  | 11, _, g, E => g 11 = .bool true ∧ E = []
  | 12, D, g, E => (D 7 = true ∧ E = [.row B0 (g 7) (a.length + b.length + 1) (u8s a ++ u8s b ++ [.int .u8 (c : Int)]) 5 1]) ∨ (D 7 = false ∧ D 2 = true ∧ E = [.row B0 (g 2) (a.length + b.length) (u8s a ++ u8s b) 5 1]) ∨ (D 7 = false ∧ D 2 = false ∧ E = [.row B0 (.slice p1 a.length q1) a.length (u8s a) 5 1])
  | _, _, _, _ => False
def sd7W (j : Nat) : List Nat := if j = 12 then [2, 7] else []
theorem sd7S (a b : List Nat) (c k1 k2 : Nat) (p1 p2 : Option Addr) (q1 q2 : Nat) (l : List Nat) (B0 : Nat) : Stable (sd7P a b c k1 k2 p1 p2 q1 q2 l B0) sd7R sd7W := fun i k D g u E hki hkR hkW h => by
  match i with
  | 0 =>
    have e0 : updG g k u 0 = g 0 := updG_ne (g := g) (u := u) (Ne.symm hki)
    simp only [sd7P, e0]; exact h
  | 1 =>
    have e1 : updG g k u 1 = g 1 := updG_ne (g := g) (u := u) (Ne.symm hki)
    simp only [sd7P, e1]; exact h
  | 2 =>
    simp only [sd7P, ]; exact h
  | 3 =>
    have e3 : updG g k u 3 = g 3 := updG_ne (g := g) (u := u) (Ne.symm hki)
    simp only [sd7P, e3]; exact h
  | 4 =>
    have e4 : updG g k u 4 = g 4 := updG_ne (g := g) (u := u) (Ne.symm hki)
    simp only [sd7P, e4]; exact h
  | 5 =>
    have e5 : updG g k u 5 = g 5 := updG_ne (g := g) (u := u) (Ne.symm hki)
    simp only [sd7P, e5]; exact h
  | 6 =>
    have e6 : updG g k u 6 = g 6 := updG_ne (g := g) (u := u) (Ne.symm hki)
    simp only [sd7P, e6]; exact h
  | 7 =>
    simp only [sd7P, ]; exact h
  | 8 =>
    have e8 : updG g k u 8 = g 8 := updG_ne (g := g) (u := u) (Ne.symm hki)
    simp only [sd7P, e8]; exact h
  | 9 =>
    have e9 : updG g k u 9 = g 9 := updG_ne (g := g) (u := u) (Ne.symm hki)
    have e7 : updG g k u 7 = g 7 := updG_ne (g := g) (u := u) (i := k) (j := 7) (fun e => hkR (by rw [← e]; decide))
    simp only [sd7P, e9, e7]; exact h
  | 10 =>
    have e10 : updG g k u 10 = g 10 := updG_ne (g := g) (u := u) (Ne.symm hki)
    simp only [sd7P, e10]; exact h
  | 11 =>
    have e11 : updG g k u 11 = g 11 := updG_ne (g := g) (u := u) (Ne.symm hki)
    simp only [sd7P, e11]; exact h
  | 12 =>
    have hkW' : k ∉ ([2, 7] : List Nat) := hkW
    simp only [List.mem_cons, List.not_mem_nil, or_false, not_or] at hkW'
    have e2 : updG g k u 2 = g 2 := updG_ne (by omega)
    have d2 : updD D k 2 = D 2 := updD_ne (by omega)
    have e7 : updG g k u 7 = g 7 := updG_ne (by omega)
    have d7 : updD D k 7 = D 7 := updD_ne (by omega)
    simp only [sd7P, e2, d2, e7, d7]; exact h
  | n + 13 => exact h.elim


set_option maxRecDepth 100000 in
set_option maxHeartbeats 4000000 in
theorem side_of (l : List Nat) (hl : l.length ≤ 1000) (hb : Byts l) (n : Nat) (p : Nat → Option (List Nat × Nat)) (hp : Sdr 80 l n p) (hB : ∀ k, SdB l k (p k)) : Sdr 61 l n (sideOf l p) := by
  intro k w hk hn
  have M := Mm.start no w
  have H1 := Hid2.mk (fun w1 => hp k w1 hk hn)
  have hsz := str_size l
  have HT := Hid2.mk (show sideOf l p k = (match p k with | none => none | some (a, k1) => if isOpB (l.getD k1 0) = false then some (a, k1) else match p (k1 + 1) with | none => none | some (b, k2) => some (a ++ b ++ [l.getD k1 0], k2)) from rfl)
  generalize sideOf l p k = res at HT ⊢
  have hb1 := hB k
  rcases hpk : p k with _ | ⟨a, k1⟩
  · rw [hpk] at H1 HT
    have hres : res = none := HT.out
    subst hres
    clear HT hb1 hpk hp hB
    go_enter Tryd.func61, Tryd.ntmps61
    go_wp2_with (first | (go_at_call 80; fail))
    refine (H1.out _).mono ?_
    rintro e w1 ⟨rfl, hb⟩
    have M9 := M.later hb
    clear M; (try clear C)
    have M := M9
    clear M9 hb
    go_wp2
    go_ret3
    exact ⟨rfl, M.below⟩
  · obtain ⟨hk1, hkk, hla⟩ := hb1 a k1 hpk
    rw [hpk] at H1 HT
    have HT2 := Hid2.mk (show res = (if isOpB (l.getD k1 0) = false then some (a, k1) else match p (k1 + 1) with | none => none | some (b, k2) => some (a ++ b ++ [l.getD k1 0], k2)) from HT.out)
    clear HT hb1 hpk
    go_enter Tryd.func61, Tryd.ntmps61
    go_wp2_with (first | (go_at_call 80; fail))
    refine (H1.out _).mono ?_
    rintro e w1 ⟨v, rfl, M'⟩
    have M9 := M.joinRow M'
    obtain ⟨pp1, cap1, rfl⟩ := own_form (M9.row 0 rfl)
    clear M; (try clear C)
    have M := M9
    clear M9 M' H1
    have C := M.ruleAll; simp only [Go.Proofs.YtpmemoabkbmljaaDoor.ruleAll] at C
    by_cases hlt : k1 < l.length
    · have h1 : ¬ ((l.length : Int) ≤ (k1 : Int)) := by omega
      have hix := ix_str hb k1 hlt
      by_cases ho : isOpB (l.getD k1 0) = false
      · have HR := HT2.out
        rw [if_pos ho] at HR
        subst HR
        have HO := fun w1 => l03Op_b (l.getD k1 0) false ho w1
        generalize l.getD k1 0 = b at hix HO
        clear HT2 hp hB ho
        go_wp2_with (first | (go_at_call 81; ((with_reducible refine (HO _).mono ?_); rintro e w1 ⟨rfl, rfl⟩)))
        go_ret3
        exact ⟨_, rfl, M⟩
      · have HR := HT2.out
        rw [if_neg ho] at HR
        have HO := fun w1 => l03Op_b (l.getD k1 0) true (by simpa using ho) w1
        have H2 := Hid2.mk (fun w1 => hp (k1 + 1) w1 (by omega) (by omega))
        have hb2 := hB (k1 + 1)
        clear HT2 hp hB ho
        rcases hpk : p (k1 + 1) with _ | ⟨b, k2⟩
        · rw [hpk] at H2 HR
          have hres : res = none := HR
          subst hres
          generalize l.getD k1 0 = c at hix HO
          clear hpk hb2 HR
          go_wp2_with (first | (go_at_call 81; ((with_reducible refine (HO _).mono ?_); rintro e w1 ⟨rfl, rfl⟩)) | (go_at_call 80; fail))
          refine (H2.out _).mono ?_
          rintro e w1 ⟨rfl, hb⟩
          have M9 := M.later hb
          clear M; (try clear C)
          have M := M9
          clear M9 hb
          go_wp2
          go_ret3
          exact ⟨rfl, M.below⟩
        · obtain ⟨hk2, hkk2, hlb⟩ := hb2 b k2 hpk
          rw [hpk] at H2 HR
          have hres : res = some (a ++ b ++ [l.getD k1 0], k2) := HR
          have HRES := Hid2.mk hres
          generalize l.getD k1 0 = c at hix HO HRES
          clear hpk hb2 HR hres
          go_wp2_with (first | (go_at_call 81; ((with_reducible refine (HO _).mono ?_); rintro e w1 ⟨rfl, rfl⟩)) | (go_at_call 80; fail))
          refine (H2.out _).mono ?_
          rintro e w1 ⟨v, rfl, M'⟩
          have M9 := M.joinRow M'
          obtain ⟨pp2, cap2, rfl⟩ := own_form (M9.row 0 rfl)
          clear M; (try clear C)
          have M := M9
          clear M9 M' H2
          have HL := Hid2.mk (show a.length + b.length ≤ maxLen ∧ (a.length + b.length) * 1 ≤ 140737488355328 from ⟨by simp only [maxLen]; omega, by omega⟩)
          have HL3 := Hid2.mk (show (a.length + b.length + 1) * 1 ≤ 140737488355328 by omega)
          go_wp2
          refine wp_region_own (fun D g w' => GrS 13 (sd7P a b c k1 k2 pp1 pp2 cap1 cap2 l w.heap.size) sd7R w [.row w.heap.size (.slice pp2 b.length cap2) b.length (u8s b) 5 1] (psD 12 D) g w') (by kernel_rfl) (by kernel_rfl) (fun _ => undef) (GrS.start2 (E0 := [.row w.heap.size (.slice pp1 a.length cap1) a.length (u8s a) 5 1]) (by decide) rfl (M.sub [1, 0] (by decide)) _ (.inr (.inr ⟨rfl, rfl, rfl⟩))) ?hs_sd7 ?hQ_sd7
          case hs_sd7 =>
            clear M
            try clear C
            intro i o hi D g w2 hi0 hpre S
            have hlt : i < 12 := by have := (List.getElem?_eq_some_iff.1 hi).1; simpa using this
            obtain rfl | rfl | rfl | rfl | rfl | rfl | rfl | rfl | rfl | rfl | rfl | rfl : i = 0 ∨ i = 1 ∨ i = 2 ∨ i = 3 ∨ i = 4 ∨ i = 5 ∨ i = 6 ∨ i = 7 ∨ i = 8 ∨ i = 9 ∨ i = 10 ∨ i = 11 := by omega
            · simp only [List.getElem?_cons_succ, List.getElem?_cons_zero, Option.some.injEq] at hi
              subst hi
              have M := S.base
              have HI0 : psD 12 D 0 = false := (psD_ne (by decide)).trans hi0
              clear hi0
              have hi0 := HI0
              have HR : ∀ j ∈ sd7R 0, psD 12 D j = true := (fun _ h => by cases h)
              have HW : ∀ j, psD 12 D j = true → 0 ∉ sd7W j := fun j _ h => by unfold sd7W at h; split at h <;> simp at h
              have hst := sd7S a b c k1 k2 pp1 pp2 cap1 cap2 l w.heap.size
              refine ⟨⟨#[undef, undef, undef, undef, undef, undef, undef, .slice pp1 a.length cap1, undef, undef, undef, undef, undef, undef, undef, undef, undef, undef, undef, undef, undef, undef, undef, undef, undef, undef, undef, undef, undef, undef, undef, undef, undef, undef, undef, undef, undef, undef, undef, undef, undef, undef, undef, undef, undef, undef, undef, undef, undef, undef, undef, undef, undef, undef, undef, undef, undef, undef, undef, undef], []⟩, ?_, ?_⟩
              · intro t ht
                have ht' : t ∈ ([7] : List Nat) := ht
                simp only [List.mem_cons, List.not_mem_nil, or_false] at ht'
                subst ht'
                exact rfl
              · skip
                simp only [psD_upd]
                have C := M.ruleAll; simp only [Go.Proofs.YtpmemoabkbmljaaDoor.ruleAll] at C
                refine yield_walk (ops := #[]) rfl rfl (show 49 < 60 by decide) ?_
                go_wp2
                exact S.val (i := 0) hst (by decide) hi0 HR HW (Below.refl _ _) ⟨updG_at .., rfl⟩
            · simp only [List.getElem?_cons_succ, List.getElem?_cons_zero, Option.some.injEq] at hi
              subst hi
              have M := S.base
              have HI0 : psD 12 D 1 = false := (psD_ne (by decide)).trans hi0
              clear hi0
              have hi0 := HI0
              have HR : ∀ j ∈ sd7R 1, psD 12 D j = true := (fun _ h => by cases h)
              have HW : ∀ j, psD 12 D j = true → 1 ∉ sd7W j := fun j _ h => by unfold sd7W at h; split at h <;> simp at h
              have hst := sd7S a b c k1 k2 pp1 pp2 cap1 cap2 l w.heap.size
              refine ⟨⟨#[undef, undef, undef, undef, undef, undef, undef, undef, undef, undef, .slice pp2 b.length cap2, undef, undef, undef, undef, undef, undef, undef, undef, undef, undef, undef, undef, undef, undef, undef, undef, undef, undef, undef, undef, undef, undef, undef, undef, undef, undef, undef, undef, undef, undef, undef, undef, undef, undef, undef, undef, undef, undef, undef, undef, undef, undef, undef, undef, undef, undef, undef, undef, undef], []⟩, ?_, ?_⟩
              · intro t ht
                have ht' : t ∈ ([10] : List Nat) := ht
                simp only [List.mem_cons, List.not_mem_nil, or_false] at ht'
                subst ht'
                exact rfl
              · skip
                simp only [psD_upd]
                have C := M.ruleAll; simp only [Go.Proofs.YtpmemoabkbmljaaDoor.ruleAll] at C
                refine yield_walk (ops := #[]) rfl rfl (show 50 < 60 by decide) ?_
                go_wp2
                exact S.val (i := 1) hst (by decide) hi0 HR HW (Below.refl _ _) ⟨updG_at .., rfl⟩
            · simp only [List.getElem?_cons_succ, List.getElem?_cons_zero, Option.some.injEq] at hi
              subst hi
              have d0 : psD 12 D 0 = true := psD_of (hpre _ (Array.mem_of_getElem? (i := 0) rfl) rfl)
              have d1 : psD 12 D 1 = true := psD_of (hpre _ (Array.mem_of_getElem? (i := 1) rfl) rfl)
              obtain ⟨E, P, M⟩ := S.get [0, 1] (by decide) (by intro j hj; simp only [List.mem_cons, List.not_mem_nil, or_false] at hj; rcases hj with rfl | rfl <;> assumption)
              obtain ⟨e0, E0⟩ : g 0 = .slice pp1 a.length cap1 ∧ E 0 = [] := P 0 (by decide)
              obtain ⟨e1, E1⟩ : g 1 = .slice pp2 b.length cap2 ∧ E 1 = [] := P 1 (by decide)
              simp only [List.flatMap_cons, List.flatMap_nil, List.append_nil, E0, E1, List.cons_append, List.nil_append] at M
              clear P
              have HI0 : psD 12 D 2 = false := (psD_ne (by decide)).trans hi0
              clear hi0
              have hi0 := HI0
              have HR : ∀ j ∈ sd7R 2, psD 12 D j = true := (by intro j hj; have hj' : j ∈ ([0, 1] : List Nat) := hj; simp only [List.mem_cons, List.not_mem_nil, or_false] at hj'; rcases hj' with rfl | rfl <;> assumption)
              have HW : ∀ j, psD 12 D j = true → j ≠ 12 → 2 ∉ sd7W j := fun j _ hne h => by unfold sd7W at h; rw [if_neg hne] at h; cases h
              have hst := sd7S a b c k1 k2 pp1 pp2 cap1 cap2 l w.heap.size
              clear M
              obtain ⟨E', X, P, M, FIN⟩ := S.writeK (i := 2) hst (by decide) hi0 HR HW (psD_at ..) [] (by decide) (by intro j hj; cases hj)
              have P0 := P 12 (by decide)
              obtain ⟨h7, E12⟩ : psD 12 D 7 = false ∧ E' 12 = [.row w.heap.size (.slice pp1 a.length cap1) a.length (u8s a) 5 1] := by
                rcases P0 with ⟨h, _⟩ | ⟨_, h, _⟩ | ⟨h, _, h2⟩
                · have := S.anc 7 h 2 (by decide); rw [hi0] at this; cases this
                · rw [hi0] at h; cases h
                · exact ⟨h, h2⟩
              simp only [E12, List.flatMap_cons, List.flatMap_nil, List.append_nil, List.cons_append, List.nil_append] at M
              clear P
              refine ⟨⟨#[undef, undef, undef, undef, undef, undef, undef, undef, undef, undef, undef, undef, undef, undef, undef, undef, undef, undef, undef, undef, undef, undef, undef, undef, undef, undef, undef, undef, undef, undef, undef, undef, undef, undef, undef, undef, undef, undef, undef, undef, undef, undef, undef, undef, undef, undef, undef, undef, undef, .slice pp1 a.length cap1, .slice pp2 b.length cap2, undef, undef, undef, undef, undef, undef, undef, undef, undef], []⟩, ?_, ?_⟩
              · intro t ht
                have ht' : t ∈ ([49, 50] : List Nat) := ht
                simp only [List.mem_cons, List.not_mem_nil, or_false] at ht'
                rcases ht' with rfl | rfl
                · exact e0.symm
                · exact e1.symm
              · skip
                simp only [psD_upd]
                refine yield_walk (ops := #[]) rfl rfl (show 51 < 60 by decide) ?_
                have C := M.ruleAll; simp only [Go.Proofs.YtpmemoabkbmljaaDoor.ruleAll] at C
                go_wp2_with (first | ((with_reducible apply wpM_appr M 47 0 1 (w.heap.size) (.slice pp1 a.length cap1) (a.length) (u8s a) 5 1 (w.heap.size) (pp2) (cap2) (b.length) (u8s b)); rfl; rfl; rfl; rfl; rfl; rfl; (first | exact .inl (Nat.le_refl _) | exact .inl (by assumption) | exact .inr (by assumption) | exact .inr HDv.out); (first | exact M.size | (have hq := M.size; omega)); exact und_sl8b; exact inf_el8b; rfl; exact u8s_one b; exact HL.out.1; exact HL.out.2; clear M; (try clear C); intro v2 w9 far_v2 M; simp only [List.set_cons_zero, List.set_cons_succ, entBlk, entT, List.getElem?_cons_zero, List.getElem?_cons_succ] at M; obtain ⟨pp_v2, cap_v2, rfl⟩ := own_form (M.row 0 rfl); have C := M.ruleAll; simp only [Go.Proofs.YtpmemoabkbmljaaDoor.ruleAll] at C))
                refine FIN _ _ [.row w.heap.size (.slice pp_v2 (a.length + b.length) cap_v2) (a.length + b.length) (u8s a ++ u8s b) 5 1] M (.inr (.inl ⟨(updD_ne (by decide)).trans h7, updD_at .., by rw [updG_at]⟩)) rfl
            · simp only [List.getElem?_cons_succ, List.getElem?_cons_zero, Option.some.injEq] at hi
              subst hi
              have M := S.base
              have HI0 : psD 12 D 3 = false := (psD_ne (by decide)).trans hi0
              clear hi0
              have hi0 := HI0
              have HR : ∀ j ∈ sd7R 3, psD 12 D j = true := (fun _ h => by cases h)
              have HW : ∀ j, psD 12 D j = true → 3 ∉ sd7W j := fun j _ h => by unfold sd7W at h; split at h <;> simp at h
              have hst := sd7S a b c k1 k2 pp1 pp2 cap1 cap2 l w.heap.size
              refine ⟨⟨#[.string (str l), undef, undef, undef, undef, undef, undef, undef, undef, undef, undef, undef, undef, undef, undef, undef, undef, undef, undef, undef, undef, undef, undef, undef, undef, undef, undef, undef, undef, undef, undef, undef, undef, undef, undef, undef, undef, undef, undef, undef, undef, undef, undef, undef, undef, undef, undef, undef, undef, undef, undef, undef, undef, undef, undef, undef, undef, undef, undef, undef], []⟩, ?_, ?_⟩
              · intro t ht
                have ht' : t ∈ ([0] : List Nat) := ht
                simp only [List.mem_cons, List.not_mem_nil, or_false] at ht'
                subst ht'
                exact rfl
              · skip
                simp only [psD_upd]
                have C := M.ruleAll; simp only [Go.Proofs.YtpmemoabkbmljaaDoor.ruleAll] at C
                refine yield_walk (ops := #[]) rfl rfl (show 52 < 60 by decide) ?_
                go_wp2
                exact S.val (i := 3) hst (by decide) hi0 HR HW (Below.refl _ _) ⟨updG_at .., rfl⟩
            · simp only [List.getElem?_cons_succ, List.getElem?_cons_zero, Option.some.injEq] at hi
              subst hi
              have M := S.base
              have HI0 : psD 12 D 4 = false := (psD_ne (by decide)).trans hi0
              clear hi0
              have hi0 := HI0
              have HR : ∀ j ∈ sd7R 4, psD 12 D j = true := (fun _ h => by cases h)
              have HW : ∀ j, psD 12 D j = true → 4 ∉ sd7W j := fun j _ h => by unfold sd7W at h; split at h <;> simp at h
              have hst := sd7S a b c k1 k2 pp1 pp2 cap1 cap2 l w.heap.size
              refine ⟨⟨#[undef, undef, undef, undef, undef, undef, undef, undef, .int .i64 (k1 : Int), undef, undef, undef, undef, undef, undef, undef, undef, undef, undef, undef, undef, undef, undef, undef, undef, undef, undef, undef, undef, undef, undef, undef, undef, undef, undef, undef, undef, undef, undef, undef, undef, undef, undef, undef, undef, undef, undef, undef, undef, undef, undef, undef, undef, undef, undef, undef, undef, undef, undef, undef], []⟩, ?_, ?_⟩
              · intro t ht
                have ht' : t ∈ ([8] : List Nat) := ht
                simp only [List.mem_cons, List.not_mem_nil, or_false] at ht'
                subst ht'
                exact rfl
              · skip
                simp only [psD_upd]
                have C := M.ruleAll; simp only [Go.Proofs.YtpmemoabkbmljaaDoor.ruleAll] at C
                refine yield_walk (ops := #[]) rfl rfl (show 53 < 60 by decide) ?_
                go_wp2
                exact S.val (i := 4) hst (by decide) hi0 HR HW (Below.refl _ _) ⟨updG_at .., rfl⟩
            · simp only [List.getElem?_cons_succ, List.getElem?_cons_zero, Option.some.injEq] at hi
              subst hi
              have d3 : psD 12 D 3 = true := psD_of (hpre _ (Array.mem_of_getElem? (i := 0) rfl) rfl)
              have d4 : psD 12 D 4 = true := psD_of (hpre _ (Array.mem_of_getElem? (i := 1) rfl) rfl)
              obtain ⟨E, P, M⟩ := S.get [3, 4] (by decide) (by intro j hj; simp only [List.mem_cons, List.not_mem_nil, or_false] at hj; rcases hj with rfl | rfl <;> assumption)
              obtain ⟨e3, E3⟩ : g 3 = .string (str l) ∧ E 3 = [] := P 3 (by decide)
              obtain ⟨e4, E4⟩ : g 4 = .int .i64 (k1 : Int) ∧ E 4 = [] := P 4 (by decide)
              simp only [List.flatMap_cons, List.flatMap_nil, List.append_nil, E3, E4, List.cons_append, List.nil_append] at M
              clear P
              have HI0 : psD 12 D 5 = false := (psD_ne (by decide)).trans hi0
              clear hi0
              have hi0 := HI0
              have HR : ∀ j ∈ sd7R 5, psD 12 D j = true := (by intro j hj; have hj' : j ∈ ([3, 4] : List Nat) := hj; simp only [List.mem_cons, List.not_mem_nil, or_false] at hj'; rcases hj' with rfl | rfl <;> assumption)
              have HW : ∀ j, psD 12 D j = true → 5 ∉ sd7W j := fun j _ h => by unfold sd7W at h; split at h <;> simp at h
              have hst := sd7S a b c k1 k2 pp1 pp2 cap1 cap2 l w.heap.size
              refine ⟨⟨#[undef, undef, undef, undef, undef, undef, undef, undef, undef, undef, undef, undef, undef, undef, undef, undef, undef, undef, undef, undef, undef, undef, undef, undef, undef, undef, undef, undef, undef, undef, undef, undef, undef, undef, undef, undef, undef, undef, undef, undef, undef, undef, undef, undef, undef, undef, undef, undef, undef, undef, undef, undef, .string (str l), .int .i64 (k1 : Int), undef, undef, undef, undef, undef, undef], []⟩, ?_, ?_⟩
              · intro t ht
                have ht' : t ∈ ([52, 53] : List Nat) := ht
                simp only [List.mem_cons, List.not_mem_nil, or_false] at ht'
                rcases ht' with rfl | rfl
                · exact e3.symm
                · exact e4.symm
              · skip
                simp only [psD_upd]
                have C := M.ruleAll; simp only [Go.Proofs.YtpmemoabkbmljaaDoor.ruleAll] at C
                refine yield_walk (ops := #[]) rfl rfl (show 54 < 60 by decide) ?_
                go_wp2
                exact S.val (i := 5) hst (by decide) hi0 HR HW (Below.refl _ _) ⟨updG_at .., rfl⟩
            · simp only [List.getElem?_cons_succ, List.getElem?_cons_zero, Option.some.injEq] at hi
              subst hi
              have d5 : psD 12 D 5 = true := psD_of (hpre _ (Array.mem_of_getElem? (i := 0) rfl) rfl)
              have d3 : psD 12 D 3 = true := S.anc 5 d5 3 (show 3 ∈ sd7R 5 by decide)
              have d4 : psD 12 D 4 = true := S.anc 5 d5 4 (show 4 ∈ sd7R 5 by decide)
              obtain ⟨E, P, M⟩ := S.get [5] (by decide) (by intro j hj; simp only [List.mem_cons, List.not_mem_nil, or_false] at hj; subst hj <;> assumption)
              obtain ⟨e5, E5⟩ : g 5 = .int .u8 (c : Int) ∧ E 5 = [] := P 5 (by decide)
              simp only [List.flatMap_cons, List.flatMap_nil, List.append_nil, E5, List.cons_append, List.nil_append] at M
              clear P
              have HI0 : psD 12 D 6 = false := (psD_ne (by decide)).trans hi0
              clear hi0
              have hi0 := HI0
              have HR : ∀ j ∈ sd7R 6, psD 12 D j = true := (by intro j hj; have hj' : j ∈ ([3, 4, 5] : List Nat) := hj; simp only [List.mem_cons, List.not_mem_nil, or_false] at hj'; rcases hj' with rfl | rfl | rfl <;> assumption)
              have HW : ∀ j, psD 12 D j = true → 6 ∉ sd7W j := fun j _ h => by unfold sd7W at h; split at h <;> simp at h
              have hst := sd7S a b c k1 k2 pp1 pp2 cap1 cap2 l w.heap.size
              refine ⟨⟨#[undef, undef, undef, undef, undef, undef, undef, undef, undef, undef, undef, undef, undef, undef, undef, undef, undef, undef, undef, undef, undef, undef, undef, undef, undef, undef, undef, undef, undef, undef, undef, undef, undef, undef, undef, undef, undef, undef, undef, undef, undef, undef, undef, undef, undef, undef, undef, undef, undef, undef, undef, undef, undef, undef, .int .u8 (c : Int), undef, undef, undef, undef, undef], []⟩, ?_, ?_⟩
              · intro t ht
                have ht' : t ∈ ([54] : List Nat) := ht
                simp only [List.mem_cons, List.not_mem_nil, or_false] at ht'
                subst ht'
                exact e5.symm
              · skip
                simp only [psD_upd]
                clear M
                have M := Mm.start no w2
                have C := M.ruleAll; simp only [Go.Proofs.YtpmemoabkbmljaaDoor.ruleAll] at C
                refine yield_walk (ops := #[]) rfl rfl (show 55 < 60 by decide) ?_
                go_wp2_with (first | ((with_reducible apply wpM_bsl' M 47 1 5 ([(0, .int .u8 (c : Int))]) (#[.int .u8 (c : Int)])); rfl; rfl; rfl; exact bsl_u81 _; clear M; (try clear C); intro bi w9 h_bi M; have C := M.ruleAll; simp only [Go.Proofs.YtpmemoabkbmljaaDoor.ruleAll] at C))
                exact S.add (i := 6) hst (by decide) hi0 HR HW M (new_box h_bi) ⟨bi, updG_at .., rfl⟩
            · simp only [List.getElem?_cons_succ, List.getElem?_cons_zero, Option.some.injEq] at hi
              subst hi
              have d2 : psD 12 D 2 = true := psD_of (hpre _ (Array.mem_of_getElem? (i := 0) rfl) rfl)
              have d6 : psD 12 D 6 = true := psD_of (hpre _ (Array.mem_of_getElem? (i := 1) rfl) rfl)
              have d3 : psD 12 D 3 = true := S.anc 6 d6 3 (show 3 ∈ sd7R 6 by decide)
              have d4 : psD 12 D 4 = true := S.anc 6 d6 4 (show 4 ∈ sd7R 6 by decide)
              have d5 : psD 12 D 5 = true := S.anc 6 d6 5 (show 5 ∈ sd7R 6 by decide)
              have d0 : psD 12 D 0 = true := S.anc 2 d2 0 (show 0 ∈ sd7R 2 by decide)
              have d1 : psD 12 D 1 = true := S.anc 2 d2 1 (show 1 ∈ sd7R 2 by decide)
              have M := S.base
              have HI0 : psD 12 D 7 = false := (psD_ne (by decide)).trans hi0
              clear hi0
              have hi0 := HI0
              have HR : ∀ j ∈ sd7R 7, psD 12 D j = true := (by intro j hj; have hj' : j ∈ ([0, 1, 2, 3, 4, 5, 6] : List Nat) := hj; simp only [List.mem_cons, List.not_mem_nil, or_false] at hj'; rcases hj' with rfl | rfl | rfl | rfl | rfl | rfl | rfl <;> assumption)
              have HW : ∀ j, psD 12 D j = true → j ≠ 12 → 7 ∉ sd7W j := fun j _ hne h => by unfold sd7W at h; rw [if_neg hne] at h; cases h
              have hst := sd7S a b c k1 k2 pp1 pp2 cap1 cap2 l w.heap.size
              clear M
              obtain ⟨E', X, P, M, FIN⟩ := S.writeK (i := 7) hst (by decide) hi0 HR HW (psD_at ..) [6] (by decide) (by intro j hj; simp only [List.mem_cons, List.not_mem_nil, or_false] at hj; subst hj; assumption)
              have P0 := P 12 (by decide)
              have h2 : psD 12 D 2 = true := d2
              obtain E12 : E' 12 = [.row w.heap.size (g 2) (a.length + b.length) (u8s a ++ u8s b) 5 1] := by
                rcases P0 with ⟨h, _⟩ | ⟨_, _, h⟩ | ⟨_, h, _⟩
                · rw [hi0] at h; cases h
                · exact h
                · rw [h2] at h; cases h
              obtain ⟨bi, e6, E6⟩ : ∃ bi, g 6 = .slice (some ⟨bi, 0, none⟩) 1 1 ∧ E' 6 = [.box bi #[.int .u8 (c : Int)] 5] := P 6 (by decide)
              simp only [E12, E6, List.flatMap_cons, List.flatMap_nil, List.append_nil, List.cons_append, List.nil_append] at M
              clear P
              simp only [E6, List.flatMap_cons, List.flatMap_nil, List.append_nil, List.cons_append, List.nil_append] at FIN
              refine ⟨⟨#[undef, undef, undef, undef, undef, undef, undef, undef, undef, undef, undef, undef, undef, undef, undef, undef, undef, undef, undef, undef, undef, undef, undef, undef, undef, undef, undef, undef, undef, undef, undef, undef, undef, undef, undef, undef, undef, undef, undef, undef, undef, undef, undef, undef, undef, undef, undef, undef, undef, undef, undef, g 2, undef, undef, undef, .slice (some ⟨bi, 0, none⟩) 1 1, undef, undef, undef, undef], []⟩, ?_, ?_⟩
              · intro t ht
                have ht' : t ∈ ([51, 55] : List Nat) := ht
                simp only [List.mem_cons, List.not_mem_nil, or_false] at ht'
                rcases ht' with rfl | rfl
                · exact rfl
                · exact e6.symm
              · skip
                simp only [psD_upd]
                obtain ⟨ppx, capx, hg2⟩ := own_form (M.row 0 rfl)
                rw [hg2] at M ⊢
                refine yield_walk (ops := #[]) rfl rfl (show 56 < 60 by decide) ?_
                have C := M.ruleAll; simp only [Go.Proofs.YtpmemoabkbmljaaDoor.ruleAll] at C
                go_wp2_with (first | ((with_reducible apply wpM_app' M 47 0 1 (w.heap.size) (.slice ppx (a.length + b.length) capx) (a.length + b.length) (u8s a ++ u8s b) 5 1 1); rfl; rfl; rfl; rfl; rfl; rfl; rfl; (first | exact .inl (Nat.le_refl _) | exact .inl (by assumption) | exact .inr (by assumption) | exact .inr HDv.out); (first | exact M.size | (have hq := M.size; omega)); exact und_sl8b; exact inf_el8b; rfl; decide; decide; rfl; exact rfl; exact flat_u1 _; exact HL3.out; clear M; (try clear C); intro v8 w9 far_v8 M; simp only [List.set_cons_zero, List.set_cons_succ, entBlk, entT, List.getElem?_cons_zero, List.getElem?_cons_succ] at M; obtain ⟨pp_v8, cap_v8, rfl⟩ := own_form (M.row 0 rfl); have C := M.ruleAll; simp only [Go.Proofs.YtpmemoabkbmljaaDoor.ruleAll] at C))
                refine FIN _ _ [.row w.heap.size (.slice pp_v8 (a.length + b.length + 1) cap_v8) (a.length + b.length + 1) (u8s a ++ u8s b ++ ([Value.int IntKind.u8 (c : Int)] : List Value)) 5 1] M (.inl ⟨updD_at .., by rw [updG_at]⟩) rfl
            · simp only [List.getElem?_cons_succ, List.getElem?_cons_zero, Option.some.injEq] at hi
              subst hi
              have M := S.base
              have HI0 : psD 12 D 8 = false := (psD_ne (by decide)).trans hi0
              clear hi0
              have hi0 := HI0
              have HR : ∀ j ∈ sd7R 8, psD 12 D j = true := (fun _ h => by cases h)
              have HW : ∀ j, psD 12 D j = true → 8 ∉ sd7W j := fun j _ h => by unfold sd7W at h; split at h <;> simp at h
              have hst := sd7S a b c k1 k2 pp1 pp2 cap1 cap2 l w.heap.size
              refine ⟨⟨#[undef, undef, undef, undef, undef, undef, undef, undef, undef, undef, undef, .int .i64 (k2 : Int), undef, undef, undef, undef, undef, undef, undef, undef, undef, undef, undef, undef, undef, undef, undef, undef, undef, undef, undef, undef, undef, undef, undef, undef, undef, undef, undef, undef, undef, undef, undef, undef, undef, undef, undef, undef, undef, undef, undef, undef, undef, undef, undef, undef, undef, undef, undef, undef], []⟩, ?_, ?_⟩
              · intro t ht
                have ht' : t ∈ ([11] : List Nat) := ht
                simp only [List.mem_cons, List.not_mem_nil, or_false] at ht'
                subst ht'
                exact rfl
              · skip
                simp only [psD_upd]
                have C := M.ruleAll; simp only [Go.Proofs.YtpmemoabkbmljaaDoor.ruleAll] at C
                refine yield_walk (ops := #[]) rfl rfl (show 57 < 60 by decide) ?_
                go_wp2
                exact S.val (i := 8) hst (by decide) hi0 HR HW (Below.refl _ _) ⟨updG_at .., rfl⟩
            · simp only [List.getElem?_cons_succ, List.getElem?_cons_zero, Option.some.injEq] at hi
              subst hi
              have d7 : psD 12 D 7 = true := psD_of (hpre _ (Array.mem_of_getElem? (i := 0) rfl) rfl)
              have d0 : psD 12 D 0 = true := psD_of (hpre _ (Array.mem_of_getElem? (i := 2) rfl) rfl)
              have d1 : psD 12 D 1 = true := psD_of (hpre _ (Array.mem_of_getElem? (i := 3) rfl) rfl)
              have d2 : psD 12 D 2 = true := psD_of (hpre _ (Array.mem_of_getElem? (i := 4) rfl) rfl)
              have d3 : psD 12 D 3 = true := psD_of (hpre _ (Array.mem_of_getElem? (i := 5) rfl) rfl)
              have d4 : psD 12 D 4 = true := psD_of (hpre _ (Array.mem_of_getElem? (i := 6) rfl) rfl)
              have d5 : psD 12 D 5 = true := psD_of (hpre _ (Array.mem_of_getElem? (i := 7) rfl) rfl)
              have d6 : psD 12 D 6 = true := psD_of (hpre _ (Array.mem_of_getElem? (i := 8) rfl) rfl)
              have M := S.base
              have HI0 : psD 12 D 9 = false := (psD_ne (by decide)).trans hi0
              clear hi0
              have hi0 := HI0
              have HR : ∀ j ∈ sd7R 9, psD 12 D j = true := (by intro j hj; have hj' : j ∈ ([0, 1, 2, 3, 4, 5, 6, 7] : List Nat) := hj; simp only [List.mem_cons, List.not_mem_nil, or_false] at hj'; rcases hj' with rfl | rfl | rfl | rfl | rfl | rfl | rfl | rfl <;> assumption)
              have HW : ∀ j, psD 12 D j = true → 9 ∉ sd7W j := fun j _ h => by unfold sd7W at h; split at h <;> simp at h
              have hst := sd7S a b c k1 k2 pp1 pp2 cap1 cap2 l w.heap.size
              refine ⟨⟨#[undef, undef, undef, undef, undef, undef, undef, undef, undef, undef, undef, undef, undef, undef, undef, undef, undef, undef, undef, undef, undef, undef, undef, undef, undef, undef, undef, undef, undef, undef, undef, undef, undef, undef, undef, undef, undef, undef, undef, undef, undef, undef, undef, undef, undef, undef, undef, undef, undef, undef, undef, undef, undef, undef, undef, undef, g 7, undef, undef, undef], []⟩, ?_, ?_⟩
              · intro t ht
                have ht' : t ∈ ([56] : List Nat) := ht
                simp only [List.mem_cons, List.not_mem_nil, or_false] at ht'
                subst ht'
                exact rfl
              · skip
                simp only [psD_upd]
                have C := M.ruleAll; simp only [Go.Proofs.YtpmemoabkbmljaaDoor.ruleAll] at C
                refine yield_walk (ops := #[]) rfl rfl (show 4 < 60 by decide) ?_
                go_wp2
                exact S.val (i := 9) hst (by decide) hi0 HR HW (Below.refl _ _) ⟨(updG_at ..).trans (updG_ne (by decide)).symm, rfl⟩
            · simp only [List.getElem?_cons_succ, List.getElem?_cons_zero, Option.some.injEq] at hi
              subst hi
              have d8 : psD 12 D 8 = true := psD_of (hpre _ (Array.mem_of_getElem? (i := 0) rfl) rfl)
              have d9 : psD 12 D 9 = true := psD_of (hpre _ (Array.mem_of_getElem? (i := 1) rfl) rfl)
              have d0 : psD 12 D 0 = true := psD_of (hpre _ (Array.mem_of_getElem? (i := 2) rfl) rfl)
              have d1 : psD 12 D 1 = true := psD_of (hpre _ (Array.mem_of_getElem? (i := 3) rfl) rfl)
              have d2 : psD 12 D 2 = true := psD_of (hpre _ (Array.mem_of_getElem? (i := 4) rfl) rfl)
              have d3 : psD 12 D 3 = true := psD_of (hpre _ (Array.mem_of_getElem? (i := 5) rfl) rfl)
              have d4 : psD 12 D 4 = true := psD_of (hpre _ (Array.mem_of_getElem? (i := 6) rfl) rfl)
              have d5 : psD 12 D 5 = true := psD_of (hpre _ (Array.mem_of_getElem? (i := 7) rfl) rfl)
              have d6 : psD 12 D 6 = true := psD_of (hpre _ (Array.mem_of_getElem? (i := 8) rfl) rfl)
              have d7 : psD 12 D 7 = true := psD_of (hpre _ (Array.mem_of_getElem? (i := 9) rfl) rfl)
              obtain ⟨E, P, M⟩ := S.get [8] (by decide) (by intro j hj; simp only [List.mem_cons, List.not_mem_nil, or_false] at hj; subst hj <;> assumption)
              obtain ⟨e8, E8⟩ : g 8 = .int .i64 (k2 : Int) ∧ E 8 = [] := P 8 (by decide)
              simp only [List.flatMap_cons, List.flatMap_nil, List.append_nil, E8, List.cons_append, List.nil_append] at M
              clear P
              have HI0 : psD 12 D 10 = false := (psD_ne (by decide)).trans hi0
              clear hi0
              have hi0 := HI0
              have HR : ∀ j ∈ sd7R 10, psD 12 D j = true := (by intro j hj; have hj' : j ∈ ([0, 1, 2, 3, 4, 5, 6, 7, 8, 9] : List Nat) := hj; simp only [List.mem_cons, List.not_mem_nil, or_false] at hj'; rcases hj' with rfl | rfl | rfl | rfl | rfl | rfl | rfl | rfl | rfl | rfl <;> assumption)
              have HW : ∀ j, psD 12 D j = true → 10 ∉ sd7W j := fun j _ h => by unfold sd7W at h; split at h <;> simp at h
              have hst := sd7S a b c k1 k2 pp1 pp2 cap1 cap2 l w.heap.size
              refine ⟨⟨#[undef, undef, undef, undef, undef, undef, undef, undef, undef, undef, undef, undef, undef, undef, undef, undef, undef, undef, undef, undef, undef, undef, undef, undef, undef, undef, undef, undef, undef, undef, undef, undef, undef, undef, undef, undef, undef, undef, undef, undef, undef, undef, undef, undef, undef, undef, undef, undef, undef, undef, undef, undef, undef, undef, undef, undef, undef, .int .i64 (k2 : Int), undef, undef], []⟩, ?_, ?_⟩
              · intro t ht
                have ht' : t ∈ ([57] : List Nat) := ht
                simp only [List.mem_cons, List.not_mem_nil, or_false] at ht'
                subst ht'
                exact e8.symm
              · skip
                simp only [psD_upd]
                have C := M.ruleAll; simp only [Go.Proofs.YtpmemoabkbmljaaDoor.ruleAll] at C
                refine yield_walk (ops := #[]) rfl rfl (show 5 < 60 by decide) ?_
                go_wp2
                exact S.val (i := 10) hst (by decide) hi0 HR HW (Below.refl _ _) ⟨updG_at .., rfl⟩
            · simp only [List.getElem?_cons_succ, List.getElem?_cons_zero, Option.some.injEq] at hi
              subst hi
              have d10 : psD 12 D 10 = true := psD_of (hpre _ (Array.mem_of_getElem? (i := 0) rfl) rfl)
              have d0 : psD 12 D 0 = true := psD_of (hpre _ (Array.mem_of_getElem? (i := 1) rfl) rfl)
              have d1 : psD 12 D 1 = true := psD_of (hpre _ (Array.mem_of_getElem? (i := 2) rfl) rfl)
              have d2 : psD 12 D 2 = true := psD_of (hpre _ (Array.mem_of_getElem? (i := 3) rfl) rfl)
              have d3 : psD 12 D 3 = true := psD_of (hpre _ (Array.mem_of_getElem? (i := 4) rfl) rfl)
              have d4 : psD 12 D 4 = true := psD_of (hpre _ (Array.mem_of_getElem? (i := 5) rfl) rfl)
              have d5 : psD 12 D 5 = true := psD_of (hpre _ (Array.mem_of_getElem? (i := 6) rfl) rfl)
              have d6 : psD 12 D 6 = true := psD_of (hpre _ (Array.mem_of_getElem? (i := 7) rfl) rfl)
              have d7 : psD 12 D 7 = true := psD_of (hpre _ (Array.mem_of_getElem? (i := 8) rfl) rfl)
              have d8 : psD 12 D 8 = true := psD_of (hpre _ (Array.mem_of_getElem? (i := 9) rfl) rfl)
              have d9 : psD 12 D 9 = true := psD_of (hpre _ (Array.mem_of_getElem? (i := 10) rfl) rfl)
              have M := S.base
              have HI0 : psD 12 D 11 = false := (psD_ne (by decide)).trans hi0
              clear hi0
              have hi0 := HI0
              have HR : ∀ j ∈ sd7R 11, psD 12 D j = true := (by intro j hj; have hj' : j ∈ ([0, 1, 2, 3, 4, 5, 6, 7, 8, 9, 10] : List Nat) := hj; simp only [List.mem_cons, List.not_mem_nil, or_false] at hj'; rcases hj' with rfl | rfl | rfl | rfl | rfl | rfl | rfl | rfl | rfl | rfl | rfl <;> assumption)
              have HW : ∀ j, psD 12 D j = true → 11 ∉ sd7W j := fun j _ h => by unfold sd7W at h; split at h <;> simp at h
              have hst := sd7S a b c k1 k2 pp1 pp2 cap1 cap2 l w.heap.size
              refine ⟨⟨#[undef, undef, undef, undef, undef, undef, undef, undef, undef, undef, undef, undef, undef, undef, undef, undef, undef, undef, undef, undef, undef, undef, undef, undef, undef, undef, undef, undef, undef, undef, undef, undef, undef, undef, undef, undef, undef, undef, undef, undef, undef, undef, undef, undef, undef, undef, undef, undef, undef, undef, undef, undef, undef, undef, undef, undef, undef, undef, undef, undef], []⟩, ?_, ?_⟩
              · intro t ht
                have ht' : t ∈ ([] : List Nat) := ht
                cases ht'
              · skip
                simp only [psD_upd]
                have C := M.ruleAll; simp only [Go.Proofs.YtpmemoabkbmljaaDoor.ruleAll] at C
                refine yield_walk (ops := #[]) rfl rfl (show 6 < 60 by decide) ?_
                go_wp2
                exact S.val (i := 11) hst (by decide) hi0 HR HW (Below.refl _ _) ⟨updG_at .., rfl⟩
          case hQ_sd7 =>
            clear M
            try clear C
            intro D g w2 hall S
            obtain ⟨E, P, M⟩ := S.get [12] (by decide) (fun k hk => by
              simp only [List.mem_cons, List.not_mem_nil, or_false] at hk
              by_cases e : k = 12
              · rw [e]; exact psD_at ..
              · exact psD_of (hall k (by show k < 12; omega)))
            obtain E12 : E 12 = [.row w.heap.size (g 7) (a.length + b.length + 1) (u8s a ++ u8s b ++ [.int .u8 (c : Int)]) 5 1] := by
              rcases P 12 (by decide) with ⟨_, h⟩ | ⟨h, _⟩ | ⟨h, _⟩
              · exact h
              · rw [psD_of (hall 7 (by decide))] at h; cases h
              · rw [psD_of (hall 7 (by decide))] at h; cases h
            simp only [List.flatMap_cons, List.flatMap_nil, List.append_nil, E12, List.cons_append, List.nil_append] at M
            clear P
            obtain ⟨E', P, _⟩ := S.get [0, 1, 2, 3, 4, 5, 6, 7, 8, 9, 10, 11] (by decide) (fun k hk => by
              simp only [List.mem_cons, List.not_mem_nil, or_false] at hk
              by_cases e : k = 12
              · rw [e]; exact psD_at ..
              · exact psD_of (hall k (by show k < 12; omega)))
            have e0 : g 0 = .slice pp1 a.length cap1 := (P 0 (by decide)).1
            have e1 : g 1 = .slice pp2 b.length cap2 := (P 1 (by decide)).1
            have e3 : g 3 = .string (str l) := (P 3 (by decide)).1
            have e4 : g 4 = .int .i64 (k1 : Int) := (P 4 (by decide)).1
            have e5 : g 5 = .int .u8 (c : Int) := (P 5 (by decide)).1
            obtain ⟨bi, e6, -⟩ : ∃ bi, g 6 = .slice (some ⟨bi, 0, none⟩) 1 1 ∧ E' 6 = [.box bi #[.int .u8 (c : Int)] 5] := P 6 (by decide)
            have e8 : g 8 = .int .i64 (k2 : Int) := (P 8 (by decide)).1
            have e9 : g 9 = g 7 := (P 9 (by decide)).1
            have e10 : g 10 = .int .i64 (k2 : Int) := (P 10 (by decide)).1
            have e11 : g 11 = .bool true := (P 11 (by decide)).1
            simp only [fullAct, e0, e1, e3, e4, e5, e6, e8, e9, e10, e11, Act.put, List.setIfInBounds_toArray, List.set_cons_succ, List.set_cons_zero]
            clear P S hall e0 e1 e3 e4 e5 e6 e8 e9 e10 e11
            try clear E'
            try clear E
            clear HO hix HL HL3
            have C := M.ruleAll; simp only [Go.Proofs.YtpmemoabkbmljaaDoor.ruleAll] at C
            go_wp2
            go_ret3
            rw [HRES.out]
            refine ⟨_, rfl, (M.sub [0] (by decide)).eq ?_⟩
            rw [u8s_app, u8s_app]
            simp only [List.length_append, List.length_singleton]
            rfl
    · have h1 : (l.length : Int) ≤ (k1 : Int) := by omega
      have ho : isOpB (l.getD k1 0) = false := by
        rw [List.getD_eq_getElem?_getD, List.getElem?_eq_none (by omega)]; rfl
      have HR := HT2.out
      rw [if_pos ho] at HR
      subst HR
      clear HT2 hp hB ho
      go_wp2
      go_ret3
      exact ⟨_, rfl, M⟩

end Go.Proofs.YtpmemoabkbmljaaDoor
