/- CosetsOf of the program: a contract. -/
import Derived.Test.YteonahoboligdaaDoorG30
import Derived.Test.YteonahoboligdaaDoorK16
import Derived.Test.YteonahoboligdaaDoorI4
import Derived.Test.YteonahoboligdaaDoorC5
import Derived.Test.YteonahoboligdaaDoorU0
namespace Go.Proofs.YteonahoboligdaaDoor
set_option linter.unusedSimpArgs false
set_option linter.unusedVariables false
open Go Go.RowKit

theorem lM_app (l : List Nat) (x : Nat) : lM (l ++ [x]) = lM l ||| 2 ^ x := mask_ext fun i => by
  rw [lM_bit, Nat.testBit_or, Bool.or_eq_true, lM_bit, Nat.testBit_two_pow, decide_eq_true_eq, List.mem_append, List.mem_singleton]
  exact or_congr Iff.rfl ⟨fun h => h.symm, fun h => h.symm⟩

set_option maxRecDepth 100000 in
set_option maxHeartbeats 2000000 in
theorem setOf_any (l : List Nat) (hl : ∀ x ∈ l, x < 10) (hlen : l.length ≤ 1000000) (w : World) (p : Option Addr) (cap : Nat) (hr : rdq w p l.length (i64F l)) :
    Calls Tryd.prog 24 #[.slice p l.length cap] w fun e w' => e = .returned (.int .i64 (lM l : Nat)) ∧ w = w' := by
  have F1 := Hid2.mk hr
  have HL := Hid2.mk hl
  have HLT := Hid2.mk (fun k => lM_lt (l := l.take k) fun x hx => hl x (List.mem_of_mem_take hx))
  clear hr hl
  go_enter Tryd.func24, Tryd.ntmps24
  go_wp2
  go_loopw [3, 5, 8] (fun o _ i wr => ∃ k : Nat, k ≤ l.length ∧ o = .int .i64 (lM (l.take k) : Nat) ∧ i = .int .i64 (k : Int) ∧ wr = w) (fun _ _ i _ => l.length - (intOf i).toNat)
  case atStart => exact ⟨0, by omega, rfl, rfl, rfl⟩
  case round =>
    obtain ⟨k, hk, rfl, rfl, rfl⟩ := hrel
    by_cases hlt : k < l.length
    · have hlt' : (k : Int) < (l.length : Int) := by omega
      obtain ⟨g, rfl, hrd⟩ := F1.out (by omega)
      have e1 := List.getElem?_eq_getElem hlt
      have hx := HL.out _ (List.getElem_mem hlt)
      have htk : l.take (k + 1) = l.take k ++ [l[k]] := List.take_succ_eq_append_getElem hlt
      have hm := HLT.out k
      generalize l[k] = x at *
      have HN := Hid2.mk (show lM (l.take (k + 1)) = lM (l.take k) ||| 2 ^ x by rw [htk, lM_app])
      have hd1 := hrd.at_ k hlt
      rw [i64F_at e1] at hd1
      generalize lM (l.take k) = m at *
      have HOR := Hid2.mk (bits_or_pow m x hm hx)
      have hx' : (x : Int) < 10 := by omega
      have hm' : (m : Int) < 1024 := by omega
      clear e1 htk hrd
      go_wp2
      go_roundw
      case rel => exact ⟨k + 1, by omega, by rw [HN.out]; exact congrArg (Value.int .i64) HOR.out, by go_num, by first | rfl | trivial⟩
      case measure => simp [intOf]; omega
    · obtain rfl : k = l.length := by omega
      have hge : ¬ ((l.length : Int) < (l.length : Int)) := by omega
      go_wp2
      go_ret
      exact ⟨rfl, rfl⟩

set_option maxRecDepth 100000 in
set_option maxHeartbeats 1000000 in
theorem listCode_any (n : Int) (t : Nat → Nat → Nat) (hby : Byt2 t) (xs : List Int) (hlen : xs.length ≤ 10000000) (w : World) (p : Option Addr) (cap : Nat) (hr : rdq w p xs.length (intF xs)) :
    Calls Tryd.prog 22 #[.agg (sqs n t), .slice p xs.length cap] w fun e w' => e = .returned (.int .i64 (lsCode n t xs)) ∧ Below w.heap.size w w' := by
  have M := Mm.start no w
  have H1 := Hid2.mk (fun w1 => isLoop_any n t w1 hby)
  unfold lsCode
  cases hl : isLp n t with
  | false =>
    rw [hl] at H1
    rw [if_neg (by decide)]
    clear hby hl
    go_enter Tryd.func22, Tryd.ntmps22
    go_wp2_with (first | ((with_reducible apply wpM_box' M 32 (sqs n t)); rfl; exact ⟨rfl, rfl⟩; clear M; (try clear C); intro bq w9 h_bq M; have C := M.ruleAll; simp only [Go.Proofs.YteonahoboligdaaDoor.ruleAll] at C) | ((with_reducible apply wpM_lda' M 0 32 0 (sqs n t)); rfl; rfl; rfl; exact ⟨rfl, inf_sqs.trans (congrArg some (sqs_size ..).symm), _, und_sqs, rfl⟩; exact whole_of rfl) | (go_at_call 40; ((with_reducible refine (H1.out _).mono ?_); rintro e w1 ⟨rfl, hb⟩; have hsz := M.size; (try (have G9 := G.later hb; clear G; have G := G9; clear G9)); have M9 := M.later hb; clear M; (try clear C); have M := M9; clear M9; have C := M.ruleAll; simp only [Go.Proofs.YteonahoboligdaaDoor.ruleAll] at C)))
    go_ret
    exact ⟨rfl, M.below⟩
  | true =>
    obtain ⟨N, rfl, hs⟩ := lp_natG hl
    rw [hl] at H1
    rw [if_pos rfl]
    have H2 := Hid2.mk (fun w1 (hb : Below w.heap.size w w1) => isList_any (N : Int) t hs.lo hs.hi xs hlen w1 p cap (hr.later hb))
    cases hb : setB (N : Int) xs with
    | false =>
      rw [hb] at H2
      rw [if_neg (by decide)]
      clear hby hl hs hb hr
      go_enter Tryd.func22, Tryd.ntmps22
      go_wp2_with (first | ((with_reducible apply wpM_box' M 32 (sqs (N : Int) t)); rfl; exact ⟨rfl, rfl⟩; clear M; (try clear C); intro bq w9 h_bq M; have C := M.ruleAll; simp only [Go.Proofs.YteonahoboligdaaDoor.ruleAll] at C) | ((with_reducible apply wpM_lda' M 0 32 0 (sqs (N : Int) t)); rfl; rfl; rfl; exact ⟨rfl, inf_sqs.trans (congrArg some (sqs_size ..).symm), _, und_sqs, rfl⟩; exact whole_of rfl) | (go_at_call 40; ((with_reducible refine (H1.out _).mono ?_); rintro e w1 ⟨rfl, hb⟩; have hsz := M.size; (try (have G9 := G.later hb; clear G; have G := G9; clear G9)); have M9 := M.later hb; clear M; (try clear C); have M := M9; clear M9; have C := M.ruleAll; simp only [Go.Proofs.YteonahoboligdaaDoor.ruleAll] at C)) | (go_at_call 41; ((with_reducible refine (H2.out _ M.below).mono ?_); rintro e w1 ⟨rfl, hb⟩; have hsz := M.size; (try (have G9 := G.later hb; clear G; have G := G9; clear G9)); have M9 := M.later hb; clear M; (try clear C); have M := M9; clear M9; have C := M.ruleAll; simp only [Go.Proofs.YteonahoboligdaaDoor.ruleAll] at C)))
      go_ret
      exact ⟨rfl, M.below⟩
    | true =>
      rw [hb] at H2
      rw [if_pos rfl]
      clear hby hl hs hb hr
      go_enter Tryd.func22, Tryd.ntmps22
      go_wp2_with (first | ((with_reducible apply wpM_box' M 32 (sqs (N : Int) t)); rfl; exact ⟨rfl, rfl⟩; clear M; (try clear C); intro bq w9 h_bq M; have C := M.ruleAll; simp only [Go.Proofs.YteonahoboligdaaDoor.ruleAll] at C) | ((with_reducible apply wpM_lda' M 0 32 0 (sqs (N : Int) t)); rfl; rfl; rfl; exact ⟨rfl, inf_sqs.trans (congrArg some (sqs_size ..).symm), _, und_sqs, rfl⟩; exact whole_of rfl) | (go_at_call 40; ((with_reducible refine (H1.out _).mono ?_); rintro e w1 ⟨rfl, hb⟩; have hsz := M.size; (try (have G9 := G.later hb; clear G; have G := G9; clear G9)); have M9 := M.later hb; clear M; (try clear C); have M := M9; clear M9; have C := M.ruleAll; simp only [Go.Proofs.YteonahoboligdaaDoor.ruleAll] at C)) | (go_at_call 41; ((with_reducible refine (H2.out _ M.below).mono ?_); rintro e w1 ⟨rfl, hb⟩; have hsz := M.size; (try (have G9 := G.later hb; clear G; have G := G9; clear G9)); have M9 := M.later hb; clear M; (try clear C); have M := M9; clear M9; have C := M.ruleAll; simp only [Go.Proofs.YteonahoboligdaaDoor.ruleAll] at C)))
      go_ret
      exact ⟨rfl, M.below⟩

/-- A code 0 tells a loop and a set. -/
theorem ls_ok {n : Int} {t : Nat → Nat → Nat} {xs : List Int} (h : lsCode n t xs = 0) : ∃ (N m : Nat), n = N ∧ Loo N t ∧ m < 1024 ∧ (∀ i, m.testBit i = true → i < N) ∧ xs = toJ (mL m) := by
  unfold lsCode at h
  split at h
  · rename_i hl
    obtain ⟨N, rfl, hs⟩ := lp_natG hl
    split at h
    · rename_i hb
      obtain ⟨m, h1, h2, h3⟩ := setB_mask hs.hi hb
      exact ⟨N, m, rfl, Loo.of_lp (isLp_true.1 hl), h1, fun i hi => by have := h2 i hi; omega, h3⟩
    · cases h
  · cases h
theorem ls_cases (n : Int) (t : Nat → Nat → Nat) (xs : List Int) : lsCode n t xs = 0 ∨ lsCode n t xs = 1 ∨ lsCode n t xs = 2 := by
  unfold lsCode
  split
  · split
    · exact .inl rfl
    · exact .inr (.inr rfl)
  · exact .inr (.inl rfl)
/-- The set of a list. -/
def jM (xs : List Int) : Nat := lM (xs.map Int.toNat)
theorem jM_toJ {m : Nat} (hm : m < 1024) : jM (toJ (mL m)) = m := by
  unfold jM toJ
  rw [List.map_map]
  have : (Int.toNat ∘ fun (i : Nat) => (i : Int)) = id := by funext i; simp
  rw [this, List.map_id, lM_mL hm]
/-- What CosetsOf hands back. -/
noncomputable def coRes (n : Int) (t : Nat → Nat → Nat) (xs : List Int) : List (List Nat) × Int :=
  if lsCode n t xs = 0 then (if genM t (jM xs) == jM xs then (match cosTo (csM n.toNat t (jM xs)) n.toNat with | none => ([], 4) | some out => (out.map mL, 0)) else ([], 5)) else ([], lsCode n t xs)
def MsPost (cls : List (List Nat)) (code : Int) (w : World) (e : Ending) (w' : World) : Prop := ∃ v, e = .returned (.tuple #[v, .int .i64 code]) ∧ ClsRes w.heap.size w w' v cls 26 2
theorem MsPost.nil {w w' : World} (hb : Below w.heap.size w w') (c : Int) : MsPost [] c w (.returned (.tuple #[.slice none 0 0, .int .i64 c])) w' :=
  ⟨_, rfl, [], rfl, ((Mm.start no w).later hb).nilRow _ _ _⟩

theorem cosTo_mem {C : Nat → Nat} : ∀ {k : Nat} {out : List Nat}, cosTo C k = some out → out.length ≤ k ∧ ∀ o ∈ out, ∃ x, o = C x
  | 0, out, h => by cases h; exact ⟨Nat.le_refl _, fun _ h => by cases h⟩
  | k + 1, out, h => by
    rw [cosTo] at h
    split at h
    · cases h
    · rename_i out' h2
      obtain ⟨i1, i2⟩ := cosTo_mem h2
      split at h
      · cases h; exact ⟨by omega, i2⟩
      · split at h
        · cases h
        · cases h
          refine ⟨by rw [List.length_append, List.length_singleton]; omega, fun o ho => ?_⟩
          rcases List.mem_append.1 ho with h3 | h3
          · exact i2 o h3
          · exact ⟨k, List.mem_singleton.1 h3⟩
theorem Mm.weakRow {D : Nat → Prop} {w0 w : World} {L : List Ent} {B1 B : Nat} {v1 : Value} {n1 : Nat} {xs1 : List Value} {e1 s1 : Nat} (M : Mm D w0 w (.row B1 v1 n1 xs1 e1 s1 :: L)) (h1 : B ≤ B1) : Mm D w0 w (.row B v1 n1 xs1 e1 s1 :: L) :=
  M.set 0 rfl (y := .row B v1 n1 xs1 e1 s1) (.refl no w) (fun _ h => h.elim) (fun _ _ h => h.elim) (ownsRow_weak (M.row 0 rfl) h1) fun k h => .inl h
theorem new_row1 {w w' : World} {B : Nat} {v : Value} {n : Nat} {xs : List Value} {e size : Nat} (M : Mm no w w' [.row w.heap.size v n xs e size]) : ∀ x ∈ [Ent.row B v n xs e size], ∀ b, x.place b → w.heap.size ≤ b := fun x hx b hb => by
  simp only [List.mem_singleton] at hx; subst hx
  exact place_row (M.row 0 rfl) b hb
def co6R : Nat → List Nat
  | 0 => []
  | 1 => []
  | 2 => [1]
  | 3 => [0, 1, 2]
  | 4 => [0, 1, 2, 3]
  | 5 => [0, 1, 2, 3, 4]
  | 6 => [0, 1, 2, 3, 4]
  | 7 => [0, 1, 2, 3, 4, 5]
  | 8 => [0, 1, 2, 3, 4, 5, 6, 7]
  | _ => []
def co6P (N : Nat) (t : Nat → Nat → Nat) (m : Nat) (out : List Nat) (p : Option Addr) (len cap : Nat) (B0 : Nat) : Nat → (Nat → Bool) → (Nat → Value) → List Ent → Prop
  | 0, _, g, E => g 0 = .agg (sqs (N : Int) t) ∧ E = []
  | 1, _, g, E => g 1 = .slice p len cap ∧ E = []
  | 2, _, g, E => g 2 = .int .i64 (m : Int) ∧ E = []
  | 3, _, g, E => ∃ vr, g 3 = .tuple #[vr, .bool true] ∧ E = [.row B0 vr out.length (i64N out) 49 1]
  | 4, _, g, E => ∃ vr, g 3 = .tuple #[vr, .bool true] ∧ g 4 = .tuple #[vr, .bool true] ∧ E = []
  | 5, _, g, E => ∃ vr, g 3 = .tuple #[vr, .bool true] ∧ g 5 = vr ∧ E = []
  | 6, _, g, E => g 6 = .bool true ∧ E = []
  | 7, _, g, E => ∃ vr, g 3 = .tuple #[vr, .bool true] ∧ g 7 = vr ∧ E = []
  | 8, _, g, E => g 8 = .bool true ∧ E = []
  | _, _, _, _ => False
theorem co6S (N : Nat) (t : Nat → Nat → Nat) (m : Nat) (out : List Nat) (p : Option Addr) (len cap : Nat) (B0 : Nat) : Stable (co6P N t m out p len cap B0) co6R (fun _ => []) := fun i k D g u E hki hkR hkW h => by
  match i with
  | 0 =>
    have e0 : updG g k u 0 = g 0 := updG_ne (g := g) (u := u) (Ne.symm hki)
    simp only [co6P, e0]; exact h
  | 1 =>
    have e1 : updG g k u 1 = g 1 := updG_ne (g := g) (u := u) (Ne.symm hki)
    simp only [co6P, e1]; exact h
  | 2 =>
    have e2 : updG g k u 2 = g 2 := updG_ne (g := g) (u := u) (Ne.symm hki)
    simp only [co6P, e2]; exact h
  | 3 =>
    have e3 : updG g k u 3 = g 3 := updG_ne (g := g) (u := u) (Ne.symm hki)
    simp only [co6P, e3]; exact h
  | 4 =>
    have e3 : updG g k u 3 = g 3 := updG_ne (g := g) (u := u) (i := k) (j := 3) (fun e => hkR (by rw [← e]; decide))
    have e4 : updG g k u 4 = g 4 := updG_ne (g := g) (u := u) (Ne.symm hki)
    simp only [co6P, e3, e4]; exact h
  | 5 =>
    have e3 : updG g k u 3 = g 3 := updG_ne (g := g) (u := u) (i := k) (j := 3) (fun e => hkR (by rw [← e]; decide))
    have e5 : updG g k u 5 = g 5 := updG_ne (g := g) (u := u) (Ne.symm hki)
    simp only [co6P, e3, e5]; exact h
  | 6 =>
    have e6 : updG g k u 6 = g 6 := updG_ne (g := g) (u := u) (Ne.symm hki)
    simp only [co6P, e6]; exact h
  | 7 =>
    have e3 : updG g k u 3 = g 3 := updG_ne (g := g) (u := u) (i := k) (j := 3) (fun e => hkR (by rw [← e]; decide))
    have e7 : updG g k u 7 = g 7 := updG_ne (g := g) (u := u) (Ne.symm hki)
    simp only [co6P, e3, e7]; exact h
  | 8 =>
    have e8 : updG g k u 8 = g 8 := updG_ne (g := g) (u := u) (Ne.symm hki)
    simp only [co6P, e8]; exact h
  | n + 9 => exact h.elim

set_option maxRecDepth 100000 in
set_option maxHeartbeats 4000000 in
theorem implCosets_any (n : Int) (t : Nat → Nat → Nat) (hby : Byt2 t) (xs : List Int) (hlen : xs.length ≤ 10000000) (w : World) (hg : glbT w) (p : Option Addr) (cap : Nat) (hr : rdq w p xs.length (intF xs)) :
    Calls Tryd.prog 8 #[.agg (sqs n t), .slice p xs.length cap] w (MsPost (coRes n t xs).1 (coRes n t xs).2 w) := by
  have M := Mm.start no w
  have H1 := Hid2.mk (fun w1 (hb : Below w.heap.size w w1) => listCode_any n t hby xs hlen w1 p cap (hr.later hb))
  by_cases hc : lsCode n t xs = 0
  · obtain ⟨N, m, rfl, hl, hm, hmb, rfl⟩ := ls_ok hc
    rw [show coRes (N : Int) t (toJ (mL m)) = ((if genM t m == m then (match cosTo (csM N t m) N with | none => ([], 4) | some out => (out.map mL, 0)) else ([], 5)) : List (List Nat) × Int) by
      unfold coRes; rw [if_pos hc, jM_toJ hm, Int.toNat_natCast]]
    rw [hc] at H1
    have HS := Hid2.mk (fun w1 (hb : Below w.heap.size w w1) => setOf_any (mL m) (fun x hx => mL_lt hx) (by have := mL_le m; omega) w1 p cap ((rdq.congr (by rw [← toJ_len]; exact hr) fun j hj => toJ_at hj).later hb))
    rw [lM_mL hm] at HS
    have HG := Hid2.mk (fun w1 => isSubloop_any N t hl.sq m hm hmb w1)
    have hjl : ((toJ (mL m)).length) = (mL m).length := toJ_len _
    rw [hjl] at H1
    rw [hjl]
    have hlm := mL_le m
    have hm' : (m : Int) < 1024 := by omega
    cases hgm : genM t m == m with
    | false =>
      rw [hgm] at HG
      rw [if_neg (by decide)]
      generalize mL m = l at *
      clear hby hc hl hmb hr hg hgm
      go_enter Tryd.func8, Tryd.ntmps8
      go_wp2_with (first | ((with_reducible apply wpM_box' M 32 (sqs (N : Int) t)); rfl; exact ⟨rfl, rfl⟩; clear M; (try clear C); intro bq w9 h_bq M; have C := M.ruleAll; simp only [Go.Proofs.YteonahoboligdaaDoor.ruleAll] at C) | ((with_reducible apply wpM_lda' M 0 32 0 (sqs (N : Int) t)); rfl; rfl; rfl; exact ⟨rfl, inf_sqs.trans (congrArg some (sqs_size ..).symm), _, und_sqs, rfl⟩; exact whole_of rfl) | (go_at_call 22; ((with_reducible refine (H1.out _ M.below).mono ?_); rintro e w1 ⟨rfl, hb⟩; have hsz := M.size; (try (have G9 := G.later hb; clear G; have G := G9; clear G9)); have M9 := M.later hb; clear M; (try clear C); have M := M9; clear M9; have C := M.ruleAll; simp only [Go.Proofs.YteonahoboligdaaDoor.ruleAll] at C)))
      apply wp_region_mm M 3 (by kernel_rfl) (by kernel_rfl); (simp only [List.take_succ_cons, List.take_zero]; repeat (first | exact wpText_nil | (apply wpText_cons; (intro w2 M; have C := M.ruleAll; simp only [Go.Proofs.YteonahoboligdaaDoor.ruleAll] at C; go_wp2_with (first | ((with_reducible apply wpM_lda' M 0 32 0 (sqs (N : Int) t)); rfl; rfl; rfl; exact ⟨rfl, inf_sqs.trans (congrArg some (sqs_size ..).symm), _, und_sqs, rfl⟩; exact whole_of rfl) | (go_at_call 24; ((with_reducible refine (HS.out _ M.below).mono ?_); rintro e w1 ⟨rfl, rfl⟩))); exact ⟨rfl, rfl, M⟩); rfl))); (clear M; (try clear C); intro w2 M; simp only [List.drop_succ_cons, List.drop_zero]; have C := M.ruleAll; simp only [Go.Proofs.YteonahoboligdaaDoor.ruleAll] at C)
      go_wp2_with (first | (go_at_call 23; ((with_reducible refine (HG.out _).mono ?_); rintro e w1 ⟨rfl, hb⟩; have hsz := M.size; (try (have G9 := G.later hb; clear G; have G := G9; clear G9)); have M9 := M.later hb; clear M; (try clear C); have M := M9; clear M9; have C := M.ruleAll; simp only [Go.Proofs.YteonahoboligdaaDoor.ruleAll] at C)))
      go_ret2
      exact MsPost.nil M.below 5
    | true =>
      rw [hgm] at HG
      rw [if_pos rfl]
      have h0 : m.testBit 0 = true := ((genM_self hl.sq hmb).1 (beq_iff_eq.1 hgm)).zero
      have HCO := Hid2.mk (fun w1 (hb : Below w.heap.size w w1) => cosets_any N t hl m hm h0 w1 (hg.later hb))
      have HMS : Hid2 (∀ out, cosTo (csM N t m) N = some out → out.length ≤ 2000 ∧ ∀ m ∈ out, m < 1024) := ⟨fun out h => by
        obtain ⟨h1, h2⟩ := cosTo_mem h
        have := hl.sq.hi
        exact ⟨by omega, fun o ho => by obtain ⟨x, rfl⟩ := h2 o ho; exact csM_lt N t m x⟩⟩
      generalize cosTo (csM N t m) N = r at *
      generalize mL m = l at *
      clear hby hc hl hmb hr hg hgm h0
      go_enter Tryd.func8, Tryd.ntmps8
      go_wp2_with (first | ((with_reducible apply wpM_box' M 32 (sqs (N : Int) t)); rfl; exact ⟨rfl, rfl⟩; clear M; (try clear C); intro bq w9 h_bq M; have C := M.ruleAll; simp only [Go.Proofs.YteonahoboligdaaDoor.ruleAll] at C) | ((with_reducible apply wpM_lda' M 0 32 0 (sqs (N : Int) t)); rfl; rfl; rfl; exact ⟨rfl, inf_sqs.trans (congrArg some (sqs_size ..).symm), _, und_sqs, rfl⟩; exact whole_of rfl) | (go_at_call 22; ((with_reducible refine (H1.out _ M.below).mono ?_); rintro e w1 ⟨rfl, hb⟩; have hsz := M.size; (try (have G9 := G.later hb; clear G; have G := G9; clear G9)); have M9 := M.later hb; clear M; (try clear C); have M := M9; clear M9; have C := M.ruleAll; simp only [Go.Proofs.YteonahoboligdaaDoor.ruleAll] at C)))
      apply wp_region_mm M 3 (by kernel_rfl) (by kernel_rfl); (simp only [List.take_succ_cons, List.take_zero]; repeat (first | exact wpText_nil | (apply wpText_cons; (intro w2 M; have C := M.ruleAll; simp only [Go.Proofs.YteonahoboligdaaDoor.ruleAll] at C; go_wp2_with (first | ((with_reducible apply wpM_lda' M 0 32 0 (sqs (N : Int) t)); rfl; rfl; rfl; exact ⟨rfl, inf_sqs.trans (congrArg some (sqs_size ..).symm), _, und_sqs, rfl⟩; exact whole_of rfl) | (go_at_call 24; ((with_reducible refine (HS.out _ M.below).mono ?_); rintro e w1 ⟨rfl, rfl⟩))); exact ⟨rfl, rfl, M⟩); rfl))); (clear M; (try clear C); intro w2 M; simp only [List.drop_succ_cons, List.drop_zero]; have C := M.ruleAll; simp only [Go.Proofs.YteonahoboligdaaDoor.ruleAll] at C)
      go_wp2_with (first | (go_at_call 23; ((with_reducible refine (HG.out _).mono ?_); rintro e w1 ⟨rfl, hb⟩; have hsz := M.size; (try (have G9 := G.later hb; clear G; have G := G9; clear G9)); have M9 := M.later hb; clear M; (try clear C); have M := M9; clear M9; have C := M.ruleAll; simp only [Go.Proofs.YteonahoboligdaaDoor.ruleAll] at C)))
      cases r with
      | none =>
        have HCO2 := Hid2.mk (fun w1 (hb : Below w.heap.size w w1) => show Calls Tryd.prog 25 #[.agg (sqs (N : Int) t), .int .i64 (m : Int)] w1 fun e w' => e = .returned (.tuple #[.slice none 0 0, .bool false]) ∧ Below w1.heap.size w1 w' from (HCO.out w1 hb).mono fun e w' h => by
          rcases h with ⟨_, h1, h2⟩ | ⟨out, v, h, _⟩
          · exact ⟨h1, h2⟩
          · cases h)
        clear HCO
        apply wp_region_mm M 8 (by kernel_rfl) (by kernel_rfl); (simp only [List.take_succ_cons, List.take_zero]; repeat (first | exact wpText_nil | (apply wpText_cons; (intro w2 M; have C := M.ruleAll; simp only [Go.Proofs.YteonahoboligdaaDoor.ruleAll] at C; go_wp2_with (first | ((with_reducible apply wpM_lda' M 0 32 0 (sqs (N : Int) t)); rfl; rfl; rfl; exact ⟨rfl, inf_sqs.trans (congrArg some (sqs_size ..).symm), _, und_sqs, rfl⟩; exact whole_of rfl) | (go_at_call 24; ((with_reducible refine (HS.out _ M.below).mono ?_); rintro e w1 ⟨rfl, rfl⟩)) | (go_at_call 25; ((with_reducible refine (HCO2.out _ M.below).mono ?_); rintro e w1 ⟨rfl, hb⟩; have hsz := M.size; (try (have G9 := G.later hb; clear G; have G := G9; clear G9)); have M9 := M.later hb; clear M; (try clear C); have M := M9; clear M9; have C := M.ruleAll; simp only [Go.Proofs.YteonahoboligdaaDoor.ruleAll] at C))); exact ⟨rfl, rfl, M⟩); rfl))); (clear M; (try clear C); intro w2 M; simp only [List.drop_succ_cons, List.drop_zero]; have C := M.ruleAll; simp only [Go.Proofs.YteonahoboligdaaDoor.ruleAll] at C)
        go_wp2
        go_ret2
        exact MsPost.nil M.below 4
      | some out =>
        have HCO2 := Hid2.mk (fun w1 (hb : Below w.heap.size w w1) => show Calls Tryd.prog 25 #[.agg (sqs (N : Int) t), .int .i64 (m : Int)] w1 fun e w' => ∃ v, e = .returned (.tuple #[v, .bool true]) ∧ Mm no w1 w' [.row w1.heap.size v out.length (i64N out) 49 1] from (HCO.out w1 hb).mono fun e w' h => by
          rcases h with ⟨h, _⟩ | ⟨out, v, h, h1, h2⟩
          · cases h
          · cases h; exact ⟨v, h1, h2⟩)
        clear HCO
        have hol := (HMS.out out rfl).1
        have HLS := Hid2.mk (fun w1 p cap h => listsOf_any out hol (HMS.out out rfl).2 w1 p cap h)
        refine wp_region_own (GrS 9 (co6P N t m out p l.length cap w.heap.size) co6R w [.box bq (sqs (N : Int) t) 32]) (by kernel_rfl) (by kernel_rfl) (fun _ => undef) (GrS.start (M.sub [0] (by decide)) _) ?hs_co6 ?hQ_co6
        case hs_co6 =>
          clear M
          try clear C
          intro i o hi D g w2 hi0 hpre S
          have hlt : i < 9 := by have := (List.getElem?_eq_some_iff.1 hi).1; simpa using this
          obtain rfl | rfl | rfl | rfl | rfl | rfl | rfl | rfl | rfl : i = 0 ∨ i = 1 ∨ i = 2 ∨ i = 3 ∨ i = 4 ∨ i = 5 ∨ i = 6 ∨ i = 7 ∨ i = 8 := by omega
          · simp only [List.getElem?_cons_succ, List.getElem?_cons_zero, Option.some.injEq] at hi
            subst hi
            have M := S.base
            have HR : ∀ j ∈ co6R 0, D j = true := (fun _ h => by cases h)
            have HW : ∀ j, D j = true → 0 ∉ (fun _ => [] : Nat → List Nat) j := fun _ _ h => by cases h
            have hst := co6S N t m out p l.length cap w.heap.size
            refine ⟨⟨#[undef, undef, .pointer (some ⟨bq, 0, none⟩), undef, undef, undef, undef, undef, undef, undef, undef, undef, undef, undef, undef, undef, undef, undef, undef, undef, undef, undef, undef, undef, undef, undef, undef, undef, undef, undef, undef], []⟩, ?_, ?_⟩
            · intro t ht
              have ht' : t ∈ ([2] : List Nat) := ht
              simp only [List.mem_cons, List.not_mem_nil, or_false] at ht'
              subst ht'
              exact rfl
            · skip
              have C := M.ruleAll; simp only [Go.Proofs.YteonahoboligdaaDoor.ruleAll] at C
              refine yield_walk (ops := #[]) rfl rfl (show 21 < 31 by decide) ?_
              go_wp2_with (first | ((with_reducible apply wpM_lda' M 0 32 0 (sqs (N : Int) t)); rfl; rfl; rfl; exact ⟨rfl, inf_sqs.trans (congrArg some (sqs_size ..).symm), _, und_sqs, rfl⟩; exact whole_of rfl))
              exact S.val (i := 0) hst (by decide) hi0 HR HW (Below.refl _ _) ⟨updG_at .., rfl⟩
          · simp only [List.getElem?_cons_succ, List.getElem?_cons_zero, Option.some.injEq] at hi
            subst hi
            have M := S.base
            have HR : ∀ j ∈ co6R 1, D j = true := (fun _ h => by cases h)
            have HW : ∀ j, D j = true → 1 ∉ (fun _ => [] : Nat → List Nat) j := fun _ _ h => by cases h
            have hst := co6S N t m out p l.length cap w.heap.size
            refine ⟨⟨#[undef, .slice p l.length cap, undef, undef, undef, undef, undef, undef, undef, undef, undef, undef, undef, undef, undef, undef, undef, undef, undef, undef, undef, undef, undef, undef, undef, undef, undef, undef, undef, undef, undef], []⟩, ?_, ?_⟩
            · intro t ht
              have ht' : t ∈ ([1] : List Nat) := ht
              simp only [List.mem_cons, List.not_mem_nil, or_false] at ht'
              subst ht'
              exact rfl
            · skip
              have C := M.ruleAll; simp only [Go.Proofs.YteonahoboligdaaDoor.ruleAll] at C
              refine yield_walk (ops := #[]) rfl rfl (show 22 < 31 by decide) ?_
              go_wp2
              exact S.val (i := 1) hst (by decide) hi0 HR HW (Below.refl _ _) ⟨updG_at .., rfl⟩
          · simp only [List.getElem?_cons_succ, List.getElem?_cons_zero, Option.some.injEq] at hi
            subst hi
            have d1 : D 1 = true := hpre _ (Array.mem_of_getElem? (i := 0) rfl) rfl
            obtain ⟨E, P, M⟩ := S.get [1] (by decide) (by intro j hj; simp only [List.mem_cons, List.not_mem_nil, or_false] at hj; subst hj <;> assumption)
            obtain ⟨e1, E1⟩ : g 1 = .slice p l.length cap ∧ E 1 = [] := P 1 (by decide)
            simp only [List.flatMap_cons, List.flatMap_nil, List.append_nil, E1, List.cons_append, List.nil_append] at M
            clear P
            have HR : ∀ j ∈ co6R 2, D j = true := (by intro j hj; have hj' : j ∈ ([1] : List Nat) := hj; simp only [List.mem_cons, List.not_mem_nil, or_false] at hj'; subst hj' <;> assumption)
            have HW : ∀ j, D j = true → 2 ∉ (fun _ => [] : Nat → List Nat) j := fun _ _ h => by cases h
            have hst := co6S N t m out p l.length cap w.heap.size
            refine ⟨⟨#[undef, undef, undef, undef, undef, undef, undef, undef, undef, undef, undef, undef, undef, undef, undef, undef, undef, undef, undef, undef, undef, undef, .slice p l.length cap, undef, undef, undef, undef, undef, undef, undef, undef], []⟩, ?_, ?_⟩
            · intro t ht
              have ht' : t ∈ ([22] : List Nat) := ht
              simp only [List.mem_cons, List.not_mem_nil, or_false] at ht'
              subst ht'
              exact e1.symm
            · skip
              have C := M.ruleAll; simp only [Go.Proofs.YteonahoboligdaaDoor.ruleAll] at C
              refine yield_walk (ops := #[]) rfl rfl (show 23 < 31 by decide) ?_
              go_wp2_with (first | (go_at_call 24; fail))
              refine (HS.out _ M.below).mono ?_
              rintro e w1 ⟨rfl, rfl⟩
              go_wp2
              exact S.val (i := 2) hst (by decide) hi0 HR HW (Below.refl _ _) ⟨updG_at .., rfl⟩
          · simp only [List.getElem?_cons_succ, List.getElem?_cons_zero, Option.some.injEq] at hi
            subst hi
            have d0 : D 0 = true := hpre _ (Array.mem_of_getElem? (i := 0) rfl) rfl
            have d2 : D 2 = true := hpre _ (Array.mem_of_getElem? (i := 1) rfl) rfl
            have d1 : D 1 = true := S.anc 2 d2 1 (show 1 ∈ co6R 2 by decide)
            obtain ⟨E, P, M⟩ := S.get [0, 2] (by decide) (by intro j hj; simp only [List.mem_cons, List.not_mem_nil, or_false] at hj; rcases hj with rfl | rfl <;> assumption)
            obtain ⟨e0, E0⟩ : g 0 = .agg (sqs (N : Int) t) ∧ E 0 = [] := P 0 (by decide)
            obtain ⟨e2, E2⟩ : g 2 = .int .i64 (m : Int) ∧ E 2 = [] := P 2 (by decide)
            simp only [List.flatMap_cons, List.flatMap_nil, List.append_nil, E0, E2, List.cons_append, List.nil_append] at M
            clear P
            have HR : ∀ j ∈ co6R 3, D j = true := (by intro j hj; have hj' : j ∈ ([0, 1, 2] : List Nat) := hj; simp only [List.mem_cons, List.not_mem_nil, or_false] at hj'; rcases hj' with rfl | rfl | rfl <;> assumption)
            have HW : ∀ j, D j = true → 3 ∉ (fun _ => [] : Nat → List Nat) j := fun _ _ h => by cases h
            have hst := co6S N t m out p l.length cap w.heap.size
            refine ⟨⟨#[undef, undef, undef, undef, undef, undef, undef, undef, undef, undef, undef, undef, undef, undef, undef, undef, undef, undef, undef, undef, undef, .agg (sqs (N : Int) t), undef, .int .i64 (m : Int), undef, undef, undef, undef, undef, undef, undef], []⟩, ?_, ?_⟩
            · intro t ht
              have ht' : t ∈ ([21, 23] : List Nat) := ht
              simp only [List.mem_cons, List.not_mem_nil, or_false] at ht'
              rcases ht' with rfl | rfl
              · exact e0.symm
              · exact e2.symm
            · skip
              have C := M.ruleAll; simp only [Go.Proofs.YteonahoboligdaaDoor.ruleAll] at C
              refine yield_walk (ops := #[]) rfl rfl (show 24 < 31 by decide) ?_
              go_wp2_with (first | (go_at_call 25; fail))
              refine (HCO2.out _ M.below).mono ?_
              rintro e w1 ⟨vr, rfl, M'⟩
              go_wp2
              exact S.add (i := 3) hst (by decide) hi0 HR HW (M'.weakRow S.base.size) (new_row1 M') ⟨vr, updG_at .., rfl⟩
          · simp only [List.getElem?_cons_succ, List.getElem?_cons_zero, Option.some.injEq] at hi
            subst hi
            have d3 : D 3 = true := hpre _ (Array.mem_of_getElem? (i := 0) rfl) rfl
            have d0 : D 0 = true := S.anc 3 d3 0 (show 0 ∈ co6R 3 by decide)
            have d1 : D 1 = true := S.anc 3 d3 1 (show 1 ∈ co6R 3 by decide)
            have d2 : D 2 = true := S.anc 3 d3 2 (show 2 ∈ co6R 3 by decide)
            obtain ⟨E, P, M⟩ := S.get [3] (by decide) (by intro j hj; simp only [List.mem_cons, List.not_mem_nil, or_false] at hj; subst hj <;> assumption)
            obtain ⟨vr, e3, E3⟩ : ∃ vr, g 3 = .tuple #[vr, .bool true] ∧ E 3 = [.row w.heap.size vr out.length (i64N out) 49 1] := P 3 (by decide)
            simp only [List.flatMap_cons, List.flatMap_nil, List.append_nil, E3, List.cons_append, List.nil_append] at M
            clear P
            have HR : ∀ j ∈ co6R 4, D j = true := (by intro j hj; have hj' : j ∈ ([0, 1, 2, 3] : List Nat) := hj; simp only [List.mem_cons, List.not_mem_nil, or_false] at hj'; rcases hj' with rfl | rfl | rfl | rfl <;> assumption)
            have HW : ∀ j, D j = true → 4 ∉ (fun _ => [] : Nat → List Nat) j := fun _ _ h => by cases h
            have hst := co6S N t m out p l.length cap w.heap.size
            refine ⟨⟨#[undef, undef, undef, undef, undef, undef, undef, undef, undef, undef, undef, undef, undef, undef, undef, undef, undef, undef, undef, undef, undef, undef, undef, undef, .tuple #[vr, .bool true], undef, undef, undef, undef, undef, undef], []⟩, ?_, ?_⟩
            · intro t ht
              have ht' : t ∈ ([24] : List Nat) := ht
              simp only [List.mem_cons, List.not_mem_nil, or_false] at ht'
              subst ht'
              exact e3.symm
            · skip
              have C := M.ruleAll; simp only [Go.Proofs.YteonahoboligdaaDoor.ruleAll] at C
              refine yield_walk (ops := #[]) rfl rfl (show 20 < 31 by decide) ?_
              go_wp2
              exact S.val (i := 4) hst (by decide) hi0 HR HW (Below.refl _ _) ⟨vr, (updG_ne (by decide)).trans e3, updG_at .., rfl⟩
          · simp only [List.getElem?_cons_succ, List.getElem?_cons_zero, Option.some.injEq] at hi
            subst hi
            have d4 : D 4 = true := hpre _ (Array.mem_of_getElem? (i := 0) rfl) rfl
            have d0 : D 0 = true := S.anc 4 d4 0 (show 0 ∈ co6R 4 by decide)
            have d1 : D 1 = true := S.anc 4 d4 1 (show 1 ∈ co6R 4 by decide)
            have d2 : D 2 = true := S.anc 4 d4 2 (show 2 ∈ co6R 4 by decide)
            have d3 : D 3 = true := S.anc 4 d4 3 (show 3 ∈ co6R 4 by decide)
            obtain ⟨E, P, M⟩ := S.get [4] (by decide) (by intro j hj; simp only [List.mem_cons, List.not_mem_nil, or_false] at hj; subst hj <;> assumption)
            obtain ⟨vr, er4, e4, E4⟩ : ∃ vr, g 3 = .tuple #[vr, .bool true] ∧ g 4 = .tuple #[vr, .bool true] ∧ E 4 = [] := P 4 (by decide)
            simp only [List.flatMap_cons, List.flatMap_nil, List.append_nil, E4, List.cons_append, List.nil_append] at M
            clear P
            have HR : ∀ j ∈ co6R 5, D j = true := (by intro j hj; have hj' : j ∈ ([0, 1, 2, 3, 4] : List Nat) := hj; simp only [List.mem_cons, List.not_mem_nil, or_false] at hj'; rcases hj' with rfl | rfl | rfl | rfl | rfl <;> assumption)
            have HW : ∀ j, D j = true → 5 ∉ (fun _ => [] : Nat → List Nat) j := fun _ _ h => by cases h
            have hst := co6S N t m out p l.length cap w.heap.size
            refine ⟨⟨#[undef, undef, undef, undef, undef, undef, undef, undef, undef, undef, undef, undef, undef, undef, undef, undef, undef, undef, undef, undef, .tuple #[vr, .bool true], undef, undef, undef, undef, undef, undef, undef, undef, undef, undef], []⟩, ?_, ?_⟩
            · intro t ht
              have ht' : t ∈ ([20] : List Nat) := ht
              simp only [List.mem_cons, List.not_mem_nil, or_false] at ht'
              subst ht'
              exact e4.symm
            · skip
              have C := M.ruleAll; simp only [Go.Proofs.YteonahoboligdaaDoor.ruleAll] at C
              refine yield_walk (ops := #[]) rfl rfl (show 25 < 31 by decide) ?_
              go_wp2
              exact S.val (i := 5) hst (by decide) hi0 HR HW (Below.refl _ _) ⟨vr, (updG_ne (by decide)).trans er4, updG_at .., rfl⟩
          · simp only [List.getElem?_cons_succ, List.getElem?_cons_zero, Option.some.injEq] at hi
            subst hi
            have d4 : D 4 = true := hpre _ (Array.mem_of_getElem? (i := 0) rfl) rfl
            have d0 : D 0 = true := S.anc 4 d4 0 (show 0 ∈ co6R 4 by decide)
            have d1 : D 1 = true := S.anc 4 d4 1 (show 1 ∈ co6R 4 by decide)
            have d2 : D 2 = true := S.anc 4 d4 2 (show 2 ∈ co6R 4 by decide)
            have d3 : D 3 = true := S.anc 4 d4 3 (show 3 ∈ co6R 4 by decide)
            obtain ⟨E, P, M⟩ := S.get [4] (by decide) (by intro j hj; simp only [List.mem_cons, List.not_mem_nil, or_false] at hj; subst hj <;> assumption)
            obtain ⟨vr, er4, e4, E4⟩ : ∃ vr, g 3 = .tuple #[vr, .bool true] ∧ g 4 = .tuple #[vr, .bool true] ∧ E 4 = [] := P 4 (by decide)
            simp only [List.flatMap_cons, List.flatMap_nil, List.append_nil, E4, List.cons_append, List.nil_append] at M
            clear P
            have HR : ∀ j ∈ co6R 6, D j = true := (by intro j hj; have hj' : j ∈ ([0, 1, 2, 3, 4] : List Nat) := hj; simp only [List.mem_cons, List.not_mem_nil, or_false] at hj'; rcases hj' with rfl | rfl | rfl | rfl | rfl <;> assumption)
            have HW : ∀ j, D j = true → 6 ∉ (fun _ => [] : Nat → List Nat) j := fun _ _ h => by cases h
            have hst := co6S N t m out p l.length cap w.heap.size
            refine ⟨⟨#[undef, undef, undef, undef, undef, undef, undef, undef, undef, undef, undef, undef, undef, undef, undef, undef, undef, undef, undef, undef, .tuple #[vr, .bool true], undef, undef, undef, undef, undef, undef, undef, undef, undef, undef], []⟩, ?_, ?_⟩
            · intro t ht
              have ht' : t ∈ ([20] : List Nat) := ht
              simp only [List.mem_cons, List.not_mem_nil, or_false] at ht'
              subst ht'
              exact e4.symm
            · skip
              have C := M.ruleAll; simp only [Go.Proofs.YteonahoboligdaaDoor.ruleAll] at C
              refine yield_walk (ops := #[]) rfl rfl (show 26 < 31 by decide) ?_
              go_wp2
              exact S.val (i := 6) hst (by decide) hi0 HR HW (Below.refl _ _) ⟨updG_at .., rfl⟩
          · simp only [List.getElem?_cons_succ, List.getElem?_cons_zero, Option.some.injEq] at hi
            subst hi
            have d5 : D 5 = true := hpre _ (Array.mem_of_getElem? (i := 0) rfl) rfl
            have d3 : D 3 = true := hpre _ (Array.mem_of_getElem? (i := 1) rfl) rfl
            have d0 : D 0 = true := hpre _ (Array.mem_of_getElem? (i := 2) rfl) rfl
            have d1 : D 1 = true := hpre _ (Array.mem_of_getElem? (i := 3) rfl) rfl
            have d2 : D 2 = true := hpre _ (Array.mem_of_getElem? (i := 4) rfl) rfl
            have d4 : D 4 = true := hpre _ (Array.mem_of_getElem? (i := 6) rfl) rfl
            obtain ⟨E, P, M⟩ := S.get [5] (by decide) (by intro j hj; simp only [List.mem_cons, List.not_mem_nil, or_false] at hj; subst hj <;> assumption)
            obtain ⟨vr, er5, e5, E5⟩ : ∃ vr, g 3 = .tuple #[vr, .bool true] ∧ g 5 = vr ∧ E 5 = [] := P 5 (by decide)
            simp only [List.flatMap_cons, List.flatMap_nil, List.append_nil, E5, List.cons_append, List.nil_append] at M
            clear P
            have HR : ∀ j ∈ co6R 7, D j = true := (by intro j hj; have hj' : j ∈ ([0, 1, 2, 3, 4, 5] : List Nat) := hj; simp only [List.mem_cons, List.not_mem_nil, or_false] at hj'; rcases hj' with rfl | rfl | rfl | rfl | rfl | rfl <;> assumption)
            have HW : ∀ j, D j = true → 7 ∉ (fun _ => [] : Nat → List Nat) j := fun _ _ h => by cases h
            have hst := co6S N t m out p l.length cap w.heap.size
            refine ⟨⟨#[undef, undef, undef, undef, undef, undef, undef, undef, undef, undef, undef, undef, undef, undef, undef, undef, undef, undef, undef, undef, undef, undef, undef, undef, undef, vr, undef, undef, undef, undef, undef], []⟩, ?_, ?_⟩
            · intro t ht
              have ht' : t ∈ ([25] : List Nat) := ht
              simp only [List.mem_cons, List.not_mem_nil, or_false] at ht'
              subst ht'
              exact e5.symm
            · skip
              have C := M.ruleAll; simp only [Go.Proofs.YteonahoboligdaaDoor.ruleAll] at C
              refine yield_walk (ops := #[]) rfl rfl (show 7 < 31 by decide) ?_
              go_wp2
              exact S.val (i := 7) hst (by decide) hi0 HR HW (Below.refl _ _) ⟨vr, (updG_ne (by decide)).trans er5, updG_at .., rfl⟩
          · simp only [List.getElem?_cons_succ, List.getElem?_cons_zero, Option.some.injEq] at hi
            subst hi
            have d6 : D 6 = true := hpre _ (Array.mem_of_getElem? (i := 0) rfl) rfl
            have d7 : D 7 = true := hpre _ (Array.mem_of_getElem? (i := 1) rfl) rfl
            have d0 : D 0 = true := hpre _ (Array.mem_of_getElem? (i := 2) rfl) rfl
            have d1 : D 1 = true := hpre _ (Array.mem_of_getElem? (i := 3) rfl) rfl
            have d2 : D 2 = true := hpre _ (Array.mem_of_getElem? (i := 4) rfl) rfl
            have d3 : D 3 = true := hpre _ (Array.mem_of_getElem? (i := 5) rfl) rfl
            have d4 : D 4 = true := hpre _ (Array.mem_of_getElem? (i := 6) rfl) rfl
            have d5 : D 5 = true := hpre _ (Array.mem_of_getElem? (i := 7) rfl) rfl
            obtain ⟨E, P, M⟩ := S.get [6] (by decide) (by intro j hj; simp only [List.mem_cons, List.not_mem_nil, or_false] at hj; subst hj <;> assumption)
            obtain ⟨e6, E6⟩ : g 6 = .bool true ∧ E 6 = [] := P 6 (by decide)
            simp only [List.flatMap_cons, List.flatMap_nil, List.append_nil, E6, List.cons_append, List.nil_append] at M
            clear P
            have HR : ∀ j ∈ co6R 8, D j = true := (by intro j hj; have hj' : j ∈ ([0, 1, 2, 3, 4, 5, 6, 7] : List Nat) := hj; simp only [List.mem_cons, List.not_mem_nil, or_false] at hj'; rcases hj' with rfl | rfl | rfl | rfl | rfl | rfl | rfl | rfl <;> assumption)
            have HW : ∀ j, D j = true → 8 ∉ (fun _ => [] : Nat → List Nat) j := fun _ _ h => by cases h
            have hst := co6S N t m out p l.length cap w.heap.size
            refine ⟨⟨#[undef, undef, undef, undef, undef, undef, undef, undef, undef, undef, undef, undef, undef, undef, undef, undef, undef, undef, undef, undef, undef, undef, undef, undef, undef, undef, .bool true, undef, undef, undef, undef], []⟩, ?_, ?_⟩
            · intro t ht
              have ht' : t ∈ ([26] : List Nat) := ht
              simp only [List.mem_cons, List.not_mem_nil, or_false] at ht'
              subst ht'
              exact e6.symm
            · skip
              have C := M.ruleAll; simp only [Go.Proofs.YteonahoboligdaaDoor.ruleAll] at C
              refine yield_walk (ops := #[]) rfl rfl (show 8 < 31 by decide) ?_
              go_wp2
              exact S.val (i := 8) hst (by decide) hi0 HR HW (Below.refl _ _) ⟨updG_at .., rfl⟩
        case hQ_co6 =>
          clear M
          try clear C
          intro D g w2 hall S
          obtain ⟨E, P, M⟩ := S.get [3] (by decide) (fun k hk => hall k (by simp only [List.mem_cons, List.not_mem_nil, or_false] at hk; show k < 9; omega))
          obtain ⟨vr, e3, E3⟩ : ∃ vr, g 3 = .tuple #[vr, .bool true] ∧ E 3 = [.row w.heap.size vr out.length (i64N out) 49 1] := P 3 (by decide)
          simp only [List.flatMap_cons, List.flatMap_nil, List.append_nil, E3, List.cons_append, List.nil_append] at M
          clear P
          obtain ⟨E', P, _⟩ := S.get [0, 1, 2, 3, 4, 5, 6, 7, 8] (by decide) (fun k hk => hall k (by simp only [List.mem_cons, List.not_mem_nil, or_false] at hk; show k < 9; omega))
          have e0 : g 0 = .agg (sqs (N : Int) t) := (P 0 (by decide)).1
          have e1 : g 1 = .slice p l.length cap := (P 1 (by decide)).1
          have e2 : g 2 = .int .i64 (m : Int) := (P 2 (by decide)).1
          obtain ⟨z4_vr, er4, e4, -⟩ : ∃ vr, g 3 = .tuple #[vr, .bool true] ∧ g 4 = .tuple #[vr, .bool true] ∧ E' 4 = [] := P 4 (by decide)
          have hq4 := e3.symm.trans er4
          simp only [Value.tuple.injEq, Array.mk.injEq, List.cons.injEq, and_true, Value.agg.injEq] at hq4
          obtain rfl := hq4
          obtain ⟨z5_vr, er5, e5, -⟩ : ∃ vr, g 3 = .tuple #[vr, .bool true] ∧ g 5 = vr ∧ E' 5 = [] := P 5 (by decide)
          have hq5 := e3.symm.trans er5
          simp only [Value.tuple.injEq, Array.mk.injEq, List.cons.injEq, and_true, Value.agg.injEq] at hq5
          obtain rfl := hq5
          have e6 : g 6 = .bool true := (P 6 (by decide)).1
          obtain ⟨z7_vr, er7, e7, -⟩ : ∃ vr, g 3 = .tuple #[vr, .bool true] ∧ g 7 = vr ∧ E' 7 = [] := P 7 (by decide)
          have hq7 := e3.symm.trans er7
          simp only [Value.tuple.injEq, Array.mk.injEq, List.cons.injEq, and_true, Value.agg.injEq] at hq7
          obtain rfl := hq7
          have e8 : g 8 = .bool true := (P 8 (by decide)).1
          simp only [fullAct, e0, e1, e2, e3, e4, e5, e6, e7, e8, Act.put, List.setIfInBounds_toArray, List.set_cons_succ, List.set_cons_zero]
          clear P S hall e0 e1 e2 e3 e4 e5 e6 e7 e8
          try clear E'
          try clear E
          obtain ⟨pp, cc, rfl⟩ := own_form (M.row 0 rfl)
          have hr := rdq_of_own (M.row 0 rfl)
          rw [Nat.mul_one] at hr
          have H4 := Hid2.mk (HLS.out _ pp cc (rdq.congr hr fun j hj => i64N_at hj))
          clear hr
          have C := M.ruleAll; simp only [Go.Proofs.YteonahoboligdaaDoor.ruleAll] at C
          go_wp2_with (first | (go_at_call 26; fail))
          refine H4.out.mono ?_
          rintro e w3 ⟨v3, rfl, vs, hvs, M'⟩
          have M9 := clsRes_lower M.size M.below M'
          simp only [List.length_map] at M9
          obtain ⟨p3, c3, rfl⟩ := own_form (M9.row 0 rfl)
          have HM := Hid2.mk M9
          clear M M' M9
          go_wp2
          go_ret2
          exact ⟨_, rfl, vs, hvs, by simp only [List.length_map]; exact HM.out⟩
  · have hcc := ls_cases n t xs
    rw [show coRes n t xs = ([], lsCode n t xs) from if_neg hc]
    generalize lsCode n t xs = c at *
    have hn0 : (c == 0) = false := beq_eq_false_iff_ne.2 hc
    have hn1 : (c != 0) = true := by rw [bne, hn0]; rfl
    clear hby hr hg
    go_enter Tryd.func8, Tryd.ntmps8
    go_wp2_with (first | ((with_reducible apply wpM_box' M 32 (sqs n t)); rfl; exact ⟨rfl, rfl⟩; clear M; (try clear C); intro bq w9 h_bq M; have C := M.ruleAll; simp only [Go.Proofs.YteonahoboligdaaDoor.ruleAll] at C) | ((with_reducible apply wpM_lda' M 0 32 0 (sqs n t)); rfl; rfl; rfl; exact ⟨rfl, inf_sqs.trans (congrArg some (sqs_size ..).symm), _, und_sqs, rfl⟩; exact whole_of rfl) | (go_at_call 22; ((with_reducible refine (H1.out _ M.below).mono ?_); rintro e w1 ⟨rfl, hb⟩; have hsz := M.size; (try (have G9 := G.later hb; clear G; have G := G9; clear G9)); have M9 := M.later hb; clear M; (try clear C); have M := M9; clear M9; have C := M.ruleAll; simp only [Go.Proofs.YteonahoboligdaaDoor.ruleAll] at C)))
    go_ret2
    exact MsPost.nil M.below c
end Go.Proofs.YteonahoboligdaaDoor

/- Left cosets and CosetsOf of the reference: contracts. -/
namespace Go.Proofs.YteonahoboligdaaDoor
set_option linter.unusedSimpArgs false
set_option linter.unusedVariables false
open Go Go.RowKit

/-! ### '==' on ten marks -/
theorem und_bool : Tryd.prog.underlying 4 = some .bool := by kernel_rfl
theorem part_bool (f : Nat → Bool) (i : Nat) (hi : i < 10) (w : World) : (part 4 (bls f) (i * Tryd.prog.cellsOf 4)).run Tryd.prog w = .ok (.bool (f i)) w := by
  have hc : Tryd.prog.cellsOf 4 = 1 := by kernel_rfl
  have ha : (isAgg 4).run Tryd.prog w = .ok false w := by
    unfold isAgg
    rw [Sem.run_bind, run_underlying und_bool w]
    rfl
  rw [hc, Nat.mul_one]
  unfold part
  rw [Sem.run_bind, ha]
  simp [bls_get hi]
theorem eqItems_bls (d : Nat) (f g : Nat → Bool) (w : World) : ∀ l : List Nat, (∀ i ∈ l, i < 10) →
    (Op.eqItems (d + 1) 4 (Tryd.prog.cellsOf 4) (bls f) (bls g) l).run Tryd.prog w = .ok (decide (∀ i ∈ l, f i = g i)) w
  | [], _ => by simp [Op.eqItems]
  | i :: l, h => by
    have ih := eqItems_bls d f g w l fun j hj => h j (List.mem_cons_of_mem _ hj)
    simp only [Op.eqItems, Sem.run_bind, part_bool f i (h i List.mem_cons_self) w, part_bool g i (h i List.mem_cons_self) w, Result.andThen_ok, run_equalIn_bool w d 4 _ _ und_bool]
    by_cases e : f i = g i
    · have e' : (f i == g i) = true := by simp [e]
      rw [e']
      simp only [Bool.not_true, Bool.false_eq_true, if_false, ih]
      simp [e]
    · have e' : (f i == g i) = false := by simpa using e
      rw [e']
      simp [e]
theorem inf_bool' : (Tryd.prog.info? 4).isSome = true := by kernel_rfl
theorem inf_bool : ∃ i, Tryd.prog.info? 4 = some i := Option.isSome_iff_exists.1 inf_bool'
theorem egt_b10 : Tryd.prog.eqGuardType Tryd.prog.depth 60 = false := by kernel_rfl
theorem eql_b10 (f g : Nat → Bool) (w : World) : (binOp .eql 60 (.agg (bls f)) (.agg (bls g))).run Tryd.prog w = .ok (.bool (decide (∀ i ∈ List.range 10, f i = g i))) w := by
  obtain ⟨i, hi⟩ := inf_bool
  rw [run_eql_struct]
  rw [show (Op.equalIn 10000 60 (.agg (bls f)) (.agg (bls g))).run Tryd.prog w = .ok (decide (∀ i ∈ List.range 10, f i = g i)) w by
    rw [run_equalIn_array w (9998 + 1) (bls f) (bls g) und_b10 hi, eqItems_bls 9998 f g w _ (by simp)]]
  rfl
theorem eql_mask (a b : Nat) (ha : a < 1024) (hb : b < 1024) : decide (∀ i ∈ List.range 10, a.testBit i = b.testBit i) = (a == b) := by
  rw [Bool.eq_iff_iff, decide_eq_true_iff, beq_iff_eq]
  constructor
  · intro h
    refine mask_ext fun i => ?_
    by_cases hi : i < 10
    · rw [h i (List.mem_range.2 hi)]
    · constructor
      · exact fun h => absurd (bit_lt ha h) hi
      · exact fun h => absurd (bit_lt hb h) hi
  · rintro rfl i _; rfl

set_option maxRecDepth 100000 in
set_option maxHeartbeats 1000000 in
theorem l05Both_any (n : Int) (t : Nat → Nat → Nat) (hby : Byt2 t) (xs : List Int) (hlen : xs.length ≤ 10000000) (w : World) (p : Option Addr) (cap : Nat) (hr : rdq w p xs.length (intF xs)) :
    Calls Tryd.prog 18 #[.agg (sqs n t), .slice p xs.length cap] w fun e w' => e = .returned (.int .i64 (lsCode n t xs)) ∧ Below w.heap.size w w' := by
  have M := Mm.start no w
  have H1 := Hid2.mk (fun w1 => l01Loop_any n t w1 hby)
  unfold lsCode
  cases hl : isLp n t with
  | false =>
    rw [hl] at H1
    rw [if_neg (by decide)]
    clear hby hl
    go_enter Tryd.func18, Tryd.ntmps18
    go_wp2_with (first | ((with_reducible apply wpM_box' M 32 (sqs n t)); rfl; exact ⟨rfl, rfl⟩; clear M; (try clear C); intro bq w9 h_bq M; have C := M.ruleAll; simp only [Go.Proofs.YteonahoboligdaaDoor.ruleAll] at C) | ((with_reducible apply wpM_lda' M 0 32 0 (sqs n t)); rfl; rfl; rfl; exact ⟨rfl, inf_sqs.trans (congrArg some (sqs_size ..).symm), _, und_sqs, rfl⟩; exact whole_of rfl) | (go_at_call 33; ((with_reducible refine (H1.out _).mono ?_); rintro e w1 ⟨rfl, hb⟩; have hsz := M.size; (try (have G9 := G.later hb; clear G; have G := G9; clear G9)); have M9 := M.later hb; clear M; (try clear C); have M := M9; clear M9; have C := M.ruleAll; simp only [Go.Proofs.YteonahoboligdaaDoor.ruleAll] at C)))
    go_ret
    exact ⟨rfl, M.below⟩
  | true =>
    obtain ⟨N, rfl, hs⟩ := lp_natG hl
    rw [hl] at H1
    rw [if_pos rfl]
    have H2 := Hid2.mk (fun w1 (hb : Below w.heap.size w w1) => l05List_any (N : Int) t hs.lo hs.hi xs hlen w1 p cap (hr.later hb))
    cases hb : setB (N : Int) xs with
    | false =>
      rw [hb] at H2
      rw [if_neg (by decide)]
      clear hby hl hs hb hr
      go_enter Tryd.func18, Tryd.ntmps18
      go_wp2_with (first | ((with_reducible apply wpM_box' M 32 (sqs (N : Int) t)); rfl; exact ⟨rfl, rfl⟩; clear M; (try clear C); intro bq w9 h_bq M; have C := M.ruleAll; simp only [Go.Proofs.YteonahoboligdaaDoor.ruleAll] at C) | ((with_reducible apply wpM_lda' M 0 32 0 (sqs (N : Int) t)); rfl; rfl; rfl; exact ⟨rfl, inf_sqs.trans (congrArg some (sqs_size ..).symm), _, und_sqs, rfl⟩; exact whole_of rfl) | (go_at_call 33; ((with_reducible refine (H1.out _).mono ?_); rintro e w1 ⟨rfl, hb⟩; have hsz := M.size; (try (have G9 := G.later hb; clear G; have G := G9; clear G9)); have M9 := M.later hb; clear M; (try clear C); have M := M9; clear M9; have C := M.ruleAll; simp only [Go.Proofs.YteonahoboligdaaDoor.ruleAll] at C)) | (go_at_call 34; ((with_reducible refine (H2.out _ M.below).mono ?_); rintro e w1 ⟨rfl, hb⟩; have hsz := M.size; (try (have G9 := G.later hb; clear G; have G := G9; clear G9)); have M9 := M.later hb; clear M; (try clear C); have M := M9; clear M9; have C := M.ruleAll; simp only [Go.Proofs.YteonahoboligdaaDoor.ruleAll] at C)))
      go_ret
      exact ⟨rfl, M.below⟩
    | true =>
      rw [hb] at H2
      rw [if_pos rfl]
      clear hby hl hs hb hr
      go_enter Tryd.func18, Tryd.ntmps18
      go_wp2_with (first | ((with_reducible apply wpM_box' M 32 (sqs (N : Int) t)); rfl; exact ⟨rfl, rfl⟩; clear M; (try clear C); intro bq w9 h_bq M; have C := M.ruleAll; simp only [Go.Proofs.YteonahoboligdaaDoor.ruleAll] at C) | ((with_reducible apply wpM_lda' M 0 32 0 (sqs (N : Int) t)); rfl; rfl; rfl; exact ⟨rfl, inf_sqs.trans (congrArg some (sqs_size ..).symm), _, und_sqs, rfl⟩; exact whole_of rfl) | (go_at_call 33; ((with_reducible refine (H1.out _).mono ?_); rintro e w1 ⟨rfl, hb⟩; have hsz := M.size; (try (have G9 := G.later hb; clear G; have G := G9; clear G9)); have M9 := M.later hb; clear M; (try clear C); have M := M9; clear M9; have C := M.ruleAll; simp only [Go.Proofs.YteonahoboligdaaDoor.ruleAll] at C)) | (go_at_call 34; ((with_reducible refine (H2.out _ M.below).mono ?_); rintro e w1 ⟨rfl, hb⟩; have hsz := M.size; (try (have G9 := G.later hb; clear G; have G := G9; clear G9)); have M9 := M.later hb; clear M; (try clear C); have M := M9; clear M9; have C := M.ruleAll; simp only [Go.Proofs.YteonahoboligdaaDoor.ruleAll] at C)))
      go_ret
      exact ⟨rfl, M.below⟩

set_option maxRecDepth 100000 in
set_option maxHeartbeats 1000000 in
theorem l05Sub_any (n : Nat) (t : Nat → Nat → Nat) (hs : IsSq (n : Int) t) (m : Nat) (hm : m < 1024) (hmb : ∀ i, m.testBit i = true → i < n) (w : World) (g cap : Nat) (hr : rds w g (mL m).length (i64F (mL m))) :
    Calls Tryd.prog 19 #[.agg (sqs (n : Int) t), .slice (some ⟨g, 0, none⟩) (mL m).length cap] w fun e w' => e = .returned (.bool (genM t m == m)) ∧ Below w.heap.size w w' := by
  have M := Mm.start no w
  have H1 := Hid2.mk (fun w1 (hb : Below w.heap.size w w1) => l05Set_any m hm w1 g cap (hr.lat hb))
  have H2 := Hid2.mk (fun w1 => l05Close_any n t hs m hm hmb w1)
  have HE := Hid2.mk (fun w1 => (eql_b10 (fun y => (genM t m).testBit y) (fun y => m.testBit y) w1).trans (by rw [eql_mask _ _ (genM_lt t m) hm]))
  generalize (genM t m == m) = r at *
  generalize (fun y => (genM t m).testBit y) = p1 at *
  generalize (fun y => m.testBit y) = p0 at *
  have hz := zero_b10
  clear hs hmb hr
  go_enter Tryd.func19, Tryd.ntmps19
  go_wp2_with (first | ((with_reducible apply wpM_box' M 32 (sqs (n : Int) t)); rfl; exact ⟨rfl, rfl⟩; clear M; (try clear C); intro bq w9 h_bq M; have C := M.ruleAll; simp only [Go.Proofs.YteonahoboligdaaDoor.ruleAll] at C) | (go_at_call 35; ((with_reducible refine (H1.out _ M.below).mono ?_); rintro e w1 ⟨rfl, hb⟩; have hsz := M.size; (try (have G9 := G.later hb; clear G; have G := G9; clear G9)); have M9 := M.later hb; clear M; (try clear C); have M := M9; clear M9; have C := M.ruleAll; simp only [Go.Proofs.YteonahoboligdaaDoor.ruleAll] at C)) | ((with_reducible apply wpM_alloc' M 60 (bls fun _ => false)); rfl; exact ⟨rfl, _, zero_b10 _, rfl⟩; clear M; (try clear C); intro bo w9 h_bo M; have C := M.ruleAll; simp only [Go.Proofs.YteonahoboligdaaDoor.ruleAll] at C) | ((with_reducible apply wpM_sta' M 0 60 (bls p0)); rfl; rfl; rfl; rfl; (first | exact .inl (by assumption) | exact .inr rfl | exact .inr (by assumption)); exact ⟨rfl, inf_b10.trans (congrArg some (bls_size ..).symm), flat_bls _⟩; (simp only [entCells, List.getElem?_cons_zero, List.getElem?_cons_succ, bls_size, bls_size]); clear M; (try clear C); intro w9 M; simp only [List.set_cons_zero, List.set_cons_succ, entBlk, entT, List.getElem?_cons_zero, List.getElem?_cons_succ] at M; have C := M.ruleAll; simp only [Go.Proofs.YteonahoboligdaaDoor.ruleAll] at C))
  apply wp_region_mm M 4 (by kernel_rfl) (by kernel_rfl); (simp only [List.take_succ_cons, List.take_zero]; repeat (first | exact wpText_nil | (apply wpText_cons; (intro w2 M; have C := M.ruleAll; simp only [Go.Proofs.YteonahoboligdaaDoor.ruleAll] at C; go_wp2_with (first | ((with_reducible apply wpM_lda' M 1 32 0 (sqs (n : Int) t)); rfl; rfl; rfl; exact ⟨rfl, inf_sqs.trans (congrArg some (sqs_size ..).symm), _, und_sqs, rfl⟩; exact whole_of rfl) | ((with_reducible apply wpM_lda' M 0 60 0 (bls p0)); rfl; rfl; rfl; exact ⟨rfl, inf_b10.trans (congrArg some (bls_size ..).symm), _, und_b10, rfl⟩; exact whole_of rfl) | (go_at_call 36; ((with_reducible refine (H2.out _).mono ?_); rintro e w1 ⟨rfl, hb⟩; have hsz := M.size; (try (have G9 := G.later hb; clear G; have G := G9; clear G9)); have M9 := M.later hb; clear M; (try clear C); have M := M9; clear M9; have C := M.ruleAll; simp only [Go.Proofs.YteonahoboligdaaDoor.ruleAll] at C))); exact ⟨rfl, rfl, M⟩); rfl))); (clear M; (try clear C); intro w2 M; simp only [List.drop_succ_cons, List.drop_zero]; have C := M.ruleAll; simp only [Go.Proofs.YteonahoboligdaaDoor.ruleAll] at C)
  go_wp2_with (first | (refine wpList_agg_g .eql 60 _ _ _ rfl rfl (bls p1) (bls p0) rfl rfl egt_b10 _ (HE.out _) ?_))
  go_ret
  exact ⟨rfl, M.below⟩
end Go.Proofs.YteonahoboligdaaDoor

/- Left cosets and CosetsOf of the reference: contracts. -/
namespace Go.Proofs.YteonahoboligdaaDoor
set_option linter.unusedSimpArgs false
set_option linter.unusedVariables false
open Go Go.RowKit

theorem tdL_asc (p : Nat → Bool) : ∀ k, (tdL p k).Pairwise (· < ·)
  | 0 => List.Pairwise.nil
  | k + 1 => by
    rw [tdL]
    split
    · exact List.pairwise_append.2 ⟨tdL_asc p k, List.pairwise_singleton _ _, fun a ha b hb => by rw [List.mem_singleton.1 hb]; exact (tdL_mem.1 ha).1⟩
    · exact tdL_asc p k
theorem mL_fresh (m : Nat) {j z : Nat} (h : (mL m)[j]? = some z) : z ∉ (mL m).take j := fun hm => by
  have hp : (mL m).Pairwise (· < ·) := tdL_asc (fun y => m.testBit y) 10
  rw [List.pairwise_iff_getElem] at hp
  obtain ⟨hj, rfl⟩ := List.getElem?_eq_some_iff.1 h
  obtain ⟨i, hi, e⟩ := List.mem_iff_getElem.1 hm
  rw [List.length_take] at hi
  rw [List.getElem_take] at e
  have h1 : (mL m)[i] < (mL m)[j] := hp i j (by omega) hj (by omega)
  omega
/-- The places of the sets in which numbers lie. -/
structure Plc (out : List Nat) (f : Nat → Nat) : Prop where
  zero : ∀ y, y < 10 → f y = 0 → ∀ o ∈ out, o.testBit y = false
  at_ : ∀ y, y < 10 → ∀ i, f y = i + 1 → ∃ o, out[i]? = some o ∧ o.testBit y = true
theorem Plc.start : Plc [] fun _ => 0 := ⟨(fun _ _ _ _ h => by cases h), fun _ _ i h => by simp at h⟩
/-- The places while those of a new set are written. -/
def plN (f : Nat → Nat) (own : List Nat) (v j : Nat) : Nat → Nat := fun y => if y ∈ own.take j then v else f y
theorem plN_zero (f : Nat → Nat) (own : List Nat) (v : Nat) : plN f own v 0 = f := by funext y; simp [plN]
theorem plN_set {f : Nat → Nat} {own : List Nat} {v j z : Nat} (h : own[j]? = some z) : (n10 (plN f own v j)).setIfInBounds z (.int .i64 (v : Nat)) = n10 (plN f own v (j + 1)) := by
  rw [n10_set]
  congr 1
  funext y
  unfold plN
  rw [List.take_add_one, h, Option.toList_some]
  by_cases e : y = z
  · subst e; simp
  · rw [if_neg e]
    simp [e]
theorem plN_fresh {f : Nat → Nat} {c v j z : Nat} (h : (mL c)[j]? = some z) : plN f (mL c) v j z = f z := if_neg (mL_fresh c h)
theorem Plc.add {out : List Nat} {f : Nat → Nat} {c : Nat} (hc : c < 1024) (V : Plc out f) : Plc (out ++ [c]) (plN f (mL c) (out.length + 1) (mL c).length) := by
  have hp : ∀ y, plN f (mL c) (out.length + 1) (mL c).length y = if c.testBit y = true then out.length + 1 else f y := fun y => by
    unfold plN
    rw [List.take_length]
    by_cases h : c.testBit y = true
    · rw [if_pos ((mL_mem hc).2 h), if_pos h]
    · rw [if_neg (fun h2 => h ((mL_mem hc).1 h2)), if_neg h]
  refine ⟨fun y hy h o ho => ?_, fun y hy i h => ?_⟩
  · rw [hp] at h
    split at h
    · omega
    · rename_i hb
      rcases List.mem_append.1 ho with ho | ho
      · exact V.zero y hy h o ho
      · rw [List.mem_singleton.1 ho]; simpa using hb
  · rw [hp] at h
    split at h
    · rename_i hb
      have : i = out.length := by omega
      subst this
      exact ⟨c, by rw [List.getElem?_append_right (Nat.le_refl _), Nat.sub_self]; rfl, hb⟩
    · obtain ⟨o, h1, h2⟩ := V.at_ y hy i h
      exact ⟨o, by rw [List.getElem?_append_left (List.getElem?_eq_some_iff.1 h1).1]; exact h1, h2⟩
theorem Plc.le {out : List Nat} {f : Nat → Nat} (V : Plc out f) {y : Nat} (hy : y < 10) : f y ≤ out.length := by
  rcases Nat.eq_zero_or_pos (f y) with h | h
  · omega
  · obtain ⟨o, h1, _⟩ := V.at_ y hy (f y - 1) (by omega)
    have := (List.getElem?_eq_some_iff.1 h1).1; omega
/-- Marks of the images of the first j elements of a list. -/
def mkI (f : Nat → Nat) (l : List Nat) (j : Nat) : Nat → Bool := fun y => decide (y ∈ (l.take j).map f)
theorem mkI_zero (f : Nat → Nat) (l : List Nat) : mkI f l 0 = fun _ => false := by funext y; simp [mkI]
theorem mkI_set {f : Nat → Nat} {l : List Nat} {j x : Nat} (h : l[j]? = some x) : (bls (mkI f l j)).setIfInBounds (f x) (.bool true) = bls (mkI f l (j + 1)) := by
  rw [bls_set]
  congr 1
  funext y
  unfold mkI
  rw [List.take_add_one, h, Option.toList_some, List.map_append]
  by_cases e : y = f x
  · subst e; simp
  · rw [if_neg e]
    simp [e]
theorem mkI_coset {n : Nat} {t : Nat → Nat → Nat} (hl : Loo n t) {s : Nat} (hs : ∀ i, s.testBit i = true → i < n) (hsl : s < 1024) {x : Nat} (hx : x < n) : mkI (t x) (mL s) (mL s).length = fun y => (csM n t s x).testBit y := by
  funext y
  unfold mkI
  rw [List.take_length, Bool.eq_iff_iff, decide_eq_true_iff, csM_mem hl hs hx, List.mem_map]
  exact ⟨fun ⟨i, h1, h2⟩ => ⟨i, (mL_mem hsl).1 h1, h2⟩, fun ⟨i, h1, h2⟩ => ⟨i, (mL_mem hsl).2 h1, h2⟩⟩

/-- What l05Cosets hands back. -/
def ScPost (r : Option (List Nat)) (w : World) (e : Ending) (w' : World) : Prop :=
  (r = none ∧ e = .returned (.tuple #[.slice none 0 0, .bool false]) ∧ Below w.heap.size w w') ∨ ∃ out v, r = some out ∧ e = .returned (.tuple #[v, .bool true]) ∧ ClsRes w.heap.size w w' v (out.map mL) 26 2
theorem ScPost.none {r : Option (List Nat)} {w w' : World} (h : r = none) (hb : Below w.heap.size w w') : ScPost r w (.returned (.tuple #[.slice none 0 0, .bool false])) w' := .inl ⟨h, rfl, hb⟩
theorem ScPost.some {r : Option (List Nat)} {out : List Nat} {v : Value} {vs : List Value} {w w' : World} (h : r = some out) (hv : vs.length = out.length) (M : Mm no w w' (.row w.heap.size v out.length vs 26 1 :: clsE w.heap.size 2 vs (out.map mL))) : ScPost r w (.returned (.tuple #[v, .bool true])) w' :=
  .inr ⟨out, v, h, rfl, vs, by rw [List.length_map]; exact hv, by rw [List.length_map]; exact M⟩

set_option maxRecDepth 100000 in
set_option maxHeartbeats 8000000 in
theorem l05Cosets_any (n : Nat) (t : Nat → Nat → Nat) (hl : Loo n t) (s : Nat) (hsl : s < 1024) (hsb : ∀ i, s.testBit i = true → i < n) (h0 : s.testBit 0 = true) (w : World) (g cap : Nat) (hr : rds w g (mL s).length (i64F (mL s))) :
    Calls Tryd.prog 20 #[.agg (sqs (n : Int) t), .slice (some ⟨g, 0, none⟩) (mL s).length cap] w (ScPost (cosTo (csM n t s) n) w) := by
  have M := (Mm.start no w).add (x := .rd g (mL s).length (i64F (mL s))) hr fun _ h => by cases h
  have hs := hl.sq
  have hn : n ≤ 10 := by have := hs.hi; omega
  have h1 := hl.pos
  have hn' : (n : Int) ≤ 10 := by omega
  have so := sqs_order (n : Int) t
  have HSELF := Hid2.mk (fun x (hx : x < n) => csM_self hl h0 hx)
  have HCL := Hid2.mk (fun x => csM_lt n t s x)
  have HCN := Hid2.mk (fun x z (h : (csM n t s x).testBit z = true) => csM_n hl h)
  have HMC := Hid2.mk (fun x (hx : x < n) => mkI_coset hl hsb hsl hx)
  have HTL := Hid2.mk (fun x y (hx : x < n) (hy : y < n) => hl.lt hx hy)
  generalize csM n t s = CM at *
  have HKN := Hid2.mk (fun k out (V : Cos CM k out) (h : CM k ∈ out) => V.known h)
  have HAD := Hid2.mk (fun k out (V : Cos CM k out) (hk : k < n) (h : ∀ o ∈ out, CM k &&& o = 0) => V.add HSELF.out hn hk h)
  have HFA := Hid2.mk (fun k out (V : Cos CM k out) (hk : k < n) o (ho : o ∈ out) (h1 : CM k ≠ o) (h2 : CM k &&& o ≠ 0) => V.fail hk ho h1 h2)
  have HOL : Hid2 (∀ k out, Cos CM k out → ∀ o ∈ out, o < 1024) := ⟨fun k out V o ho => by
    obtain ⟨x, _, rfl⟩ := V.sub o ho
    exact HCL.out x⟩
  have HC0 := Hid2.mk (Cos.start CM)
  have HR : Hid2 (∀ out, Cos CM n out → cosTo CM n = some out) := ⟨fun out V => V.is⟩
  have HSL : Hid2 (∀ x ∈ mL s, x < n) := ⟨fun x hx => hsb x ((mL_mem hsl).1 hx)⟩
  have HP0 := Hid2.mk Plc.start
  generalize cosTo CM n = res at *
  have hslen := mL_le s
  generalize mL s = l at *
  have hz := zero_i10
  have hbd := build_i10
  have hzb := zero_b10
  have hbdb := build_b10
  clear hr hs hl hsl hsb
  go_enter Tryd.func20, Tryd.ntmps20
  go_wp2_with (first | ((with_reducible apply wpM_box' M 32 (sqs (n : Int) t)); rfl; exact ⟨rfl, rfl⟩; clear M; (try clear C); intro bq w9 h_bq M; have C := M.ruleAll; simp only [Go.Proofs.YteonahoboligdaaDoor.ruleAll] at C) | ((with_reducible apply wpM_bsl' M 27 0 26 ([]) (#[])); rfl; rfl; rfl; exact bsl_h0; clear M; (try clear C); intro bo w9 h_bo M; have C := M.ruleAll; simp only [Go.Proofs.YteonahoboligdaaDoor.ruleAll] at C) | (refine wpList_build 63 _ rfl rfl [] rfl _ (build_i10 _) ?_) | ((with_reducible apply wpM_alloc' M 63 (n10 fun _ => 0)); rfl; exact ⟨rfl, _, zero_i10 _, rfl⟩; clear M; (try clear C); intro bp w9 h_bp M; have C := M.ruleAll; simp only [Go.Proofs.YteonahoboligdaaDoor.ruleAll] at C) | ((with_reducible apply wpM_sta' M 0 63 (n10 fun _ => 0)); rfl; rfl; rfl; rfl; (first | exact .inl (by assumption) | exact .inr rfl | exact .inr (by assumption)); exact ⟨rfl, inf_i10.trans (congrArg some (n10_size ..).symm), flat_n10 _⟩; (simp only [entCells, List.getElem?_cons_zero, List.getElem?_cons_succ, n10_size, n10_size]); clear M; (try clear C); intro w9 M; simp only [List.set_cons_zero, List.set_cons_succ, entBlk, entT, List.getElem?_cons_zero, List.getElem?_cons_succ] at M; have C := M.ruleAll; simp only [Go.Proofs.YteonahoboligdaaDoor.ruleAll] at C))
  have M9 := (M.asRow 1 rfl w.heap.size 0 1 h_bo rfl (Nat.zero_le _)).sub [1, 0, 2, 3] (by decide)
  simp only [List.set_cons_zero, List.set_cons_succ] at M9
  clear M; (try clear C)
  clear hz hbd
  go_loopw [7, 8, 9, 10, 11, 12] (fun o x _ _ _ _ wr => ∃ (k : Nat) (v : Value) (vs : List Value) (out : List Nat) (f : Nat → Nat), k ≤ n ∧ x = .int .i64 (k : Int) ∧ o = v ∧ Hid2 (vs.length = out.length) ∧ Hid2 (Cos CM k out) ∧ Hid2 (Plc out f) ∧ Mm no w wr (.row w.heap.size v out.length vs 26 1 :: .box bp (n10 f) 63 :: .box bq (sqs (n : Int) t) 32 :: .rd g l.length (i64F l) :: clsE w.heap.size 2 vs (out.map mL))) (fun _ x _ _ _ _ _ => n - (intOf x).toNat)
  case atStart => exact ⟨0, _, [], [], _, by omega, rfl, rfl, ⟨rfl⟩, HC0, HP0, M9⟩
  case round =>
    clear M9 HC0 HP0
    obtain ⟨k, v, vs, out, f, hk, rfl, rfl, HVL, HV, HPL, M9⟩ := hrel
    obtain ⟨pp, cc, rfl⟩ := own_form (M9.row 0 rfl)
    have M := M9
    clear M9
    have hlen := HV.out.len
    by_cases hlt : k < n
    · have hlt' : (k : Int) < (n : Int) := by omega
      have hk10 : (k : Int) < 10 := by omega
      have hk10n : k < 10 := by omega
      have C := M.ruleAll; simp only [Go.Proofs.YteonahoboligdaaDoor.ruleAll] at C
      go_wp2_with (first | (refine wpList_build 60 _ rfl rfl [] rfl _ (build_b10 _) ?_) | ((with_reducible apply wpM_alloc' M 60 (bls fun _ => false)); rfl; exact ⟨rfl, _, zero_b10 _, rfl⟩; clear M; (try clear C); intro bs w9 h_bs M; have C := M.ruleAll; simp only [Go.Proofs.YteonahoboligdaaDoor.ruleAll] at C) | ((with_reducible apply wpM_sta' M 0 60 (bls fun _ => false)); rfl; rfl; rfl; rfl; (first | exact .inl (by assumption) | exact .inr rfl | exact .inr (by assumption)); exact ⟨rfl, inf_b10.trans (congrArg some (bls_size ..).symm), flat_bls _⟩; (simp only [entCells, List.getElem?_cons_zero, List.getElem?_cons_succ, bls_size, bls_size]); clear M; (try clear C); intro w9 M; simp only [List.set_cons_zero, List.set_cons_succ, entBlk, entT, List.getElem?_cons_zero, List.getElem?_cons_succ] at M; have C := M.ruleAll; simp only [Go.Proofs.YteonahoboligdaaDoor.ruleAll] at C))
      have HMC1 := Hid2.mk (HMC.out k hlt)
      have HI0 := Hid2.mk (mkI_zero (t k) l)
      have HIS := Hid2.mk (fun j x (h : l[j]? = some x) => mkI_set (f := t k) h)
      have HTK := Hid2.mk (fun y hy => HTL.out k y hlt hy)
      have HQ := Hid2.mk (fun y (hy : y < n) => sqs_get (n := (n : Int)) (t := t) (x := k) (y := y) (by omega) (by omega))
      have M9 := M
      clear M; (try clear C)
      go_loopw [10] (fun i wr => ∃ j : Nat, j ≤ l.length ∧ i = .int .i64 (j : Int) ∧ Mm no w wr (.box bs (bls (mkI (t k) l j)) 60 :: .row w.heap.size (.slice pp out.length cc) out.length vs 26 1 :: .box bp (n10 f) 63 :: .box bq (sqs (n : Int) t) 32 :: .rd g l.length (i64F l) :: clsE w.heap.size 2 vs (out.map mL))) (fun i _ => l.length - (intOf i).toNat)
      case atStart => exact ⟨0, by omega, rfl, M9.eq (by rw [HI0.out])⟩
      case round =>
        clear M9
        obtain ⟨j, hj, rfl, M9⟩ := hrel
        have M := M9
        clear M9
        by_cases hjl : j < l.length
        · have hjl' : (j : Int) < (l.length : Int) := by omega
          have e1 := List.getElem?_eq_getElem hjl
          have hx := HSL.out _ (List.getElem_mem hjl)
          have c1 := i64F_at e1
          have HS := Hid2.mk (HIS.out j _ e1)
          have q1 := HQ.out _ hx
          have ht := HTK.out _ hx
          clear e1
          generalize l[j] = x at *
          generalize t k x = z at *
          have hx' : (x : Int) < 10 := by omega
          have hz' : (z : Int) < 10 := by omega
          have C := M.ruleAll; simp only [Go.Proofs.YteonahoboligdaaDoor.ruleAll] at C
          go_wp2
          apply wp_region_mm M 10 (by kernel_rfl) (by kernel_rfl); (simp only [List.take_succ_cons, List.take_zero]; repeat (first | exact wpText_nil | (apply wpText_cons; (intro w2 M; have C := M.ruleAll; simp only [Go.Proofs.YteonahoboligdaaDoor.ruleAll] at C; go_wp2; exact ⟨rfl, rfl, M⟩); rfl))); (clear M; (try clear C); intro w2 M; simp only [List.drop_succ_cons, List.drop_zero]; have C := M.ruleAll; simp only [Go.Proofs.YteonahoboligdaaDoor.ruleAll] at C)
          go_wp2_with (first | ((with_reducible apply wpM_st' M 0 4 (z) (bls (mkI (t k) l (j + 1)))); rfl; rfl; rfl; (first | exact .inl (by assumption) | exact .inr rfl | exact .inr (by assumption)); exact ⟨rfl, rfl, by kernel_rfl⟩; (exact Nat.lt_of_lt_of_eq (by omega) (bls_size _).symm); exact HS.out; clear M; (try clear C); intro w9 M; simp only [List.set_cons_zero, List.set_cons_succ, entBlk, entT, List.getElem?_cons_zero, List.getElem?_cons_succ] at M; have C := M.ruleAll; simp only [Go.Proofs.YteonahoboligdaaDoor.ruleAll] at C))
          go_roundw
          case rel => exact ⟨j + 1, by omega, by go_num, M⟩
          case measure => simp [intOf]; omega
        · obtain rfl : j = l.length := by omega
          have hge : ¬ ((l.length : Int) < (l.length : Int)) := by omega
          rw [HMC1.out] at M
          have HTD := Hid2.mk (fun w1 => show Calls Tryd.prog 37 #[.agg (bls fun y => (CM k).testBit y)] w1 fun e w' => ∃ v, e = .returned v ∧ Mm no w1 w' [.row w1.heap.size v (mL (CM k)).length (i64N (mL (CM k))) 2 1] from l05Told_any (fun y => (CM k).testBit y) w1)
          have HKN1 := Hid2.mk (HKN.out k out HV.out)
          have HAD1 := Hid2.mk (HAD.out k out HV.out hlt)
          have HFA1 := Hid2.mk (HFA.out k out HV.out hlt)
          have HOL1 := Hid2.mk (HOL.out k out HV.out)
          have hcl := HCL.out k
          have hself := HSELF.out k hlt
          have HMEM := Hid2.mk (fun z => mL_mem (x := z) hcl)
          have HFR := Hid2.mk (fun j z (h : (mL (CM k))[j]? = some z) => plN_fresh (f := f) (v := out.length + 1) h)
          have HPA := Hid2.mk (HPL.out.add hcl)
          have HLE := Hid2.mk (fun z (h : z ∈ mL (CM k)) => mL_lt h)
          have hol10 := mL_le (CM k)
          clear HV hge HMC1 HI0 HIS HQ HTK
          generalize CM k = c at *
          have HOI := Hid2.mk (fun o (ho : o ∈ out) (h : mL o = mL c) => mL_inj (HOL1.out o ho) hcl h)
          generalize hown : mL c = own at *
          have HOWN := Hid2.mk hown
          clear hown
          have hkown := (HMEM.out k).2 hself
          have hpos : 0 < own.length := List.length_pos_of_mem hkown
          generalize hpc : (fun y => c.testBit y) = pc at *
          clear hpc
          have C := M.ruleAll; simp only [Go.Proofs.YteonahoboligdaaDoor.ruleAll] at C
          go_wp2_with (first | ((with_reducible apply wpM_lda' M 0 60 0 (bls pc)); rfl; rfl; rfl; exact ⟨rfl, inf_b10.trans (congrArg some (bls_size ..).symm), _, und_b10, rfl⟩; exact whole_of rfl) | (go_at_call 37; fail))
          refine (HTD.out _).mono ?_
          rintro e w1 ⟨v1, rfl, M'⟩
          have M9 : Mm no w w1 (.row w.heap.size v1 own.length (i64N own) 2 1 :: .row w.heap.size (.slice pp out.length cc) out.length vs 26 1 :: .box bp (n10 f) 63 :: .box bq (sqs (n : Int) t) 32 :: .rd g l.length (i64F l) :: clsE w.heap.size 2 vs (out.map mL)) := (M.joinRow M').drop 1
          obtain ⟨g1, c1, e, -, -, hr1⟩ := own_rds (M9.row 0 rfl) (by omega)
          cases e
          clear M; (try clear C)
          have M := M9
          clear M9 M' hr1
          have q2 := n10_get (f := f) (i := k) hk10n
          by_cases hf : f k = 0
          · rw [hf] at q2
            have HZK := Hid2.mk (HPL.out.zero k hk10n hf)
            have hd : (((0 : Nat) : Int) == 0) = true := rfl
            clear hf
            have C := M.ruleAll; simp only [Go.Proofs.YteonahoboligdaaDoor.ruleAll] at C
            go_wp2_with (first | ((with_reducible apply wpM_bsl' M 27 1 26 ([(0, .slice (some ⟨g1, 0, none⟩) own.length c1)]) (#[.slice (some ⟨g1, 0, none⟩) own.length c1])); rfl; rfl; rfl; exact bsl_h1 _ _ _; clear M; (try clear C); intro bh w9 h_bh M; have C := M.ruleAll; simp only [Go.Proofs.YteonahoboligdaaDoor.ruleAll] at C) | ((with_reducible apply wpM_app' M 27 2 0 (w.heap.size) (.slice pp out.length cc) (out.length) (vs) 26 1 24); rfl; rfl; rfl; rfl; rfl; rfl; rfl; (first | exact .inl (Nat.le_refl _) | exact .inl (by assumption) | exact .inr (by assumption) | exact .inr HDv.out); (first | exact M.size | (have hq := M.size; omega)); exact und_slh; exact inf_elh; rfl; decide; decide; rfl; exact rfl; exact flat_sl _ _ _; omega; clear M; (try clear C); intro v3 w9 far_v3 M; simp only [List.set_cons_zero, List.set_cons_succ, entBlk, entT, List.getElem?_cons_zero, List.getElem?_cons_succ] at M; obtain ⟨pp_v3, cap_v3, rfl⟩ := own_form (M.row 2 rfl); have C := M.ruleAll; simp only [Go.Proofs.YteonahoboligdaaDoor.ruleAll] at C))
            have M9 := M.drop 0
            clear M; (try clear C)
            clear q2 hd
            have HN0 := Hid2.mk (plN_zero f own (out.length + 1))
            have HNS := Hid2.mk (fun j z (h : own[j]? = some z) => plN_set (f := f) (v := out.length + 1) h)
            go_loopw [12] (fun i wr => ∃ j : Nat, j ≤ own.length ∧ i = .int .i64 (j : Int) ∧ Hid2 (∀ i z, i < j → own[i]? = some z → f z = 0) ∧ Mm no w wr (.row w.heap.size (.slice (some ⟨g1, 0, none⟩) own.length c1) own.length (i64N own) 2 1 :: .row w.heap.size (.slice pp_v3 (out.length + 1) cap_v3) (out.length + 1) (vs ++ [.slice (some ⟨g1, 0, none⟩) own.length c1]) 26 1 :: .box bp (n10 (plN f own (out.length + 1) j)) 63 :: .box bq (sqs (n : Int) t) 32 :: .rd g l.length (i64F l) :: clsE w.heap.size 2 vs (out.map mL))) (fun i _ => own.length - (intOf i).toNat)
            case atStart => exact ⟨0, by omega, rfl, ⟨fun i z h => by omega⟩, M9.eq (by rw [HN0.out]; rfl)⟩
            case round =>
              clear M9 HN0
              obtain ⟨j, hj, rfl, HAZ, M9⟩ := hrel
              have M := M9
              clear M9
              by_cases hjl : j < own.length
              · have hjl' : (j : Int) < (own.length : Int) := by omega
                have e1 := List.getElem?_eq_getElem hjl
                have hmz := List.getElem_mem hjl
                have hzl := HLE.out _ hmz
                have hd1 := World.ownsRow.cellAt (M.row 0 rfl) j (by omega)
                rw [i64N_get e1] at hd1
                have q3 := n10_get (f := plN f own (out.length + 1) j) (i := own[j]) hzl
                rw [HFR.out j _ e1] at q3
                have HS := Hid2.mk (HNS.out j _ e1)
                have HAN := Hid2.mk (fun (h : f own[j] = 0) => show ∀ i z, i < j + 1 → own[i]? = some z → f z = 0 from fun i z hi hz => by
                  by_cases e : i = j
                  · subst e; rw [e1] at hz; cases hz; exact h
                  · exact HAZ.out i z (by omega) hz)
                have HBZ := Hid2.mk (fun (h : f own[j] ≠ 0) => show res = none from by
                  obtain ⟨o, ho1, ho2⟩ := HPL.out.at_ own[j] hzl (f own[j] - 1) (by omega)
                  have hom := List.mem_of_getElem? ho1
                  refine HFA1.out o hom (fun e => ?_) fun e => ?_
                  · subst e
                    have := HZK.out _ hom
                    rw [hself] at this; cases this
                  · have := and_zero e ((HMEM.out _).1 hmz)
                    rw [ho2] at this; cases this)
                clear e1 hmz
                generalize own[j] = z at *
                have hz10 : (z : Int) < 10 := by omega
                by_cases hfz : f z = 0
                · have HN := Hid2.mk (HAN.out hfz)
                  rw [hfz] at q3
                  have hd : (((0 : Nat) : Int) != 0) = false := rfl
                  clear hfz HAN HBZ
                  have C := M.ruleAll; simp only [Go.Proofs.YteonahoboligdaaDoor.ruleAll] at C
                  go_wp2_with (first | ((with_reducible apply wpM_st' M 2 2 (z) (n10 (plN f own (out.length + 1) (j + 1)))); rfl; rfl; rfl; (first | exact .inl (by assumption) | exact .inr rfl | exact .inr (by assumption)); exact ⟨rfl, rfl, by kernel_rfl⟩; (exact Nat.lt_of_lt_of_eq (by omega) (n10_size _).symm); exact HS.out; clear M; (try clear C); intro w9 M; simp only [List.set_cons_zero, List.set_cons_succ, entBlk, entT, List.getElem?_cons_zero, List.getElem?_cons_succ] at M; have C := M.ruleAll; simp only [Go.Proofs.YteonahoboligdaaDoor.ruleAll] at C))
                  go_roundw
                  case rel => exact ⟨j + 1, by omega, by go_num, HN, M⟩
                  case measure => simp [intOf]; omega
                · have HN := Hid2.mk (HBZ.out hfz)
                  have hd : (((f z : Nat) : Int) != 0) = true := by simp; omega
                  clear hfz HAN HBZ
                  generalize f z = fz at *
                  have C := M.ruleAll; simp only [Go.Proofs.YteonahoboligdaaDoor.ruleAll] at C
                  go_wp2
                  go_ret2
                  exact ScPost.none HN.out M.below
              · obtain rfl : j = own.length := by omega
                have hge : ¬ ((own.length : Int) < (own.length : Int)) := by omega
                have HN := Hid2.mk (HAD1.out fun o ho => and_zero_of fun x h1 h2 => by
                  obtain ⟨i, hi⟩ := List.getElem?_of_mem ((HMEM.out x).2 h1)
                  have h3 := HAZ.out i x (List.getElem?_eq_some_iff.1 hi).1 hi
                  have h4 := HPL.out.zero x (HLE.out x ((HMEM.out x).2 h1)) h3 o ho
                  rw [h2] at h4; cases h4)
                have q4 := n10_get (f := plN f own (out.length + 1) own.length) (i := k) hk10n
                rw [show plN f own (out.length + 1) own.length k = out.length + 1 by unfold plN; rw [List.take_length, if_pos hkown]] at q4
                obtain ⟨g3, c3, e, -, -, -⟩ := own_rds (M.row 1 rfl) (by omega)
                cases e
                have hd3 := World.ownsRow.cellAt (M.row 1 rfl) out.length (by omega)
                rw [List.getElem?_append_right (by rw [HVL.out]; exact Nat.le_refl _), HVL.out, Nat.sub_self, List.getElem?_cons_zero] at hd3
                obtain ⟨g4, c4, e, -, -, hr4⟩ := own_rds (M.row 0 rfl) (by omega)
                cases e
                rw [Nat.mul_one] at hr4
                have hr5 : rds wr g1 own.length (i64F own) := ⟨hr4.lt, fun j hj => by rw [hr4.at_ j hj, i64N_at hj]⟩
                have HSA := Hid2.mk (l01Same2_any own own (by omega) (by omega) wr g1 c1 g1 c1 hr5 hr5)
                rw [decide_eq_true (rfl : own = own)] at HSA
                have hol : (out.length : Int) ≤ 10 := by omega
                clear hr4 hr5 HAZ
                have C := M.ruleAll; simp only [Go.Proofs.YteonahoboligdaaDoor.ruleAll] at C
                go_wp2_with (first | (go_at_call 38; ((with_reducible refine (HSA.out).mono ?_); rintro e w1 ⟨rfl, hb⟩; have hsz := M.size; (try (have G9 := G.later hb; clear G; have G := G9; clear G9)); have M9 := M.later hb; clear M; (try clear C); have M := M9; clear M9; have C := M.ruleAll; simp only [Go.Proofs.YteonahoboligdaaDoor.ruleAll] at C)))
                have M8 : Mm no w _ ((.row w.heap.size (.slice (some ⟨g1, 0, none⟩) own.length c1) own.length (i64N own) 2 1) :: (.row w.heap.size (.slice (some ⟨g3, 0, none⟩) (out.length + 1) cap_v3) (out.length + 1) (vs ++ [.slice (some ⟨g1, 0, none⟩) own.length c1]) 26 1 :: .box bp (n10 (plN f own (out.length + 1) own.length)) 63 :: .box bq (sqs (n : Int) t) 32 :: .rd g l.length (i64F l) :: clsE w.heap.size 2 vs (out.map mL))) := M
                have M6 := M8.perm (List.perm_append_comm (l₁ := [_]))
                clear M8
                have M5 : Mm no w _ (.row w.heap.size (.slice (some ⟨g3, 0, none⟩) (out.length + 1) cap_v3) (out.length + 1) (vs ++ [.slice (some ⟨g1, 0, none⟩) own.length c1]) 26 1 :: .box bp (n10 (plN f own (out.length + 1) own.length)) 63 :: .box bq (sqs (n : Int) t) 32 :: .rd g l.length (i64F l) :: clsE w.heap.size 2 (vs ++ [.slice (some ⟨g1, 0, none⟩) own.length c1]) (out.map mL ++ [own])) := M6.eq (by rw [clsE_new (by rw [List.length_map]; exact HVL.out)]; rfl)
                clear M M6
                go_roundw
                case rel => exact ⟨k + 1, _, vs ++ [.slice (some ⟨g1, 0, none⟩) own.length c1], out ++ [c], plN f own (out.length + 1) own.length, by omega, by go_num, rfl, ⟨by rw [List.length_append, List.length_append, HVL.out]; rfl⟩, HN, HPA, by rw [List.length_append, List.length_singleton, List.map_append, List.map_singleton, HOWN.out]; exact M5⟩
                case measure => simp [intOf]; omega
          · obtain ⟨i, hi⟩ : ∃ i, f k = i + 1 := ⟨f k - 1, by omega⟩
            obtain ⟨o, ho1, ho2⟩ := HPL.out.at_ k hk10n i hi
            obtain ⟨hil, hio⟩ := List.getElem?_eq_some_iff.1 ho1
            have hom := List.mem_of_getElem? ho1
            rw [hi] at q2
            have hd : (((i + 1 : Nat) : Int) == 0) = false := by simp; omega
            obtain ⟨g3, c3, e, -, -, -⟩ := own_rds (M.row 1 rfl) (by omega)
            cases e
            have hvi : i < vs.length := by rw [HVL.out]; exact hil
            have hd3 := World.ownsRow.cellAt (M.row 1 rfl) i (by omega)
            rw [List.getElem?_eq_getElem hvi] at hd3
            have hci : i < (out.map mL).length := by rw [List.length_map]; exact hil
            have hrow := M.row (i + 5) (B := w.heap.size) (v := vs[i]) (n := ((out.map mL)[i]).length) (xs := ints ((out.map mL)[i])) (e := 2) (size := 1) (by simp only [List.getElem?_cons_succ]; exact clsE_get hvi hci)
            rw [show (out.map mL)[i] = mL o by rw [List.getElem_map, hio]] at hrow
            have hopos : 0 < (mL o).length := List.length_pos_of_mem ((mL_mem (HOL1.out o hom)).2 ho2)
            have hol10 := mL_le o
            obtain ⟨g5, c5, e5, -, -, hr5⟩ := own_rds hrow (by omega)
            rw [e5] at hd3
            rw [Nat.mul_one] at hr5
            obtain ⟨g4, c4, e, -, -, hr4⟩ := own_rds (M.row 0 rfl) (by omega)
            cases e
            rw [Nat.mul_one] at hr4
            have hr6 : rds w1 g1 own.length (i64F own) := ⟨hr4.lt, fun j hj => by rw [hr4.at_ j hj, i64N_at hj]⟩
            have hr7 : rds w1 g5 (mL o).length (i64F (mL o)) := ⟨hr5.lt, fun j hj => by rw [hr5.at_ j hj]; exact congrArg some (i64N_at hj)⟩
            have HSA := Hid2.mk (l01Same2_any (mL o) own (by omega) (by omega) w1 g5 c5 g1 c1 hr7 hr6)
            have HKO := Hid2.mk (fun h => HKN1.out (HOI.out o hom h ▸ hom))
            have HFO := Hid2.mk (fun (h : mL o ≠ own) => HFA1.out o hom (fun e => h (by rw [← e, HOWN.out])) fun e => by
              have := and_zero e hself
              rw [ho2] at this; cases this)
            generalize mL o = lo at *
            have hil' : (i : Int) < (out.length : Int) := by omega
            have hil10 : (i : Int) ≤ 10 := by omega
            clear hr4 hr5 hr6 hr7 hrow e5 hf hi ho1 ho2 hio hom hci hvi
            by_cases hlo : lo = own
            · rw [decide_eq_true hlo] at HSA
              have HN := Hid2.mk (HKO.out hlo)
              clear hlo
              have C := M.ruleAll; simp only [Go.Proofs.YteonahoboligdaaDoor.ruleAll] at C
              go_wp2_with (first | (go_at_call 38; ((with_reducible refine (HSA.out).mono ?_); rintro e w1 ⟨rfl, hb⟩; have hsz := M.size; (try (have G9 := G.later hb; clear G; have G := G9; clear G9)); have M9 := M.later hb; clear M; (try clear C); have M := M9; clear M9; have C := M.ruleAll; simp only [Go.Proofs.YteonahoboligdaaDoor.ruleAll] at C)))
              have M9 := M.drop 0
              go_roundw
              case rel => exact ⟨k + 1, _, vs, out, f, by omega, by go_num, rfl, HVL, HN, HPL, M9⟩
              case measure => simp [intOf]; omega
            · rw [decide_eq_false hlo] at HSA
              have HN := Hid2.mk (HFO.out hlo)
              clear hlo
              have C := M.ruleAll; simp only [Go.Proofs.YteonahoboligdaaDoor.ruleAll] at C
              go_wp2_with (first | (go_at_call 38; ((with_reducible refine (HSA.out).mono ?_); rintro e w1 ⟨rfl, hb⟩; have hsz := M.size; (try (have G9 := G.later hb; clear G; have G := G9; clear G9)); have M9 := M.later hb; clear M; (try clear C); have M := M9; clear M9; have C := M.ruleAll; simp only [Go.Proofs.YteonahoboligdaaDoor.ruleAll] at C)))
              go_ret2
              exact ScPost.none HN.out M.below
    · obtain rfl : n = k := by omega
      have hge : ¬ ((n : Int) < (n : Int)) := by omega
      have HRES := Hid2.mk (HR.out out HV.out)
      have M9 := ((M.drop 1).drop 1).drop 1
      have C := M.ruleAll; simp only [Go.Proofs.YteonahoboligdaaDoor.ruleAll] at C
      go_wp2
      go_ret2
      exact ScPost.some HRES.out HVL.out M9
end Go.Proofs.YteonahoboligdaaDoor

/- CosetsOf of the reference, and the law: their walks. -/
namespace Go.Proofs.YteonahoboligdaaDoor
set_option linter.unusedSimpArgs false
set_option linter.unusedVariables false
open Go Go.RowKit

set_option maxRecDepth 100000 in
set_option maxHeartbeats 2000000 in
theorem specCosets_any (n : Int) (t : Nat → Nat → Nat) (hby : Byt2 t) (xs : List Int) (hlen : xs.length ≤ 10000000) (w : World) (g cap : Nat) (hr : rds w g xs.length (intF xs)) :
    Calls Tryd.prog 5 #[.agg (sqs n t), .slice (some ⟨g, 0, none⟩) xs.length cap] w (AsPost (coRes n t xs).1 (coRes n t xs).2 w) := by
  have M := Mm.start no w
  have H1 := Hid2.mk (fun w1 (hb : Below w.heap.size w w1) => l05Both_any n t hby xs hlen w1 (some ⟨g, 0, none⟩) cap ((hr.lat hb).rdq))
  by_cases hc : lsCode n t xs = 0
  · obtain ⟨N, m, rfl, hl, hm, hmb, rfl⟩ := ls_ok hc
    rw [show coRes (N : Int) t (toJ (mL m)) = ((if genM t m == m then (match cosTo (csM N t m) N with | none => ([], 4) | some out => (out.map mL, 0)) else ([], 5)) : List (List Nat) × Int) by
      unfold coRes; rw [if_pos hc, jM_toJ hm, Int.toNat_natCast] <;> rfl]
    rw [hc] at H1
    have hjl : ((toJ (mL m)).length) = (mL m).length := toJ_len _
    have hr2 : rds w g (mL m).length (i64F (mL m)) := ⟨hr.lt, fun j hj => by rw [hr.at_ j (by omega), toJ_at hj]⟩
    have HS := Hid2.mk (fun w1 (hb : Below w.heap.size w w1) => l05Sub_any N t hl.sq m hm hmb w1 g cap (hr2.lat hb))
    rw [hjl] at H1
    rw [hjl]
    have hlm := mL_le m
    cases hgm : genM t m == m with
    | false =>
      rw [hgm] at HS
      rw [if_neg (by decide)]
      generalize mL m = l at *
      clear hby hc hl hmb hr hr2 hgm
      go_enter Tryd.func5, Tryd.ntmps5
      go_wp2_with (first | ((with_reducible apply wpM_box' M 32 (sqs (N : Int) t)); rfl; exact ⟨rfl, rfl⟩; clear M; (try clear C); intro bq w9 h_bq M; have C := M.ruleAll; simp only [Go.Proofs.YteonahoboligdaaDoor.ruleAll] at C) | ((with_reducible apply wpM_lda' M 0 32 0 (sqs (N : Int) t)); rfl; rfl; rfl; exact ⟨rfl, inf_sqs.trans (congrArg some (sqs_size ..).symm), _, und_sqs, rfl⟩; exact whole_of rfl) | (go_at_call 18; ((with_reducible refine (H1.out _ M.below).mono ?_); rintro e w1 ⟨rfl, hb⟩; have hsz := M.size; (try (have G9 := G.later hb; clear G; have G := G9; clear G9)); have M9 := M.later hb; clear M; (try clear C); have M := M9; clear M9; have C := M.ruleAll; simp only [Go.Proofs.YteonahoboligdaaDoor.ruleAll] at C)) | (go_at_call 19; ((with_reducible refine (HS.out _ M.below).mono ?_); rintro e w1 ⟨rfl, hb⟩; have hsz := M.size; (try (have G9 := G.later hb; clear G; have G := G9; clear G9)); have M9 := M.later hb; clear M; (try clear C); have M := M9; clear M9; have C := M.ruleAll; simp only [Go.Proofs.YteonahoboligdaaDoor.ruleAll] at C)))
      go_ret2
      exact ⟨_, rfl, ClsHere.nil _ _, M.below⟩
    | true =>
      rw [hgm] at HS
      rw [if_pos rfl]
      have h0 : m.testBit 0 = true := ((genM_self hl.sq hmb).1 (beq_iff_eq.1 hgm)).zero
      have HCO := Hid2.mk (fun w1 (hb : Below w.heap.size w w1) => l05Cosets_any N t hl m hm hmb h0 w1 g cap (hr2.lat hb))
      generalize cosTo (csM N t m) N = r at *
      generalize mL m = l at *
      clear hby hc hl hmb hr hr2 hgm h0
      go_enter Tryd.func5, Tryd.ntmps5
      go_wp2_with (first | ((with_reducible apply wpM_box' M 32 (sqs (N : Int) t)); rfl; exact ⟨rfl, rfl⟩; clear M; (try clear C); intro bq w9 h_bq M; have C := M.ruleAll; simp only [Go.Proofs.YteonahoboligdaaDoor.ruleAll] at C) | ((with_reducible apply wpM_lda' M 0 32 0 (sqs (N : Int) t)); rfl; rfl; rfl; exact ⟨rfl, inf_sqs.trans (congrArg some (sqs_size ..).symm), _, und_sqs, rfl⟩; exact whole_of rfl) | (go_at_call 18; ((with_reducible refine (H1.out _ M.below).mono ?_); rintro e w1 ⟨rfl, hb⟩; have hsz := M.size; (try (have G9 := G.later hb; clear G; have G := G9; clear G9)); have M9 := M.later hb; clear M; (try clear C); have M := M9; clear M9; have C := M.ruleAll; simp only [Go.Proofs.YteonahoboligdaaDoor.ruleAll] at C)) | (go_at_call 19; ((with_reducible refine (HS.out _ M.below).mono ?_); rintro e w1 ⟨rfl, hb⟩; have hsz := M.size; (try (have G9 := G.later hb; clear G; have G := G9; clear G9)); have M9 := M.later hb; clear M; (try clear C); have M := M9; clear M9; have C := M.ruleAll; simp only [Go.Proofs.YteonahoboligdaaDoor.ruleAll] at C)) | (go_at_call 20; fail))
      refine (HCO.out _ M.below).mono ?_
      rintro e w2 (⟨rfl, rfl, hb⟩ | ⟨out, v, rfl, rfl, vs, hvs, M'⟩)
      · have M9 := M.later hb
        clear M; (try clear C)
        have M := M9
        clear M9 hb
        go_wp2
        go_ret2
        exact ⟨_, rfl, ClsHere.nil _ _, M.below⟩
      · have HCH := Hid2.mk (ClsHere.of hvs fun x hx => M'.mem hx)
        rw [List.length_map] at M'
        obtain ⟨p3, c3, rfl⟩ := own_form (M'.row 0 rfl)
        have M9 := M.later M'.below
        clear M; (try clear C)
        have M := M9
        clear M9 M'
        go_wp2
        go_ret2
        exact ⟨_, rfl, by have h := HCH.out; exact h, M.below⟩
  · have hcc := ls_cases n t xs
    rw [show coRes n t xs = ([], lsCode n t xs) from if_neg hc]
    generalize lsCode n t xs = c at *
    have hn0 : (c == 0) = false := beq_eq_false_iff_ne.2 hc
    have hn1 : (c != 0) = true := by rw [bne, hn0]; rfl
    clear hby hr
    go_enter Tryd.func5, Tryd.ntmps5
    go_wp2_with (first | ((with_reducible apply wpM_box' M 32 (sqs n t)); rfl; exact ⟨rfl, rfl⟩; clear M; (try clear C); intro bq w9 h_bq M; have C := M.ruleAll; simp only [Go.Proofs.YteonahoboligdaaDoor.ruleAll] at C) | ((with_reducible apply wpM_lda' M 0 32 0 (sqs n t)); rfl; rfl; rfl; exact ⟨rfl, inf_sqs.trans (congrArg some (sqs_size ..).symm), _, und_sqs, rfl⟩; exact whole_of rfl) | (go_at_call 18; ((with_reducible refine (H1.out _ M.below).mono ?_); rintro e w1 ⟨rfl, hb⟩; have hsz := M.size; (try (have G9 := G.later hb; clear G; have G := G9; clear G9)); have M9 := M.later hb; clear M; (try clear C); have M := M9; clear M9; have C := M.ruleAll; simp only [Go.Proofs.YteonahoboligdaaDoor.ruleAll] at C)))
    go_ret2
    exact ⟨_, rfl, ClsHere.nil _ _, M.below⟩

/-- A list of numbers made anew. -/
theorem intC_list {xs : List Int} {cs : Array Value} (h : intC xs cs) : cs.toList = i64s xs := by
  apply List.ext_getElem?
  intro j
  by_cases hj : j < xs.length
  · rw [Array.getElem?_toList, h.2 j hj]
    unfold i64s intF elI
    rw [List.getElem?_map, List.getElem?_eq_getElem hj, List.getD_eq_getElem?_getD, List.getElem?_eq_getElem hj]; rfl
  · rw [List.getElem?_eq_none (by rw [Array.length_toList, h.1]; omega), List.getElem?_eq_none (by rw [i64s_len]; omega)]
theorem toRow_any (xs : List Int) (hn : xs.length ≤ 1048576) (w : World) (p : Option Addr) (cap : Nat) (hr : rdp w p xs.length (intF xs)) :
    Calls Tryd.prog 7 #[.slice p xs.length cap] w fun e w' => ∃ g, e = .returned (.slice (some ⟨g, 0, none⟩) xs.length xs.length) ∧ Mm no w w' [.row w.heap.size (.slice (some ⟨g, 0, none⟩) xs.length xs.length) xs.length (i64s xs) 2 1] :=
  (toInt64S_any xs hn w p cap hr).mono fun e w' ⟨g, he, hg, cs, hcs, M⟩ => ⟨g, he, by
    have h := M.asRow 0 rfl w.heap.size xs.length 1 hg (by rw [hcs.1, Nat.mul_one]) (by simp only [maxLen]; omega)
    rw [intC_list hcs] at h
    exact h⟩
theorem row_rds {w : World} {B g c : Nat} {xs : List Int} (h : w.ownsRow B 2 1 (.slice (some ⟨g, 0, none⟩) xs.length c) xs.length (i64s xs)) : rds w g xs.length (intF xs) := by
  rcases h.2 with ⟨e, _⟩ | ⟨g', cap, cur, e, hb, hh, h1, h2, h3, h4⟩
  · exact absurd (Value.slice.inj e).1 (by simp)
  · cases e
    refine ⟨(Array.getElem?_eq_some_iff.1 hh).1, fun j hj => ?_⟩
    rw [World.ownsRow.cellAt h j (by omega)]
    unfold i64s intF elI
    rw [List.getElem?_map, List.getElem?_eq_getElem hj, List.getD_eq_getElem?_getD, List.getElem?_eq_getElem hj]; rfl
theorem co_cls (n : Int) (t : Nat → Nat → Nat) (xs : List Int) : (coRes n t xs).1.length ≤ 1048576 ∧ ∀ c ∈ (coRes n t xs).1, c.length ≤ 1048576 := by
  unfold coRes
  split
  · rename_i hc
    obtain ⟨N, m, rfl, hl, _⟩ := ls_ok hc
    have := hl.sq.hi
    split
    · split
      · exact ⟨Nat.zero_le _, fun _ h => by cases h⟩
      · rename_i out h
        obtain ⟨h1, _⟩ := cosTo_mem h
        refine ⟨by show (out.map mL).length ≤ _; rw [List.length_map]; simp at h1; omega, fun c hc => ?_⟩
        obtain ⟨o, _, rfl⟩ := List.mem_map.1 (show c ∈ out.map mL from hc)
        have := mL_le o; omega
    · exact ⟨Nat.zero_le _, fun _ h => by cases h⟩
  · exact ⟨Nat.zero_le _, fun _ h => by cases h⟩


set_option maxRecDepth 100000 in
set_option maxHeartbeats 4000000 in
theorem lawCosets_any (n : Int) (t : Nat → Nat → Nat) (hby : Byt2 t) (xs : List Int) (hxl : xs.length ≤ maxLen) (w : World) (hg : glbT w) (p : Option Addr) (cap : Nat) (hr : rdp w p xs.length (intF xs)) :
    Calls Tryd.prog 3 #[.agg (sqs n t), .slice p xs.length cap] w fun e w' => e = .returned (.bool true) ∧ Below w.heap.size w w' := by
  have M := Mm.start no w
  have hxm : xs.length ≤ 9223372036854775807 := hxl
  by_cases hbig : 1048576 < xs.length
  · have hb1 : (1048576 : Int) < (xs.length : Int) := by omega
    clear hby hr hg
    go_enter Tryd.func3, Tryd.ntmps3
    go_wp2_with (first | ((with_reducible apply wpM_box' M 25 (sqs n t)); rfl; exact ⟨rfl, rfl⟩; clear M; (try clear C); intro bq w9 h_bq M; have C := M.ruleAll; simp only [Go.Proofs.YteonahoboligdaaDoor.ruleAll] at C))
    go_ret
    exact ⟨rfl, M.below⟩
  have hxs : xs.length ≤ 1048576 := by omega
  have hxi : ¬ ((1048576 : Int) < (xs.length : Int)) := by omega
  have HSP := Hid2.mk (fun w1 g cap h => specCosets_any n t hby xs (by omega) w1 g cap h)
  have HIM := Hid2.mk (fun w1 (hb : Below w.heap.size w w1) p cap h => implCosets_any n t hby xs (by omega) w1 (hg.later hb) p cap h)
  have HTQ := Hid2.mk (fun w1 => toSquare_any n t w1)
  have HTI := Hid2.mk (fun w1 (hb : Below w.heap.size w w1) => toRow_any xs hxs w1 p cap (hr.later hb))
  have hcl := (co_cls n t xs).1
  have hcs := (co_cls n t xs).2
  clear hby hr hbig hg
  generalize (coRes n t xs).1 = cls at HSP HIM hcl hcs
  generalize (coRes n t xs).2 = code at HSP HIM
  have HEQ := Hid2.mk (fun w1 v1 v2 (h1 : ClsHere w1 v1 cls) (h2 : ClsHere w1 v2 cls) => eqInt64SS_any cls hcl hcs w1 v1 v2 h1 h2)
  have HHD := Hid2.mk (fun w1 v (h : MkHere w1 v 1 cls) => heldInt64SS_any cls hcl hcs v 1 (by omega) (by omega) w1 h)
  have HMK := Hid2.mk (fun vs (hvl : vs.length = cls.length) B v L w0 w1 (hB : w0.heap.size ≤ B) M => markInt64SS_any cls vs hvl hcl hcs B v 1 (by omega) (by omega) L w0 w1 hB M)
  have hcc : (code == code) = true := by simp
  have hcn : (code != code) = false := by simp
  have HX0 : Hid2 (¬ ((1 : Int) + (xs.length : Int) < 0)) := ⟨by omega⟩
  clear hcl hcs
  go_enter Tryd.func3, Tryd.ntmps3
  go_wp2_with (first | ((with_reducible apply wpM_box' M 25 (sqs n t)); rfl; exact ⟨rfl, rfl⟩; clear M; (try clear C); intro bq w9 h_bq M; have C := M.ruleAll; simp only [Go.Proofs.YteonahoboligdaaDoor.ruleAll] at C) | ((with_reducible apply wpM_lda' M 0 25 0 (sqs n t)); rfl; rfl; rfl; exact ⟨rfl, inf_sq0.trans (congrArg some (sqs_size ..).symm), _, und_sq0, rfl⟩; exact whole_of rfl) | (go_at_call 6; ((with_reducible refine (HTQ.out _).mono ?_); rintro e w1 ⟨rfl, hb⟩; have hsz := M.size; (try (have G9 := G.later hb; clear G; have G := G9; clear G9)); have M9 := M.later hb; clear M; (try clear C); have M := M9; clear M9; have C := M.ruleAll; simp only [Go.Proofs.YteonahoboligdaaDoor.ruleAll] at C)) | (go_at_call 7; fail))
  refine (HTI.out _ M.below).mono ?_
  rintro e w2 ⟨g0, rfl, M'⟩
  have M9 := M.joinRow M'
  clear M; (try clear C)
  have M := M9
  clear M9 M'
  go_wp2_with (first | (go_at_call 5; fail))
  refine (HSP.out _ _ _ (row_rds (M.row 0 rfl))).mono ?_
  rintro e wS ⟨vw, rfl, hW, hb⟩
  have M9 := (M.later hb).drop 0
  clear M; (try clear C)
  have HW := Hid2.mk (fun w' (hb : Below wS.heap.size wS w') => hW.later hb)
  have HMW := Hid2.mk M9
  have M : Mm no wS wS [.box bq (sqs n t) 25] := M9.anew
  clear M9 hW hb
  have C := M.ruleAll; simp only [Go.Proofs.YteonahoboligdaaDoor.ruleAll] at C
  go_wp2_with (first | (go_at_call 7; fail))
  refine (HTI.out _ (HMW.out.onto M).below).mono ?_
  rintro e w3 ⟨g1, rfl, M'⟩
  have M9 : Mm no wS w3 [.row wS.heap.size (.slice (some ⟨g1, 0, none⟩) xs.length xs.length) xs.length (i64s xs) 2 1, .box bq (sqs n t) 25] := M.joinRow M'
  clear M; (try clear C)
  have M := M9
  clear M9 M'
  have C := M.ruleAll; simp only [Go.Proofs.YteonahoboligdaaDoor.ruleAll] at C
  go_wp2_with (first | ((with_reducible apply wpM_lda' M 1 25 0 (sqs n t)); rfl; rfl; rfl; exact ⟨rfl, inf_sq0.trans (congrArg some (sqs_size ..).symm), _, und_sq0, rfl⟩; exact whole_of rfl) | (go_at_call 6; ((with_reducible refine (HTQ.out _).mono ?_); rintro e w1 ⟨rfl, hb⟩; have hsz := M.size; (try (have G9 := G.later hb; clear G; have G := G9; clear G9)); have M9 := M.later hb; clear M; (try clear C); have M := M9; clear M9; have C := M.ruleAll; simp only [Go.Proofs.YteonahoboligdaaDoor.ruleAll] at C)) | (go_at_call 8; fail))
  refine (HIM.out _ (HMW.out.onto M).below _ _ (fa_rdq rfl (M.row 0 rfl))).mono ?_
  rintro e w5 ⟨vg, rfl, vsg, hvg, M'⟩
  have M9 := Mm.swap (Ent.row _ vg cls.length vsg 26 1 :: clsE _ 2 vsg cls) [.row wS.heap.size (.slice (some ⟨g1, 0, none⟩) xs.length xs.length) xs.length (i64s xs) 2 1, .box bq (sqs n t) 25] (M.join M' (cls_new M'))
  have hBB : wS.heap.size ≤ w1.heap.size := M.size
  clear M; (try clear C)
  clear M'
  generalize hB9 : w1.heap.size = B at M9 hBB
  clear hB9
  have M : Mm no wS w5 (.row wS.heap.size (.slice (some ⟨g1, 0, none⟩) xs.length xs.length) xs.length (i64s xs) 2 1 :: .box bq (sqs n t) 25 :: (.row B vg cls.length vsg 26 1 :: clsE B 2 vsg cls)) := M9
  clear M9
  have FG : ∀ {w'} {T : List Ent}, Mm no wS w' (T ++ (.row B vg cls.length vsg 26 1 :: clsE B 2 vsg cls)) → ClsHere w' vg cls := fun M => ClsHere.of hvg fun x hx => M.mem (List.mem_append_right _ hx)
  go_wp2_with (first | (go_at_call 9; fail))
  refine (HEQ.out _ _ _ (FG (T := [.row wS.heap.size (.slice (some ⟨g1, 0, none⟩) xs.length xs.length) xs.length (i64s xs) 2 1, .box bq (sqs n t) 25]) M) (HW.out _ M.below)).mono ?_
  rintro e w6 ⟨rfl, hb⟩
  have M9 := M.later hb
  clear M
  have M := M9
  clear M9 hb
  go_wp2_with (first | (go_at_call 7; fail))
  refine (HTI.out _ (HMW.out.onto M).below).mono ?_
  rintro e w7 ⟨g8, rfl, M'⟩
  have M9 := M.later M'.below
  clear M
  have M := M9
  clear M9
  have HQ8 := Hid2.mk (fa_rdq rfl (M'.row 0 rfl))
  clear M'
  go_wp2_with (first | (go_at_call 10; fail))
  refine (eqInt64S_any xs (by omega) _ _ _ _ _ (fa_rdq rfl (M.row 0 rfl)) HQ8.out).mono ?_
  rintro e w8 ⟨rfl, hb⟩
  have M9 := M.later hb
  clear M
  have M := M9
  clear M9 hb
  clear HQ8
  go_wp2_with (first | (go_at_call 11; fail))
  refine (markInt64S_any wS.heap.size _ _ _ 1 (by omega) (by omega) _ (M.row 0 rfl)).mono ?_
  rintro e w9 ⟨rfl, hk, hown⟩
  have M9 := M.rowmark 0 rfl (Nat.le_refl _) hk hown
  simp only [List.set_cons_zero] at M9
  clear M
  have M : Mm no wS w9 (.row wS.heap.size (.slice (some ⟨g1, 0, none⟩) xs.length xs.length) xs.length (mkV 1 xs.length) 2 1 :: .box bq (sqs n t) 25 :: (.row B vg cls.length vsg 26 1 :: clsE B 2 vsg cls)) := M9
  clear M9 hk hown
  have hx0 := HX0.out
  go_wp2_with (first | (go_at_call 9; fail))
  refine (HEQ.out _ _ _ (FG (T := [.row wS.heap.size (.slice (some ⟨g1, 0, none⟩) xs.length xs.length) xs.length (mkV 1 xs.length) 2 1, .box bq (sqs n t) 25]) M) (HW.out _ M.below)).mono ?_
  rintro e w6 ⟨rfl, hb⟩
  have M9 := M.later hb
  clear M
  have M := M9
  clear M9 hb
  clear FG hx0
  have M9 := Mm.swap [.row wS.heap.size (.slice (some ⟨g1, 0, none⟩) xs.length xs.length) xs.length (mkV 1 xs.length) 2 1, .box bq (sqs n t) 25] (.row B vg cls.length vsg 26 1 :: clsE B 2 vsg cls) M
  clear M
  have M : Mm no wS _ (.row B vg cls.length vsg 26 1 :: (clsE B 2 vsg cls ++ [.row wS.heap.size (.slice (some ⟨g1, 0, none⟩) xs.length xs.length) xs.length (mkV 1 xs.length) 2 1, .box bq (sqs n t) 25])) := M9
  clear M9
  go_wp2_with (first | (go_at_call 12; fail))
  refine (HMK.out vsg hvg B vg [.row wS.heap.size (.slice (some ⟨g1, 0, none⟩) xs.length xs.length) xs.length (mkV 1 xs.length) 2 1, .box bq (sqs n t) 25] _ _ hBB M).mono ?_
  rintro e w11 ⟨rfl, M9⟩
  clear M
  have M := M9
  clear M9
  have hq0 : ¬ ((1 : Int) + ((tot cls : Nat) : Int) < 0) := by omega
  have hqq : ((1 : Int) + ((tot cls : Nat) : Int) == 1 + ((tot cls : Nat) : Int)) = true := by simp
  have hqn : ((1 : Int) + ((tot cls : Nat) : Int) != 1 + ((tot cls : Nat) : Int)) = false := by simp
  go_wp2_with (first | (go_at_call 13; fail))
  refine (HHD.out _ _ (MkHere.of hvg M)).mono ?_
  rintro e w12 ⟨rfl, hb⟩
  have M9 := M.later hb
  clear M
  have M := M9
  clear M9 hb
  have M9 := Mm.swap (.row B vg cls.length vsg 26 1 :: clsM B 2 vsg (mkdTo 1 cls cls.length)) [.row wS.heap.size (.slice (some ⟨g1, 0, none⟩) xs.length xs.length) xs.length (mkV 1 xs.length) 2 1, .box bq (sqs n t) 25] M
  clear M
  have M : Mm no wS _ (.row wS.heap.size (.slice (some ⟨g1, 0, none⟩) xs.length xs.length) xs.length (mkV 1 xs.length) 2 1 :: .box bq (sqs n t) 25 :: (.row B vg cls.length vsg 26 1 :: clsM B 2 vsg (mkdTo 1 cls cls.length))) := M9
  clear M9
  have C := M.ruleAll; simp only [Go.Proofs.YteonahoboligdaaDoor.ruleAll] at C
  go_wp2_with (first | ((with_reducible apply wpM_lda' M 1 25 0 (sqs n t)); rfl; rfl; rfl; exact ⟨rfl, inf_sq0.trans (congrArg some (sqs_size ..).symm), _, und_sq0, rfl⟩; exact whole_of rfl) | (go_at_call 6; ((with_reducible refine (HTQ.out _).mono ?_); rintro e w1 ⟨rfl, hb⟩; have hsz := M.size; (try (have G9 := G.later hb; clear G; have G := G9; clear G9)); have M9 := M.later hb; clear M; (try clear C); have M := M9; clear M9; have C := M.ruleAll; simp only [Go.Proofs.YteonahoboligdaaDoor.ruleAll] at C)) | (go_at_call 7; fail))
  refine (HTI.out _ (HMW.out.onto M).below).mono ?_
  rintro e w13 ⟨g9, rfl, M'⟩
  have M9 := M.later M'.below
  clear M; (try clear C)
  have M := M9
  clear M9
  have HQ9 := Hid2.mk (fa_rdq rfl (M'.row 0 rfl))
  clear M'
  go_wp2_with (first | (go_at_call 8; fail))
  refine (HIM.out _ (HMW.out.onto M).below _ _ HQ9.out).mono ?_
  rintro e w14 ⟨vh, rfl, vsh, hvh, M'⟩
  clear HQ9
  have FH : ClsHere w14 vh cls := ClsHere.of hvh fun x hx => M'.mem hx
  have M9 := M.later M'.below
  clear M M'
  have M : Mm no wS w14 (.row wS.heap.size (.slice (some ⟨g1, 0, none⟩) xs.length xs.length) xs.length (mkV 1 xs.length) 2 1 :: .box bq (sqs n t) 25 :: (.row B vg cls.length vsg 26 1 :: clsM B 2 vsg (mkdTo 1 cls cls.length))) := M9
  clear M9
  go_wp2_with (first | (go_at_call 9; fail))
  refine (HEQ.out _ _ _ (FH) (HW.out _ M.below)).mono ?_
  rintro e w6 ⟨rfl, hb⟩
  have M9 := M.later hb
  clear M
  have M := M9
  clear M9 hb
  clear FH
  have M9 := Mm.swap [.row wS.heap.size (.slice (some ⟨g1, 0, none⟩) xs.length xs.length) xs.length (mkV 1 xs.length) 2 1, .box bq (sqs n t) 25] (.row B vg cls.length vsg 26 1 :: clsM B 2 vsg (mkdTo 1 cls cls.length)) M
  clear M
  have M : Mm no wS _ (.row B vg cls.length vsg 26 1 :: (clsM B 2 vsg (mkdTo 1 cls cls.length) ++ [.row wS.heap.size (.slice (some ⟨g1, 0, none⟩) xs.length xs.length) xs.length (mkV 1 xs.length) 2 1, .box bq (sqs n t) 25])) := M9
  clear M9
  go_wp2_with (first | (go_at_call 13; fail))
  refine (HHD.out _ _ (MkHere.of hvg M)).mono ?_
  rintro e w12 ⟨rfl, hb⟩
  have M9 := M.later hb
  clear M
  have M := M9
  clear M9 hb
  go_wp2
  go_ret
  exact ⟨rfl, (HMW.out.onto M).below⟩

end Go.Proofs.YteonahoboligdaaDoor

