/- Sets as lists and their order, for the program: contracts. -/
import Derived.Test.YteonahoboligdaaG3
import Derived.Test.YteonahoboligdaaD0
import Derived.Test.YteonahoboligdaaK21
import Derived.Test.YteonahoboligdaaE9
namespace Go.Proofs.Yteonahoboligdaa
set_option linter.unusedSimpArgs false
set_option linter.unusedVariables false
open Go Go.RowKit

set_option maxRecDepth 100000 in
set_option maxHeartbeats 2000000 in
theorem list_anyD (m : Nat) (hm : m < 1024) (w : World) :
    Calls Try.prog 72 #[.int .i64 (m : Int)] w fun e w' => ∃ v, e = .returned v ∧ w.drawn ≤ w'.drawn ∧ Mm no w w' [.row w.heap.size v (mL m).length (i64N (mL m)) 2 1] := by
  have M := Mm.start no w
  have hdr : w.drawn ≤ w.drawn := Nat.le_refl _
  have hm' : (m : Int) < 1024 := by omega
  have HH := Hid2.mk (fun k (hk : k < 10) w1 => has_any m k hm hk w1)
  have HML : mL m = tdL (fun y => m.testBit y) 10 := rfl
  rw [HML]
  generalize hp : (fun y => m.testBit y) = p at *
  have hpb : ∀ y, m.testBit y = p y := fun y => by rw [← hp]
  simp only [hpb] at HH
  clear hp hpb HML
  go_enter Try.func72, Try.ntmps72
  go_wp2_with (first | ((with_reducible apply wpM_bslD M hdr 33 0 2 ([]) (#[])); rfl; rfl; rfl; exact bsl_n0; clear hdr; clear M; (try clear C); intro bo w9 h_bo hdr M; have C := M.ruleAll; simp only [Go.Proofs.Yteonahoboligdaa.ruleAll] at C))
  have M9 := M.asRow 0 rfl w.heap.size 0 1 h_bo rfl (Nat.zero_le _)
  simp only [List.set_cons_zero, List.set_cons_succ] at M9
  clear M; (try clear C)
  go_loopw [6, 4, 3] (fun i _ o wr => ∃ (k : Nat) (v : Value), k ≤ 10 ∧ i = .int .i64 (k : Int) ∧ o = v ∧ w.drawn ≤ wr.drawn ∧ Mm no w wr [.row w.heap.size v (tdL p k).length (i64N (tdL p k)) 2 1]) (fun i _ _ _ => 10 - (intOf i).toNat)
  case atStart => exact ⟨0, _, by omega, rfl, rfl, hdr, M9⟩
  case round =>
    clear M9 hdr
    obtain ⟨k, v, hk, rfl, rfl, hdr, M9⟩ := hrel
    obtain ⟨pp, cc, rfl⟩ := own_form (M9.row 0 rfl)
    have M := M9
    clear M9
    have C := M.ruleAll; simp only [Go.Proofs.Yteonahoboligdaa.ruleAll] at C
    by_cases hlt : k < 10
    · have hlt' : (k : Int) < 10 := by omega
      have hle : (tdL p k).length ≤ k := by rw [tdL_len]; exact cn_le k p
      have HNt := Hid2.mk (fun h : p k = true => show tdL p (k + 1) = tdL p k ++ [k] from if_pos h)
      have HNf := Hid2.mk (fun h : p k = false => show tdL p (k + 1) = tdL p k from if_neg (by rw [h]; decide))
      have H1 := Hid2.mk (HH.out k hlt)
      generalize tdL p k = out at *
      cases hb : p k with
      | true =>
        rw [hb] at H1
        have HN := Hid2.mk (HNt.out hb)
        clear hb HNt HNf
        go_wp2_with (first | (go_at_call 57; ((with_reducible refine (H1.out _).mono ?_); rintro e w1 ⟨rfl, rfl⟩)) | ((with_reducible apply wpM_bslD M hdr 33 1 2 ([(0, .int .i64 (k : Int))]) (#[.int .i64 (k : Int)])); rfl; rfl; rfl; exact bsl_n1 _; clear hdr; clear M; (try clear C); intro bb w9 h_bb hdr M; have C := M.ruleAll; simp only [Go.Proofs.Yteonahoboligdaa.ruleAll] at C) | ((with_reducible apply wpM_appD M hdr 33 1 0 (w.heap.size) (.slice pp out.length cc) (out.length) (i64N out) 2 1 8); rfl; rfl; rfl; rfl; rfl; rfl; rfl; (first | exact .inl (Nat.le_refl _) | exact .inl (by assumption) | exact .inr (by assumption)); (first | exact M.size | (have hq := M.size; omega)); exact und_sln; exact inf_eln; rfl; decide; decide; rfl; exact rfl; exact flat_n1 _; omega; clear hdr; clear M; (try clear C); intro v2 w9 far_v2 hdr M; simp only [List.set_cons_zero, List.set_cons_succ, entBlk, entT, List.getElem?_cons_zero, List.getElem?_cons_succ] at M; obtain ⟨pp_v2, cap_v2, rfl⟩ := own_form (M.row 1 rfl); have C := M.ruleAll; simp only [Go.Proofs.Yteonahoboligdaa.ruleAll] at C))
        go_roundw
        case rel => exact ⟨k + 1, _, by omega, by go_num, rfl, hdr, by rw [HN.out]; exact (M.sub [1] (by decide)).eq (by rw [i64N_app]; simp only [List.length_append, List.length_singleton]; rfl)⟩
        case measure => simp [intOf]; omega
      | false =>
        rw [hb] at H1
        have HN := Hid2.mk (HNf.out hb)
        clear hb HNt HNf
        go_wp2_with (first | (go_at_call 57; ((with_reducible refine (H1.out _).mono ?_); rintro e w1 ⟨rfl, rfl⟩)))
        go_roundw
        case rel => exact ⟨k + 1, _, by omega, by go_num, rfl, hdr, by rw [HN.out]; exact M⟩
        case measure => simp [intOf]; omega
    · obtain rfl : k = 10 := by omega
      go_wp2
      go_ret
      exact ⟨_, rfl, hdr, M⟩
/-- The comparison of two numbers. -/
def cmpI (x y : Int) : Int := if x < y then -1 else if y < x then 1 else 0
set_option maxRecDepth 100000 in
theorem isNaN_any (x : Int) (w : World) : Calls Try.prog 126 #[.int .i64 x] w fun e w' => e = .returned (.bool false) ∧ w = w' := by
  have h : (x != x) = false := by simp
  go_enter Try.func126, Try.ntmps126
  go_wp2
  go_ret
  exact ⟨by first | rfl | (rw [h]), rfl⟩
set_option maxRecDepth 100000 in
theorem cmpC_any (x y : Int) (w : World) : Calls Try.prog 120 #[.int .i64 x, .int .i64 y] w fun e w' => e = .returned (.int .i64 (cmpI x y)) ∧ w = w' := by
  have H := fun x w1 => isNaN_any x w1
  unfold cmpI
  by_cases h1 : x < y
  · have d1 : decide (x < y) = true := decide_eq_true h1
    rw [if_pos h1]
    go_enter Try.func120, Try.ntmps120
    go_wp2_with (first | (go_at_call 126; ((with_reducible refine (H _ _).mono ?_); rintro e w1 ⟨rfl, rfl⟩)))
    go_ret
    exact ⟨rfl, rfl⟩
  · have d1 : decide (x < y) = false := decide_eq_false h1
    rw [if_neg h1]
    by_cases h2 : y < x
    · have d2 : decide (y < x) = true := decide_eq_true h2
      rw [if_pos h2]
      go_enter Try.func120, Try.ntmps120
      go_wp2_with (first | (go_at_call 126; ((with_reducible refine (H _ _).mono ?_); rintro e w1 ⟨rfl, rfl⟩)))
      go_ret
      exact ⟨rfl, rfl⟩
    · have d2 : decide (y < x) = false := decide_eq_false h2
      rw [if_neg h2]
      go_enter Try.func120, Try.ntmps120
      go_wp2_with (first | (go_at_call 126; ((with_reducible refine (H _ _).mono ?_); rintro e w1 ⟨rfl, rfl⟩)))
      go_ret
      exact ⟨rfl, rfl⟩
set_option maxRecDepth 100000 in
set_option maxHeartbeats 1000000 in
theorem sCompare_any (a b : List Nat) (hl : a.length = b.length) (ha : a.length ≤ 1000) (w : World) (p1 p2 : Option Addr) (c1 c2 : Nat) (h1 : rdq w p1 a.length (i64F a)) (h2 : rdq w p2 b.length (i64F b)) :
    Calls Try.prog 93 #[.slice p1 a.length c1, .slice p2 b.length c2] w fun e w' => e = .returned (.int .i64 (lexC a b)) ∧ w = w' := by
  have F1 := Hid2.mk h1
  have F2 := Hid2.mk h2
  have H := Hid2.mk (fun x y w1 => cmpC_any x y w1)
  have hl1 : a.length ≤ b.length := by omega
  have hl2 : b.length ≤ a.length := by omega
  clear hl
  clear h1 h2
  go_enter Try.func93, Try.ntmps93
  go_wp2
  go_loopw [11, 5, 6, 7, 8] (fun i _ _ _ _ wr => ∃ k : Nat, k ≤ a.length ∧ i = .int .i64 (k : Int) ∧ Hid2 (∀ j, j < k → a[j]? = b[j]?) ∧ wr = w) (fun i _ _ _ _ _ => a.length - (intOf i).toNat)
  case atStart => exact ⟨0, by omega, rfl, ⟨fun j h => by omega⟩, rfl⟩
  case round =>
    obtain ⟨k, hk, rfl, HP, rfl⟩ := hrel
    by_cases hlt : k < a.length
    · have hlt' : (k : Int) < (a.length : Int) := by omega
      have hkb : (k : Int) < (b.length : Int) := by omega
      have dkb : decide ((b.length : Int) ≤ (k : Int)) = false := decide_eq_false (by omega)
      have e1 := List.getElem?_eq_getElem hlt
      have e2 := List.getElem?_eq_getElem (l := b) (show k < b.length by omega)
      generalize a[k] = x at e1
      generalize b[k]'(by omega) = y at e2
      obtain ⟨g1, rfl, r1⟩ := F1.out (by omega)
      obtain ⟨g2, rfl, r2⟩ := F2.out (by omega)
      have hd1 := r1.at_ k hlt
      have hd2 := r2.at_ k (by omega)
      rw [i64F_at e1] at hd1
      rw [i64F_at e2] at hd2
      have HC := Hid2.mk (H.out (x : Int) (y : Int))
      by_cases hxy : x = y
      · have HN := Hid2.mk (show ∀ j, j < k + 1 → a[j]? = b[j]? from fun j hj => if e : j = k then by subst e; rw [e1, e2, hxy] else HP.out j (by omega))
        subst hxy
        have hc0 : cmpI (x : Int) (x : Int) = 0 := by unfold cmpI; rw [if_neg (by omega), if_neg (by omega)]
        rw [hc0] at HC
        clear e1 e2 HP hc0 r1 r2
        go_wp2_with (first | (go_at_call 120; ((with_reducible refine (HC.out _).mono ?_); rintro e w1 ⟨rfl, rfl⟩)))
        go_roundw
        case rel => exact ⟨k + 1, by omega, by go_num, HN, by first | rfl | trivial⟩
        case measure => simp [intOf]; omega
      · have HN := Hid2.mk (show lexC a b = cmpI (x : Int) (y : Int) by
          rw [lexC_at HP.out e1 e2 hxy]
          unfold cmpI
          by_cases h : x < y
          · rw [if_pos h, if_pos (by omega)]
          · rw [if_neg h, if_neg (by omega), if_pos (by omega)])
        have hc0 : cmpI (x : Int) (y : Int) ≠ 0 := by
          unfold cmpI
          by_cases h : x < y
          · rw [if_pos (by omega)]; decide
          · rw [if_neg (by omega), if_pos (by omega)]; decide
        have hd : (cmpI (x : Int) (y : Int) == 0) = false := by simpa using hc0
        have hd' : (cmpI (x : Int) (y : Int) != 0) = true := by rw [bne, hd]; rfl
        clear e1 e2 HP r1 r2
        generalize cmpI (x : Int) (y : Int) = c at *
        go_wp2_with (first | (go_at_call 120; ((with_reducible refine (HC.out _).mono ?_); rintro e w1 ⟨rfl, rfl⟩)))
        go_ret
        exact ⟨by rw [HN.out]; rfl, rfl⟩
    · obtain rfl : k = a.length := by omega
      have hge : ¬ ((a.length : Int) < (a.length : Int)) := by omega
      have hge2 : ¬ ((a.length : Int) < (b.length : Int)) := by omega
      have HN := Hid2.mk (show lexC a b = 0 by
        rw [List.ext_getElem? (l₁ := a) (l₂ := b) fun j => by
          rcases Nat.lt_or_ge j a.length with h1 | h1
          · exact HP.out j h1
          · rw [List.getElem?_eq_none h1, List.getElem?_eq_none (by omega)], lexC_self])
      go_wp2
      go_ret
      exact ⟨by rw [HN.out]; rfl, rfl⟩
/-- The comparison of two sets. -/
def cfS (a b : Nat) : Int := if (mL a).length = (mL b).length then lexC (mL a) (mL b) else ((mL a).length : Int) - ((mL b).length : Int)
set_option maxRecDepth 100000 in
set_option maxHeartbeats 1000000 in
theorem compareSets_any (a b : Nat) (ha : a < 1024) (hb : b < 1024) (w : World) :
    Calls Try.prog 76 #[.int .i64 (a : Int), .int .i64 (b : Int)] w fun e w' => e = .returned (.int .i64 (cfS a b)) ∧ Below w.heap.size w w' ∧ w.drawn ≤ w'.drawn := by
  have M := Mm.start no w
  have ha' : (a : Int) < 1024 := by omega
  have hb' : (b : Int) < 1024 := by omega
  have H1 := Hid2.mk (fun w1 => mL_len a ▸ size_any a ha w1)
  have H2 := Hid2.mk (fun w1 => mL_len b ▸ size_any b hb w1)
  have L1 := Hid2.mk (fun w1 => list_anyD a ha w1)
  have L2 := Hid2.mk (fun w1 => list_anyD b hb w1)
  have hla := mL_le a
  have hlb := mL_le b
  have hla' : ((mL a).length : Int) ≤ 10 := by omega
  have hlb' : ((mL b).length : Int) ≤ 10 := by omega
  unfold cfS
  generalize mL a = la at *
  generalize mL b = lb at *
  by_cases hl : la.length = lb.length
  · have d1 : ((la.length : Int) == (lb.length : Int)) = true := by rw [hl]; simp
    have d2 : ((la.length : Int) != (lb.length : Int)) = false := by rw [bne, d1]; rfl
    rw [if_pos hl]
    have HS := Hid2.mk (fun w1 p1 p2 c1 c2 h1 h2 => sCompare_any la lb hl (by omega) w1 p1 p2 c1 c2 h1 h2)
    generalize lexC la lb = r at HS ⊢
    clear hl
    go_enter Try.func76, Try.ntmps76
    go_wp2_with (first | (go_at_call 59; (first | ((with_reducible refine (H1.out _).mono ?_); rintro e w1 ⟨rfl, rfl⟩) | ((with_reducible refine (H2.out _).mono ?_); rintro e w1 ⟨rfl, rfl⟩))) | (go_at_call 72; fail))
    refine (L1.out _).mono ?_
    rintro e w1 ⟨v1, rfl, hd1, M'⟩
    have M9 := M.joinRow M'
    obtain ⟨p1, c1, rfl⟩ := own_form (M9.row 0 rfl)
    clear M; (try clear C)
    have M := M9
    clear M9 M'
    go_wp2_with (first | (go_at_call 72; fail))
    refine (L2.out _).mono ?_
    rintro e w2 ⟨v2, rfl, hd2, M'⟩
    have M9 := M.joinRow M'
    obtain ⟨p2, c2, rfl⟩ := own_form (M9.row 0 rfl)
    clear M; (try clear C)
    have M := M9
    clear M9 M'
    have q1 := rdq_of_own (M.row 1 rfl)
    have q2 := rdq_of_own (M.row 0 rfl)
    rw [Nat.mul_one] at q1 q2
    have HS2 := Hid2.mk (HS.out _ p1 p2 c1 c2 (rdq.congr q1 fun j hj => i64N_at hj) (rdq.congr q2 fun j hj => i64N_at hj))
    have HB := Hid2.mk M.below
    clear q1 q2 HS L1 L2
    go_wp2_with (first | (go_at_call 93; ((with_reducible refine HS2.out.mono ?_); rintro e w1 ⟨rfl, rfl⟩)))
    go_ret
    exact ⟨rfl, HB.out, Nat.le_trans hd1 hd2⟩
  · have d1 : ((la.length : Int) == (lb.length : Int)) = false := neqI hl
    have d2 : ((la.length : Int) != (lb.length : Int)) = true := by rw [bne, d1]; rfl
    rw [if_neg hl]
    go_enter Try.func76, Try.ntmps76
    go_wp2_with (first | (go_at_call 59; (first | ((with_reducible refine (H1.out _).mono ?_); rintro e w1 ⟨rfl, rfl⟩) | ((with_reducible refine (H2.out _).mono ?_); rintro e w1 ⟨rfl, rfl⟩))))
    go_ret
    exact ⟨rfl, Below.refl _ _, Nat.le_refl _⟩
end Go.Proofs.Yteonahoboligdaa
