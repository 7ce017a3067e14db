/- The reference's checks of a list and of a normal subloop, and the classes of a congruence with a frame: contracts. -/
import Derived.Test.YteonahoboligdaaDoorG38
namespace Go.Proofs.YteonahoboligdaaDoor
set_option linter.unusedSimpArgs false
set_option linter.unusedVariables false
open Go Go.RowKit

/-- The code of a list. -/
def setC (n : Int) (xs : List Int) : Int := if setB n xs = true then 0 else 2
theorem setC_f {n : Int} {xs : List Int} (h : setB n xs = false) : setC n xs = 2 := by unfold setC; rw [h]; rfl
theorem setC_t {n : Int} {xs : List Int} (h : setB n xs = true) : setC n xs = 0 := by unfold setC; rw [h]; rfl
set_option maxRecDepth 100000 in
set_option maxHeartbeats 2000000 in
theorem l06List_any (n : Int) (t : Nat → Nat → Nat) (h1 : 1 ≤ n) (h2 : n ≤ 10) (HLP : Hid2 (∀ w1, Calls Tryd.prog 33 #[.agg (sqs n t)] w1 fun e w' => e = .returned (.bool true) ∧ Below w1.heap.size w1 w')) (xs : List Int) (hlen : xs.length ≤ 10000000) (w : World) (p : Option Addr) (cap : Nat) (hr : rdq w p xs.length (intF xs)) :
    Calls Tryd.prog 27 #[.agg (sqs n t), .slice p xs.length cap] w fun e w' => e = .returned (.int .i64 (setC n xs)) ∧ Below w.heap.size w w' := by
  have M := Mm.start no w
  have so := sqs_order n t
  have F1 := Hid2.mk (fun w1 (hb : Below w.heap.size w w1) => hr.later hb)
  have hw := wrap_small (n - 1) (by omega) (by omega)
  clear hr
  go_enter Tryd.func27, Tryd.ntmps27
  go_wp2_with (first | ((with_reducible apply wpM_box' M 32 (sqs n t)); rfl; exact ⟨rfl, rfl⟩; clear M; (try clear C); intro bq w9 h_bq M; have C := M.ruleAll; simp only [Go.Proofs.YteonahoboligdaaDoor.ruleAll] at C) | ((with_reducible apply wpM_lda' M 0 32 0 (sqs n t)); rfl; rfl; rfl; exact ⟨rfl, inf_sqs.trans (congrArg some (sqs_size ..).symm), _, und_sqs, rfl⟩; exact whole_of rfl) | (go_at_call 33; ((with_reducible refine (HLP.out _).mono ?_); rintro e w1 ⟨rfl, hb⟩; have hsz := M.size; (try (have G9 := G.later hb; clear G; have G := G9; clear G9)); have M9 := M.later hb; clear M; (try clear C); have M := M9; clear M9; have C := M.ruleAll; simp only [Go.Proofs.YteonahoboligdaaDoor.ruleAll] at C)))
  go_loopw [5] (fun i wr => ∃ k : Nat, k ≤ xs.length ∧ i = .int .i64 (k : Int) ∧ (∀ j, j < k → setOk n xs j = true) ∧ Mm no w wr [.box bq (sqs n t) 32]) (fun i _ => xs.length - (intOf i).toNat)
  case atStart => exact ⟨0, by omega, rfl, fun j h => by omega, M⟩
  case round =>
    obtain ⟨k, hk, rfl, hl, M9⟩ := hrel
    clear M; (try clear C)
    have M := M9
    clear M9
    have C := M.ruleAll; simp only [Go.Proofs.YteonahoboligdaaDoor.ruleAll] at C
    have HL := Hid2.mk hl
    clear hl
    by_cases hlt : k < xs.length
    · have hlt' : (k : Int) < (xs.length : Int) := by omega
      obtain ⟨g, rfl, _⟩ := F1.out _ M.below (by omega)
      have hcell : ∀ j, j < xs.length → ∀ w1, Below w.heap.size w w1 → w1.cell? ⟨g, j, none⟩ = some (.int .i64 (elI xs j)) := fun j hj w1 hb => by
        obtain ⟨g', e, hr⟩ := F1.out w1 hb (by omega)
        cases e
        exact hr.at_ j hj
      have HF := Hid2.mk (fun h => @setB_fails n xs k hlt h)
      have HN := Hid2.mk (show setOk n xs k = true → ∀ j, j < k + 1 → setOk n xs j = true from fun h j h1 => by
        rcases Nat.lt_or_eq_of_le (Nat.lt_succ_iff.1 h1) with h2 | rfl
        · exact HL.out j h2
        · exact h)
      have hok : setOk n xs k = (decide (0 ≤ elI xs k) && decide (elI xs k ≤ n - 1) && (decide (k = 0) || decide (elI xs (k - 1) < elI xs k))) := rfl
      have HC := Hid2.mk (fun w1 hb => hcell k hlt w1 hb)
      by_cases hin : 0 ≤ elI xs k ∧ elI xs k ≤ n - 1
      · have H := fun w1 => l01In_b (elI xs k) 0 (n - 1) true (by simp only [true_iff]; exact hin) w1
        by_cases hk0 : k = 0
        · subst hk0
          have HOK := Hid2.mk (show setOk n xs 0 = true by rw [hok]; simp [hin])
          generalize elI xs 0 = x at HC H
          clear hok hin hcell
          go_wp2
          apply wp_region_mm M 22 (by kernel_rfl) (by kernel_rfl)
          · simp only [List.take_succ_cons, List.take_zero]
            repeat (first | exact wpText_nil | (apply wpText_cons; (intro w2 M; have C := M.ruleAll; simp only [Go.Proofs.YteonahoboligdaaDoor.ruleAll] at C; have hc0 := HC.out _ M.below; go_wp2_with (first | (go_at_call 49; ((with_reducible refine (H _).mono ?_); rintro e w1 ⟨rfl, rfl⟩))); exact ⟨rfl, rfl, M⟩); rfl))
          clear M; (try clear C)
          intro w2 M
          simp only [List.drop_succ_cons, List.drop_zero]
          have C := M.ruleAll; simp only [Go.Proofs.YteonahoboligdaaDoor.ruleAll] at C
          go_wp2
          go_roundw
          case rel => exact ⟨1, by omega, by go_num, HN.out HOK.out, M⟩
          case measure => simp [intOf]; omega
        · obtain ⟨j, rfl⟩ : ∃ j, k = j + 1 := ⟨k - 1, by omega⟩
          have HC1 := Hid2.mk (fun w1 hb => hcell j (by omega) w1 hb)
          have hj1 : (j : Int) < (xs.length : Int) := by omega
          have hw1 : wrap64 (j : Int) = (j : Int) := wrap_small _ (by omega) (by omega)
          have hjp : (0 : Int) < (j : Int) + 1 := by omega
          by_cases hlt2 : elI xs j < elI xs (j + 1)
          · have HOK := Hid2.mk (show setOk n xs (j + 1) = true by rw [hok]; simp [hin, hlt2])
            generalize elI xs (j + 1) = x at HC H hlt2
            generalize elI xs j = y at HC1 hlt2
            have hd : decide (x ≤ y) = false := decide_eq_false (by omega)
            clear hok hin hcell
            go_wp2
            apply wp_region_mm M 22 (by kernel_rfl) (by kernel_rfl)
            · simp only [List.take_succ_cons, List.take_zero]
              repeat (first | exact wpText_nil | (apply wpText_cons; (intro w2 M; have C := M.ruleAll; simp only [Go.Proofs.YteonahoboligdaaDoor.ruleAll] at C; have hc0 := HC.out _ M.below; have hc1 := HC1.out _ M.below; go_wp2_with (first | (go_at_call 49; ((with_reducible refine (H _).mono ?_); rintro e w1 ⟨rfl, rfl⟩))); exact ⟨rfl, rfl, M⟩); rfl))
            clear M; (try clear C)
            intro w2 M
            simp only [List.drop_succ_cons, List.drop_zero]
            have C := M.ruleAll; simp only [Go.Proofs.YteonahoboligdaaDoor.ruleAll] at C
            go_wp2
            exact ⟨⟨j + 1 + 1, by omega, by go_num, HN.out HOK.out, M⟩, by simp [intOf]; omega⟩
          · have HOK := Hid2.mk (HF.out (show setOk n xs (j + 1) = false by rw [hok]; simp [hlt2]))
            generalize elI xs (j + 1) = x at HC H hlt2
            generalize elI xs j = y at HC1 hlt2
            have hd : decide (x ≤ y) = true := decide_eq_true (by omega)
            clear hok hin hcell
            go_wp2
            apply wp_region_mm M 22 (by kernel_rfl) (by kernel_rfl)
            · simp only [List.take_succ_cons, List.take_zero]
              repeat (first | exact wpText_nil | (apply wpText_cons; (intro w2 M; have C := M.ruleAll; simp only [Go.Proofs.YteonahoboligdaaDoor.ruleAll] at C; have hc0 := HC.out _ M.below; have hc1 := HC1.out _ M.below; go_wp2_with (first | (go_at_call 49; ((with_reducible refine (H _).mono ?_); rintro e w1 ⟨rfl, rfl⟩))); exact ⟨rfl, rfl, M⟩); rfl))
            clear M; (try clear C)
            intro w2 M
            simp only [List.drop_succ_cons, List.drop_zero]
            have C := M.ruleAll; simp only [Go.Proofs.YteonahoboligdaaDoor.ruleAll] at C
            go_wp2
            go_ret
            exact ⟨by rw [setC_f HOK.out]; rfl, M.below⟩
      · have hf : setOk n xs k = false := by
          rw [hok]
          by_cases h3 : 0 ≤ elI xs k
          · have h4 : ¬ elI xs k ≤ n - 1 := fun h => hin ⟨h3, h⟩
            simp [h4]
          · simp [h3]
        have H := fun w1 => l01In_b (elI xs k) 0 (n - 1) false (by simp only [Bool.false_eq_true, false_iff]; exact hin) w1
        generalize elI xs k = x at HC H
        clear hok hin hcell
        have HFF := Hid2.mk (HF.out hf)
        clear hf
        go_wp2
        apply wp_region_mm M 22 (by kernel_rfl) (by kernel_rfl)
        · simp only [List.take_succ_cons, List.take_zero]
          repeat (first | exact wpText_nil | (apply wpText_cons; (intro w2 M; have C := M.ruleAll; simp only [Go.Proofs.YteonahoboligdaaDoor.ruleAll] at C; have hc0 := HC.out _ M.below; go_wp2_with (first | (go_at_call 49; ((with_reducible refine (H _).mono ?_); rintro e w1 ⟨rfl, rfl⟩))); exact ⟨rfl, rfl, M⟩); rfl))
        clear M; (try clear C)
        intro w2 M
        simp only [List.drop_succ_cons, List.drop_zero]
        have C := M.ruleAll; simp only [Go.Proofs.YteonahoboligdaaDoor.ruleAll] at C
        go_wp2
        go_ret
        exact ⟨by rw [setC_f HFF.out]; rfl, M.below⟩
    · obtain rfl : k = xs.length := by omega
      have hge : ¬ ((xs.length : Int) < (xs.length : Int)) := by omega
      go_wp2
      go_ret
      exact ⟨by rw [setC_t (setB_all HL.out)]; rfl, M.below⟩

set_option maxRecDepth 100000 in
set_option maxHeartbeats 1000000 in
theorem l06ListC_any (n : Int) (t : Nat → Nat → Nat) (hby : Byt2 t) (xs : List Int) (hlen : xs.length ≤ 10000000) (w : World) (p : Option Addr) (cap : Nat) (hr : rdq w p xs.length (intF xs)) :
    Calls Tryd.prog 27 #[.agg (sqs n t), .slice p xs.length cap] w fun e w' => e = .returned (.int .i64 (lsCode n t xs)) ∧ Below w.heap.size w w' := by
  have M := Mm.start no w
  have H1 := Hid2.mk (fun w1 => l01Loop_any n t w1 hby)
  unfold lsCode
  cases hl : isLp n t with
  | false =>
    rw [hl] at H1
    rw [if_neg (by decide)]
    clear hby hl
    go_enter Tryd.func27, Tryd.ntmps27
    go_wp2_with (first | ((with_reducible apply wpM_box' M 32 (sqs n t)); rfl; exact ⟨rfl, rfl⟩; clear M; (try clear C); intro bq w9 h_bq M; have C := M.ruleAll; simp only [Go.Proofs.YteonahoboligdaaDoor.ruleAll] at C) | ((with_reducible apply wpM_lda' M 0 32 0 (sqs n t)); rfl; rfl; rfl; exact ⟨rfl, inf_sqs.trans (congrArg some (sqs_size ..).symm), _, und_sqs, rfl⟩; exact whole_of rfl) | (go_at_call 33; ((with_reducible refine (H1.out _).mono ?_); rintro e w1 ⟨rfl, hb⟩; have hsz := M.size; (try (have G9 := G.later hb; clear G; have G := G9; clear G9)); have M9 := M.later hb; clear M; (try clear C); have M := M9; clear M9; have C := M.ruleAll; simp only [Go.Proofs.YteonahoboligdaaDoor.ruleAll] at C)))
    go_ret
    exact ⟨rfl, M.below⟩
  | true =>
    obtain ⟨N, rfl, hs⟩ := lp_natG hl
    rw [hl] at H1
    rw [if_pos rfl]
    exact l06List_any (N : Int) t hs.lo hs.hi H1 xs hlen w p cap hr

end Go.Proofs.YteonahoboligdaaDoor

/- The reference's check of a normal subloop: a contract. -/
namespace Go.Proofs.YteonahoboligdaaDoor
set_option linter.unusedSimpArgs false
set_option linter.unusedVariables false
open Go Go.RowKit

set_option maxRecDepth 100000 in
set_option maxHeartbeats 1000000 in
theorem l06Normal_any (n : Nat) (t : Nat → Nat → Nat) (hl : Loo n t) (m : Nat) (hm : m < 1024) (hmb : ∀ i, m.testBit i = true → i < n) (w : World) (g cap : Nat) (hr : rds w g (mL m).length (i64F (mL m))) :
    Calls Tryd.prog 28 #[.agg (sqs (n : Int) t), .slice (some ⟨g, 0, none⟩) (mL m).length cap] w fun e w' => e = .returned (.bool (norM n t m == m)) ∧ Below w.heap.size w w' := by
  have M := Mm.start no w
  have hlm := mL_le m
  by_cases hp : 0 < (mL m).length
  · have hp' : (0 : Int) < ((mL m).length : Int) := by omega
    have H1 := Hid2.mk (fun w1 (hb : Below w.heap.size w w1) => l06Closure_any n t hl m hmb (mL m) (by omega) (fun i => (mL_mem hm).symm) w1 g cap (hr.lat hb))
    have H2 := Hid2.mk (fun w1 g1 c1 h1 (hb : Below w.heap.size w w1) => l01Same2_any (mL (norM n t m)) (mL m) (by have := mL_le (norM n t m); omega) (by omega) w1 g1 c1 g cap h1 (hr.lat hb))
    rw [show decide (mL (norM n t m) = mL m) = (norM n t m == m) by
      rw [Bool.eq_iff_iff, decide_eq_true_iff, beq_iff_eq]
      exact ⟨fun h => mL_inj (norM_lt n t m) hm h, fun h => by rw [h]⟩] at H2
    unfold ClosPost at H1
    generalize (norM n t m == m) = r at *
    generalize mL (norM n t m) = l1 at *
    generalize mL m = l at *
    have hd : decide (0 < l.length) = true := decide_eq_true hp
    clear hl hmb hr
    go_enter Tryd.func28, Tryd.ntmps28
    go_wp2_with (first | ((with_reducible apply wpM_box' M 32 (sqs (n : Int) t)); rfl; exact ⟨rfl, rfl⟩; clear M; (try clear C); intro bq w9 h_bq M; have C := M.ruleAll; simp only [Go.Proofs.YteonahoboligdaaDoor.ruleAll] at C) | (refine wpList_load_part_g 32 _ rfl rfl (bq) (0) rfl (sqs (n : Int) t) _ und_sqs rfl inf_sqs (cells_of_blk0 (M.box 0 rfl)) ?_) | (go_at_call 50; fail))
    refine (H1.out _ M.below).mono ?_
    rintro e w2 ⟨g1, c1, rfl, _, hr1, hb⟩
    have M9 := M.later hb
    clear M; (try clear C)
    have M := M9
    clear M9 hb
    have HR1 := Hid2.mk hr1
    clear hr1
    go_wp2_with (first | (go_at_call 38; ((with_reducible refine (H2.out _ g1 c1 HR1.out M.below).mono ?_); rintro e w1 ⟨rfl, hb⟩; have hsz := M.size; (try (have G9 := G.later hb; clear G; have G := G9; clear G9)); have M9 := M.later hb; clear M; (try clear C); have M := M9; clear M9; have C := M.ruleAll; simp only [Go.Proofs.YteonahoboligdaaDoor.ruleAll] at C)))
    go_ret
    exact ⟨rfl, M.below⟩
  · have hz : (mL m).length = 0 := by omega
    have hr0 : (norM n t m == m) = false := by
      rw [beq_eq_false_iff_ne]
      intro h
      have h0 := (norM_nrm hl hmb).clo.zero
      rw [h] at h0
      have := List.length_pos_of_mem ((mL_mem hm).2 h0)
      omega
    rw [hr0, hz]
    clear hl hmb hr hp hz hr0
    go_enter Tryd.func28, Tryd.ntmps28
    go_wp2_with (first | ((with_reducible apply wpM_box' M 32 (sqs (n : Int) t)); rfl; exact ⟨rfl, rfl⟩; clear M; (try clear C); intro bq w9 h_bq M; have C := M.ruleAll; simp only [Go.Proofs.YteonahoboligdaaDoor.ruleAll] at C))
    go_ret
    exact ⟨rfl, M.below⟩

end Go.Proofs.YteonahoboligdaaDoor

/- The classes of a congruence, as the reference makes them, with a frame: a contract. -/
namespace Go.Proofs.YteonahoboligdaaDoor
set_option linter.unusedSimpArgs false
set_option linter.unusedVariables false
open Go Go.RowKit

/-! ### The classes, with a frame -/
def ClPostX (n : Nat) (t : Nat → Nat → Nat) (m : Nat) (w0 : World) (X : List Ent) (e : Ending) (w' : World) : Prop :=
  ∃ f : Nat → Nat, e = .returned (.agg (n10 f)) ∧ (∀ x, f x < n) ∧ (∀ x y, x < n → y < n → (f x = f y ↔ Cng n t m x y)) ∧ Mm no w0 w' X
theorem ClPostX.mk {n : Nat} {t : Nat → Nat → Nat} {m : Nat} {w0 w' : World} {X : List Ent} {f : Nat → Nat} (h : (∀ x, f x < n) ∧ ∀ x y, x < n → y < n → (f x = f y ↔ Cng n t m x y)) (M : Mm no w0 w' X) : ClPostX n t m w0 X (.returned (.agg (n10 f))) w' := ⟨f, rfl, h.1, h.2, M⟩

set_option maxRecDepth 100000 in
set_option maxHeartbeats 8000000 in
theorem l06ClassesX_any (n : Nat) (t : Nat → Nat → Nat) (hl : Loo n t) (m : Nat) (hm : ∀ i, m.testBit i = true → i < n) (Ps : List (Nat × Nat)) (hlen : Ps.length ≤ 20) (h1 : ∀ p ∈ Ps, Cng n t m p.1 p.2) (h2 : ∀ i, m.testBit i = true → (0, i) ∈ Ps) (X : List Ent) (w0 w : World) (v : Value)
    (M0 : Mm no w0 w (.row w0.heap.size v Ps.length (rowC pr2 Ps) 79 2 :: X)) :
    Calls Tryd.prog 52 #[.agg (sqs (n : Int) t), v] w (ClPostX n t m w0 X) := by
  have M := M0
  have hs := hl.sq
  have hn : n ≤ 10 := by have := hs.hi; omega
  have h1n : (1 : Int) ≤ n := hs.lo
  have hn' : (n : Int) ≤ 10 := by omega
  obtain ⟨pp, cap, rfl⟩ := own_form (M.row 0 rfl)
  have HC0 := Hid2.mk (Cls.start hl (m := m) h1 h2)
  have HHIT := Hid2.mk (fun f Qs k p (V : Cls n t m Ps.length f Qs k) (hp : Qs[k]? = some p) (h : f p.1 = f p.2) => V.hit hp h)
  have HMER := Hid2.mk (fun f Qs k p (V : Cls n t m Ps.length f Qs k) (hp : Qs[k]? = some p) (h : f p.1 ≠ f p.2) => V.merge hl hm hp h)
  have HRAN := Hid2.mk (fun f Qs k p (V : Cls n t m Ps.length f Qs k) (hp : Qs[k]? = some p) => V.range hl hm hp)
  have HEND := Hid2.mk (fun f Qs (V : Cls n t m Ps.length f Qs Qs.length) => (⟨V.lt, fun x y hx hy => V.end_ hl hm x y hx hy⟩ : (∀ x, f x < n) ∧ ∀ x y, x < n → y < n → (f x = f y ↔ Cng n t m x y)))
  have HLT := Hid2.mk (fun x y (hx : x < n) (hy : y < n) => hl.lt hx hy)
  have HNN : 2 * n * n ≤ 200 := Nat.mul_le_mul (show 2 * n ≤ 20 by omega) hn
  have so := sqs_order (n : Int) t
  have hz := zero_i10
  have hbd := build_i10
  clear M0 h1 h2 hl hm hs
  go_enter Tryd.func52, Tryd.ntmps52
  go_wp2_with (first | ((with_reducible apply wpM_box' M 32 (sqs (n : Int) t)); rfl; exact ⟨rfl, rfl⟩; clear M; (try clear C); intro bq w9 h_bq M; have C := M.ruleAll; simp only [Go.Proofs.YteonahoboligdaaDoor.ruleAll] at C) | ((fail_if_success have := h_bo1); ((with_reducible apply wpM_alloc' M 63 (n10 fun _ => 0)); rfl; exact ⟨rfl, _, zero_i10 _, rfl⟩; clear M; (try clear C); intro bo1 w9 h_bo1 M; have C := M.ruleAll; simp only [Go.Proofs.YteonahoboligdaaDoor.ruleAll] at C)) | ((with_reducible apply wpM_alloc' M 63 (n10 fun _ => 0)); rfl; exact ⟨rfl, _, zero_i10 _, rfl⟩; clear M; (try clear C); intro bo w9 h_bo M; have C := M.ruleAll; simp only [Go.Proofs.YteonahoboligdaaDoor.ruleAll] at C) | (refine wpList_build 63 _ rfl rfl [] rfl _ (build_i10 _) ?_) | ((with_reducible apply wpM_sta' M 0 63 (n10 fun _ => 0)); rfl; rfl; rfl; rfl; (first | exact .inl (by assumption) | exact .inr rfl | exact .inr (by assumption)); exact ⟨rfl, inf_i10.trans (congrArg some (n10_size ..).symm), flat_n10 _⟩; (simp only [entCells, List.getElem?_cons_zero, List.getElem?_cons_succ, n10_size, n10_size]); clear M; (try clear C); intro w9 M; simp only [List.set_cons_zero, List.set_cons_succ, entBlk, entT, List.getElem?_cons_zero, List.getElem?_cons_succ] at M; have C := M.ruleAll; simp only [Go.Proofs.YteonahoboligdaaDoor.ruleAll] at C))
  clear hz hbd
  go_loopw [6] (fun i wr => ∃ k : Nat, k ≤ n ∧ i = .int .i64 (k : Int) ∧ Mm no w0 wr (.box bo (n10 (idc k)) 63 :: .box bo1 (n10 fun _ => 0) 63 :: .box bq (sqs (n : Int) t) 32 :: .row w0.heap.size (.slice pp Ps.length cap) Ps.length (rowC pr2 Ps) 79 2 :: X)) (fun i _ => n - (intOf i).toNat)
  case atStart => exact ⟨0, by omega, rfl, M.eq (by rw [idc_zero])⟩
  case round =>
    obtain ⟨k, hk, rfl, M9⟩ := hrel
    clear M; (try clear C)
    have M := M9
    clear M9
    have C := M.ruleAll; simp only [Go.Proofs.YteonahoboligdaaDoor.ruleAll] at C
    by_cases hlt : k < n
    · have hlt' : (k : Int) < (n : Int) := by omega
      have hk10 : (k : Int) < 10 := by omega
      have HS := Hid2.mk (idc_set k)
      go_wp2_with (first | ((with_reducible apply wpM_st' M 0 2 (k) (n10 (idc (k + 1)))); rfl; rfl; rfl; (first | exact .inl (by assumption) | exact .inr rfl | exact .inr (by assumption)); exact ⟨rfl, rfl, by kernel_rfl⟩; (exact Nat.lt_of_lt_of_eq (by omega) (n10_size _).symm); exact HS.out; clear M; (try clear C); intro w9 M; simp only [List.set_cons_zero, List.set_cons_succ, entBlk, entT, List.getElem?_cons_zero, List.getElem?_cons_succ] at M; have C := M.ruleAll; simp only [Go.Proofs.YteonahoboligdaaDoor.ruleAll] at C))
      go_roundw
      case rel => exact ⟨k + 1, by omega, by go_num, M⟩
      case measure => simp [intOf]; omega
    · obtain rfl : n = k := by omega
      have hge : ¬ ((n : Int) < (n : Int)) := by omega
      generalize idc n = f0 at *
      generalize hPs : rowC pr2 Ps = cs0 at *
      generalize hP0 : Ps.length = p0 at *
      go_wp2
      go_loopw [1, 7, 8, 9, 10, 11, 12, 13] (fun v i _ _ _ _ _ _ wr => ∃ (f : Nat → Nat) (Qs : List (Nat × Nat)) (pp : Option Addr) (cap j : Nat), v = .slice pp Qs.length cap ∧ i = .int .i64 (j : Int) ∧ Hid2 (Cls n t m p0 f Qs j) ∧ Mm no w0 wr (.box bo (n10 f) 63 :: .box bo1 (n10 fun _ => 0) 63 :: .box bq (sqs (n : Int) t) 32 :: .row w0.heap.size (.slice pp Qs.length cap) Qs.length (rowC pr2 Qs) 79 2 :: X)) (fun _ i _ _ _ _ _ _ _ => 300 - (intOf i).toNat)
      case atStart => exact ⟨f0, Ps, pp, cap, 0, by rw [hP0], rfl, HC0, M.eq (by rw [hP0, hPs])⟩
      case round =>
        clear HC0 hPs M hlt hge
        obtain ⟨f, Qs, pp, cap, j, rfl, rfl, HV, MW⟩ := hrel
        have hQl : Qs.length ≤ 220 := by have := HV.out.len; omega
        have hjl := HV.out.kl
        have M := MW.anew
        have HMW := Hid2.mk MW
        clear MW
        by_cases hlt : j < Qs.length
        · have hlt' : (j : Int) < (Qs.length : Int) := by omega
          have e1 := List.getElem?_eq_getElem hlt
          obtain ⟨⟨x, y⟩, hp⟩ : ∃ p, Qs[j]? = some p := ⟨_, e1⟩
          clear e1
          obtain ⟨hx, hy⟩ := HRAN.out f Qs j _ HV.out hp
          obtain ⟨hpf0, hpf1⟩ := pr2_at hp
          obtain ⟨pf, hpf⟩ : ∃ pf : Nat → Value, ∀ i, (rowC pr2 Qs).getD i undef = pf i := ⟨_, fun _ => rfl⟩
          rw [hpf] at hpf0 hpf1
          obtain ⟨g, cg, e, M9⟩ := M.rowRdF 3 rfl (by omega) pf hpf
          cases e
          simp only [List.set_cons_zero, List.set_cons_succ] at M9
          clear M; (try clear C)
          have M := M9
          clear M9 hpf
          simp only at hx hy hpf0 hpf1
          have hx' : (x : Int) < 10 := by omega
          have hy' : (y : Int) < 10 := by omega
          have hb0 : j * 2 < Qs.length * 2 := by omega
          have hb1 : j * 2 + 1 < Qs.length * 2 := by omega
          have q1 := n10_get (f := f) (i := x) (by omega)
          have q2 := n10_get (f := f) (i := y) (by omega)
          have hfa := HV.out.lt x
          have hfb := HV.out.lt y
          by_cases hne : f x = f y
          · have HN := Hid2.mk (HHIT.out f Qs j _ HV.out hp hne)
            rw [← hne] at q2
            have hd : ((f x : Int) == (f x : Int)) = true := by simp
            clear hp hne HV
            generalize f x = a at *
            have C := M.ruleAll; simp only [Go.Proofs.YteonahoboligdaaDoor.ruleAll] at C
            go_wp2
            apply wp_region_mm M 11 (by kernel_rfl) (by kernel_rfl); (simp only [List.take_succ_cons, List.take_zero]; repeat (first | exact wpText_nil | (apply wpText_cons; (intro w2 M; have C := M.ruleAll; simp only [Go.Proofs.YteonahoboligdaaDoor.ruleAll] at C; go_wp2; exact ⟨rfl, rfl, M⟩); rfl))); (clear M; (try clear C); intro w2 M; simp only [List.drop_succ_cons, List.drop_zero]; have C := M.ruleAll; simp only [Go.Proofs.YteonahoboligdaaDoor.ruleAll] at C)
            go_wp2
            apply wp_region_mm M 7 (by kernel_rfl) (by kernel_rfl); (simp only [List.take_succ_cons, List.take_zero]; repeat (first | exact wpText_nil | (apply wpText_cons; (intro w2 M; have C := M.ruleAll; simp only [Go.Proofs.YteonahoboligdaaDoor.ruleAll] at C; go_wp2; exact ⟨rfl, rfl, M⟩); rfl))); (clear M; (try clear C); intro w2 M; simp only [List.drop_succ_cons, List.drop_zero]; have C := M.ruleAll; simp only [Go.Proofs.YteonahoboligdaaDoor.ruleAll] at C)
            go_wp2
            have M8 := HMW.out.later M.below
            go_roundw
            case rel => exact ⟨f, Qs, _, _, j + 1, rfl, by go_num, HN, M8⟩
            case measure => simp [intOf]; omega
          · have HN := Hid2.mk (HMER.out f Qs j _ HV.out hp hne)
            have hd : ((f x : Int) == (f y : Int)) = false := neqI hne
            have HM0 := Hid2.mk (mrg_zero f (f x) (f y))
            have HMS := Hid2.mk (fun l => mrg_self f (f x) (f y) l)
            have HMH := Hid2.mk (fun l (h : f l = f y) => mrg_hit (f := f) (a := f x) (b := f y) (l := l) h)
            have HMM := Hid2.mk (fun l (h : f l ≠ f y) => mrg_miss (f := f) (a := f x) (b := f y) (l := l) h)
            simp only at HN
            clear hp hne HV
            generalize f x = a at *
            generalize f y = b at *
            have C := M.ruleAll; simp only [Go.Proofs.YteonahoboligdaaDoor.ruleAll] at C
            go_wp2
            apply wp_region_mm M 11 (by kernel_rfl) (by kernel_rfl); (simp only [List.take_succ_cons, List.take_zero]; repeat (first | exact wpText_nil | (apply wpText_cons; (intro w2 M; have C := M.ruleAll; simp only [Go.Proofs.YteonahoboligdaaDoor.ruleAll] at C; go_wp2; exact ⟨rfl, rfl, M⟩); rfl))); (clear M; (try clear C); intro w2 M; simp only [List.drop_succ_cons, List.drop_zero]; have C := M.ruleAll; simp only [Go.Proofs.YteonahoboligdaaDoor.ruleAll] at C)
            go_wp2
            apply wp_region_mm M 7 (by kernel_rfl) (by kernel_rfl); (simp only [List.take_succ_cons, List.take_zero]; repeat (first | exact wpText_nil | (apply wpText_cons; (intro w2 M; have C := M.ruleAll; simp only [Go.Proofs.YteonahoboligdaaDoor.ruleAll] at C; go_wp2; exact ⟨rfl, rfl, M⟩); rfl))); (clear M; (try clear C); intro w2 M; simp only [List.drop_succ_cons, List.drop_zero]; have C := M.ruleAll; simp only [Go.Proofs.YteonahoboligdaaDoor.ruleAll] at C)
            go_wp2
            have M8 := HMW.out.later M.below
            clear M; (try clear C)
            go_loopw [12] (fun i wr => ∃ l : Nat, l ≤ n ∧ i = .int .i64 (l : Int) ∧ Mm no w0 wr (.box bo (n10 (mrg f a b l)) 63 :: .box bo1 (n10 fun _ => 0) 63 :: .box bq (sqs (n : Int) t) 32 :: .row w0.heap.size (.slice (some ⟨g, 0, none⟩) Qs.length cap) Qs.length (rowC pr2 Qs) 79 2 :: X)) (fun i _ => n - (intOf i).toNat)
            case atStart => exact ⟨0, by omega, rfl, M8.eq (by rw [HM0.out])⟩
            case round =>
              clear M8 HM0 hpf0 hpf1 hd q1 q2
              obtain ⟨l, hl2, rfl, M9⟩ := hrel
              (try clear C)
              have M := M9
              clear M9
              by_cases hlt2 : l < n
              · have hlt2' : (l : Int) < (n : Int) := by omega
                have hl10 : (l : Int) < 10 := by omega
                have q1 := n10_get (f := mrg f a b l) (i := l) (by omega)
                rw [HMS.out l] at q1
                by_cases hfl : f l = b
                · have HS := Hid2.mk (HMH.out l hfl)
                  rw [hfl] at q1
                  have hd : ((b : Int) == (b : Int)) = true := by simp
                  clear hfl
                  have C := M.ruleAll; simp only [Go.Proofs.YteonahoboligdaaDoor.ruleAll] at C
                  go_wp2_with (first | ((with_reducible apply wpM_st' M 0 2 (l) (n10 (mrg f a b (l + 1)))); rfl; rfl; rfl; (first | exact .inl (by assumption) | exact .inr rfl | exact .inr (by assumption)); exact ⟨rfl, rfl, by kernel_rfl⟩; (exact Nat.lt_of_lt_of_eq (by omega) (n10_size _).symm); exact HS.out; clear M; (try clear C); intro w9 M; simp only [List.set_cons_zero, List.set_cons_succ, entBlk, entT, List.getElem?_cons_zero, List.getElem?_cons_succ] at M; have C := M.ruleAll; simp only [Go.Proofs.YteonahoboligdaaDoor.ruleAll] at C))
                  go_roundw
                  case rel => exact ⟨l + 1, by omega, by go_num, M⟩
                  case measure => simp [intOf]; omega
                · have HS := Hid2.mk (HMM.out l hfl)
                  have hd : ((f l : Int) == (b : Int)) = false := neqI hfl
                  clear hfl
                  generalize f l = c at *
                  have C := M.ruleAll; simp only [Go.Proofs.YteonahoboligdaaDoor.ruleAll] at C
                  go_wp2
                  go_roundw
                  case rel => exact ⟨l + 1, by omega, by go_num, M.eq (by rw [HS.out])⟩
                  case measure => simp [intOf]; omega
              · obtain rfl : n = l := by omega
                have hge2 : ¬ ((n : Int) < (n : Int)) := by omega
                clear HMS HMH HMM
                generalize mrg f a b n = f2 at *
                have HT0 := Hid2.mk (show trP t x y 0 = [] from rfl)
                have HT1 := Hid2.mk (show ∀ l, trP t x y (l + 1) = trP t x y l ++ [(t x l, t y l), (t l x, t l y)] from fun _ => rfl)
                have HTL := Hid2.mk (fun l => trP_len t x y l)
                generalize trP t x y = TP at *
                have C := M.ruleAll; simp only [Go.Proofs.YteonahoboligdaaDoor.ruleAll] at C
                go_wp2
                go_loopw [1, 13] (fun v i wr => ∃ (l : Nat) (pp : Option Addr) (cap : Nat), l ≤ n ∧ i = .int .i64 (l : Int) ∧ v = .slice pp (Qs ++ TP l).length cap ∧ Mm no w0 wr (.box bo (n10 f2) 63 :: .box bo1 (n10 fun _ => 0) 63 :: .box bq (sqs (n : Int) t) 32 :: .row w0.heap.size (.slice pp (Qs ++ TP l).length cap) (Qs ++ TP l).length (rowC pr2 (Qs ++ TP l)) 79 2 :: X)) (fun _ i _ => n - (intOf i).toNat)
                case atStart => exact ⟨0, some ⟨g, 0, none⟩, cap, by omega, rfl, by rw [HT0.out, List.append_nil], M.eq (by rw [HT0.out, List.append_nil])⟩
                case round =>
                  clear M hge2 hlt2 HT0
                  obtain ⟨l, pp, cap, hl3, rfl, rfl, M9⟩ := hrel
                  (try clear C)
                  have M := M9
                  clear M9
                  have hlen2 : (Qs ++ TP l).length ≤ 240 := by rw [List.length_append, HTL.out]; omega
                  by_cases hlt3 : l < n
                  · have hlt3' : (l : Int) < (n : Int) := by omega
                    have hl10 : (l : Int) < 10 := by omega
                    have HS := Hid2.mk (show Qs ++ TP (l + 1) = (Qs ++ TP l) ++ [(t x l, t y l), (t l x, t l y)] by rw [HT1.out, List.append_assoc])
                    have q1 := sqs_get (n := (n : Int)) (t := t) (x := x) (y := l) (by omega) (by omega)
                    have q2 := sqs_get (n := (n : Int)) (t := t) (x := y) (y := l) (by omega) (by omega)
                    have q3 := sqs_get (n := (n : Int)) (t := t) (x := l) (y := x) (by omega) (by omega)
                    have q4 := sqs_get (n := (n : Int)) (t := t) (x := l) (y := y) (by omega) (by omega)
                    have b1 := HLT.out x l hx hlt3
                    have b2 := HLT.out y l hy hlt3
                    have b3 := HLT.out l x hlt3 hx
                    have b4 := HLT.out l y hlt3 hy
                    generalize Qs ++ TP l = L1 at *
                    generalize t x l = c1 at *
                    generalize t y l = c2 at *
                    generalize t l x = c3 at *
                    generalize t l y = c4 at *
                    have d1 : (c1 : Int) < 10 := by omega
                    have d2 : (c2 : Int) < 10 := by omega
                    have d3 : (c3 : Int) < 10 := by omega
                    have d4 : (c4 : Int) < 10 := by omega
                    have C := M.ruleAll; simp only [Go.Proofs.YteonahoboligdaaDoor.ruleAll] at C
                    go_wp2
                    apply wp_region_mmb M [0, 1, 2, 3, 4, 5, 6, 7, 8, 9, 10, 11, 12, 13, 14, 15, 16, 17, 18, 19, 20, 21, 22, 23, 24, 25, 26, 27, 28, 29, 30] 31 32 _ 78 2 79 ([(0, .agg (pr2 (c1, c2))), (1, .agg (pr2 (c3, c4)))]) (pr2 (c1, c2) ++ pr2 (c3, c4)) (by kernel_rfl) (by kernel_rfl) rfl rfl rfl; (case ht => repeat (first | exact wpTextG_nil | (apply wpTextG_cons; (intro g9 w2 hG; obtain ⟨Lg9, hSt9, G⟩ := hG; have M := G.suffix; have C := M.ruleAll; simp only [Go.Proofs.YteonahoboligdaaDoor.ruleAll] at C; go_wp2_with (first | (refine wpList_build 79 _ rfl rfl [(0, .int .i64 (c1 : Int)), (1, .int .i64 (c2 : Int))] rfl _ (build_p2 c1 c2 _) ?_) | (refine wpList_build 79 _ rfl rfl [(0, .int .i64 (c3 : Int)), (1, .int .i64 (c4 : Int))] rfl _ (build_p2 c3 c4 _) ?_)); exact ⟨rfl, rfl, Lg9, hSt9, G⟩); rfl))); rfl; exact bsl_p2 _ _; (clear M; (try clear C); intro bx w2 h_bx M; simp only [List.drop_succ_cons, List.drop_zero]; have C := M.ruleAll; simp only [Go.Proofs.YteonahoboligdaaDoor.ruleAll] at C)
                    ((with_reducible apply wpM_appb M 78 4 0 (w0.heap.size) (.slice pp L1.length cap) (L1.length) (rowC pr2 L1) 79 2 16 (2)); rfl; rfl; rfl; rfl; rfl; rfl; rfl; (first | exact .inl (Nat.le_refl _) | exact .inl (by assumption) | exact .inr (by assumption)); (first | exact M.size | (have hq := M.size; omega)); exact und_slp2; exact inf_elp2; rfl; decide; rfl; exact size_pp (c1, c2) (c3, c4); exact flat_pp (c1, c2) (c3, c4); (show L1.length + 2 ≤ maxLen; simp only [maxLen]; omega); omega; clear M; (try clear C); intro v3 w9 far_v3 M; simp only [List.set_cons_zero, List.set_cons_succ, entBlk, entT, List.getElem?_cons_zero, List.getElem?_cons_succ] at M; obtain ⟨pp_v3, cap_v3, rfl⟩ := own_form (M.row 4 rfl); have C := M.ruleAll; simp only [Go.Proofs.YteonahoboligdaaDoor.ruleAll] at C)
                    go_wp2
                    go_roundw
                    case rel => exact ⟨l + 1, pp_v3, cap_v3, by omega, by go_num, by rw [HS.out, List.length_append]; rfl, (M.drop 0).eq (by rw [HS.out, List.length_append, rowC_p2]; rfl)⟩
                    case measure => simp [intOf]; omega
                  · obtain rfl : n = l := by omega
                    have hge3 : ¬ ((n : Int) < (n : Int)) := by omega
                    generalize Qs ++ TP n = L1 at *
                    have C := M.ruleAll; simp only [Go.Proofs.YteonahoboligdaaDoor.ruleAll] at C
                    go_wp2
                    go_roundw
                    case rel => exact ⟨f2, L1, pp, cap, j + 1, rfl, by go_num, HN, M⟩
                    case measure => simp [intOf]; omega
        · obtain rfl : j = Qs.length := by omega
          have hge : ¬ ((Qs.length : Int) < (Qs.length : Int)) := by omega
          have HE := Hid2.mk (HEND.out f Qs HV.out)
          clear M
          have M := HMW.out
          clear HMW
          have C := M.ruleAll; simp only [Go.Proofs.YteonahoboligdaaDoor.ruleAll] at C
          go_wp2_with (first | ((with_reducible apply wpM_lda' M 0 63 0 (n10 f)); rfl; rfl; rfl; exact ⟨rfl, inf_i10.trans (congrArg some (n10_size ..).symm), _, und_i10, rfl⟩; exact whole_of rfl) | ((with_reducible apply wpM_sta' M 1 63 (n10 f)); rfl; rfl; rfl; rfl; (first | exact .inl (by assumption) | exact .inr rfl | exact .inr (by assumption)); exact ⟨rfl, inf_i10.trans (congrArg some (n10_size ..).symm), flat_n10 _⟩; (simp only [entCells, List.getElem?_cons_zero, List.getElem?_cons_succ, n10_size, n10_size]); clear M; (try clear C); intro w9 M; simp only [List.set_cons_zero, List.set_cons_succ, entBlk, entT, List.getElem?_cons_zero, List.getElem?_cons_succ] at M; have C := M.ruleAll; simp only [Go.Proofs.YteonahoboligdaaDoor.ruleAll] at C))
          refine bodyPost_ret (v := .agg (n10 f)) (by exact results_part rfl _ _ _ _ _ _ rfl und_i10 rfl inf_i10 (cells_of_blk0 (M.box 1 rfl))) rfl ?_
          exact ClPostX.mk HE.out ((((M.drop 0).drop 0).drop 0).drop 0)
end Go.Proofs.YteonahoboligdaaDoor

/- The quotient and QuotientLoop of the reference: contracts. -/
namespace Go.Proofs.YteonahoboligdaaDoor
set_option linter.unusedSimpArgs false
set_option linter.unusedVariables false
open Go Go.RowKit

/-- Classes that have been told, as lists that are read. -/
theorem told_lst {w w' : World} {v : Value} {L : List (List Nat)} (hp : 0 < L.length) (hne : ∀ l ∈ L, 0 < l.length) {vs : List Value} (hvs : vs.length = L.length) (M : Mm no w w' (.row w.heap.size v L.length vs 26 1 :: clsE w.heap.size 2 vs L)) :
    ∃ gL cL, v = .slice (some ⟨gL, 0, none⟩) L.length cL ∧ ∃ D5 : Nat → Prop, Mm no w w' [.res D5 (fun w' => Lst w' gL vs L)] ∧ ∀ x ∈ [Ent.res D5 (fun w' => Lst w' gL vs L)], ∀ b, x.place b → w.heap.size ≤ b := by
  obtain ⟨gL, cL, rfl, -, -, -⟩ := own_rds (M.row 0 rfl) (by omega)
  have hN := cls_new M
  refine ⟨gL, cL, rfl, _, Mm.fold (A := Ent.row w.heap.size (.slice (some ⟨gL, 0, none⟩) L.length cL) L.length vs 26 1 :: clsE w.heap.size 2 vs L) (L := []) (R := fun w' => Lst w' gL vs L) (by rw [List.append_nil]; exact M) fun w1 h => ?_, fun x hx b hb => ?_⟩
  · have h0 : w1.ownsRow w.heap.size 26 1 (.slice (some ⟨gL, 0, none⟩) L.length cL) L.length vs := h _ (List.mem_cons_self ..)
    refine ⟨?_, hvs, fun i x y hx hy => ?_⟩
    · obtain ⟨g', c', e, -, -, hr⟩ := own_rds h0 (by omega)
      cases e
      rw [Nat.mul_one] at hr
      exact hr
    · obtain ⟨h1, rfl⟩ := List.getElem?_eq_some_iff.1 hx
      obtain ⟨h2, rfl⟩ := List.getElem?_eq_some_iff.1 hy
      have h3 : w1.ownsRow w.heap.size 2 1 vs[i] L[i].length (ints L[i]) := h _ (List.mem_cons_of_mem _ (List.mem_of_getElem? (clsE_get h1 h2)))
      obtain ⟨g', c', e, -, -, hr⟩ := own_rds h3 (by have := hne _ (List.getElem_mem h2); omega)
      rw [Nat.mul_one] at hr
      exact ⟨g', c', e, hr.lt, fun j hj => by rw [hr.at_ j hj]; exact congrArg some (i64N_at hj)⟩
  · rw [List.mem_singleton] at hx
    subst hx
    obtain ⟨y, hy, hyb⟩ := hb
    exact hN y hy b hyb
def lq6R : Nat → List Nat
  | 0 => []
  | 1 => []
  | 2 => [0, 1]
  | 3 => []
  | 4 => [3]
  | 5 => [0, 1, 2, 3, 4]
  | 6 => []
  | 7 => [6]
  | 8 => [6, 7]
  | 9 => [0, 1, 2, 3, 4, 5]
  | 10 => [0, 1, 2, 3, 4, 5, 6, 7, 8, 9]
  | _ => []
def lq6P (n : Nat) (L : List (List Nat)) (l : List Nat) (bq : Nat) (pp : Option Addr) (k cap : Nat) (t : Nat → Nat → Nat) (B0 : Nat) : Nat → (Nat → Bool) → (Nat → Value) → List Ent → Prop
  | 0, _, g, E => g 0 = .agg (sqs (n : Int) t) ∧ E = []
  | 1, _, g, E => g 1 = .slice pp k cap ∧ E = []
  | 2, _, g, E => ∃ f, g 2 = .agg (n10 f) ∧ toldL f n n = L ∧ E = []
  | 3, _, g, E => g 3 = .pointer (some ⟨bq, 0, none⟩) ∧ E = []
  | 4, _, g, E => g 4 = .int .i64 (n : Int) ∧ E = []
  | 5, _, g, E => ∃ gL cL hd D5, g 5 = .slice (some ⟨gL, 0, none⟩) L.length cL ∧ E = [.res D5 (fun w' => Lst w' gL hd L)]
  | 6, _, g, E => g 6 = .pointer (some ⟨bq, 0, none⟩) ∧ E = []
  | 7, _, g, E => g 7 = .int .i64 (n : Int) ∧ E = []
  | 8, _, g, E => ∃ gt, g 8 = .slice (some ⟨gt, 0, none⟩) n n ∧ B0 ≤ gt ∧ E = [.box gt (madeCells (Value.int .i64 0).cells (n * 1)) 2]
  | 9, _, g, E => ∃ gL cL, g 5 = .slice (some ⟨gL, 0, none⟩) L.length cL ∧ g 9 = .slice (some ⟨gL, 0, none⟩) L.length cL ∧ E = []
  | 10, _, g, E => ∃ gt, g 8 = .slice (some ⟨gt, 0, none⟩) n n ∧ g 10 = .slice (some ⟨gt, 0, none⟩) n n ∧ E = []
  | 11, D, g, E => (D 2 = true ∧ E = []) ∨ (D 2 = false ∧ E = [.row B0 (.slice pp k cap) k (rowC pr2 (zps l)) 79 2])
  | _, _, _, _ => False
def lq6W (j : Nat) : List Nat := if j = 11 then [2] else []
theorem lq6S (n : Nat) (L : List (List Nat)) (l : List Nat) (bq : Nat) (pp : Option Addr) (k cap : Nat) (t : Nat → Nat → Nat) (B0 : Nat) : Stable (lq6P n L l bq pp k cap t B0) lq6R lq6W := fun i k D g u E hki hkR hkW h => by
  match i with
  | 0 =>
    have e0 : updG g k u 0 = g 0 := updG_ne (g := g) (u := u) (Ne.symm hki)
    simp only [lq6P, e0]; exact h
  | 1 =>
    have e1 : updG g k u 1 = g 1 := updG_ne (g := g) (u := u) (Ne.symm hki)
    simp only [lq6P, e1]; exact h
  | 2 =>
    have e2 : updG g k u 2 = g 2 := updG_ne (g := g) (u := u) (Ne.symm hki)
    simp only [lq6P, e2]; exact h
  | 3 =>
    have e3 : updG g k u 3 = g 3 := updG_ne (g := g) (u := u) (Ne.symm hki)
    simp only [lq6P, e3]; exact h
  | 4 =>
    have e4 : updG g k u 4 = g 4 := updG_ne (g := g) (u := u) (Ne.symm hki)
    simp only [lq6P, e4]; exact h
  | 5 =>
    have e5 : updG g k u 5 = g 5 := updG_ne (g := g) (u := u) (Ne.symm hki)
    simp only [lq6P, e5]; exact h
  | 6 =>
    have e6 : updG g k u 6 = g 6 := updG_ne (g := g) (u := u) (Ne.symm hki)
    simp only [lq6P, e6]; exact h
  | 7 =>
    have e7 : updG g k u 7 = g 7 := updG_ne (g := g) (u := u) (Ne.symm hki)
    simp only [lq6P, e7]; exact h
  | 8 =>
    have e8 : updG g k u 8 = g 8 := updG_ne (g := g) (u := u) (Ne.symm hki)
    simp only [lq6P, e8]; exact h
  | 9 =>
    have e5 : updG g k u 5 = g 5 := updG_ne (g := g) (u := u) (i := k) (j := 5) (fun e => hkR (by rw [← e]; decide))
    have e9 : updG g k u 9 = g 9 := updG_ne (g := g) (u := u) (Ne.symm hki)
    simp only [lq6P, e5, e9]; exact h
  | 10 =>
    have e8 : updG g k u 8 = g 8 := updG_ne (g := g) (u := u) (i := k) (j := 8) (fun e => hkR (by rw [← e]; decide))
    have e10 : updG g k u 10 = g 10 := updG_ne (g := g) (u := u) (Ne.symm hki)
    simp only [lq6P, e8, e10]; exact h
  | 11 =>
    have hkW' : k ∉ ([2] : List Nat) := hkW
    simp only [List.mem_cons, List.not_mem_nil, or_false, not_or] at hkW'
    have e2 : updG g k u 2 = g 2 := updG_ne (by omega)
    have d2 : updD D k 2 = D 2 := updD_ne (by omega)
    simp only [lq6P, e2, d2]; exact h
  | n + 12 => exact h.elim

set_option maxRecDepth 100000 in
set_option maxHeartbeats 8000000 in
theorem l06Quotient_any (n : Nat) (t : Nat → Nat → Nat) (hl : Loo n t) (m : Nat) (hml : m < 1024) (hm : ∀ i, m.testBit i = true → i < n) (hnm : norM n t m = m) (w : World) (gs cap0 : Nat) (hr : rds w gs (mL m).length (i64F (mL m))) :
    Calls Tryd.prog 29 #[.agg (sqs (n : Int) t), .slice (some ⟨gs, 0, none⟩) (mL m).length cap0] w (QoPost n t (quL n t m) w) := by
  have M := (Mm.start no w).add (x := .rd gs (mL m).length (i64F (mL m))) hr fun _ h => by cases h
  have hs := hl.sq
  have hn : n ≤ 10 := by have := hs.hi; omega
  have h1n : 1 ≤ n := by have := hs.lo; omega
  have hn' : (n : Int) ≤ 10 := by omega
  have so := sqs_order (n : Int) t
  have h0 : m.testBit 0 = true := ((norM_self hl hm).1 hnm).clo.zero
  obtain ⟨out, VC⟩ := quo_ex hl hm hnm
  have hq := quL_some VC.is
  have HP := Hid2.mk (show Prt n (quL n t m) by rw [hq]; exact cos_prt hl h0 VC)
  have HTL : Hid2 (∀ f : Nat → Nat, (∀ x y, x < n → y < n → (f x = f y ↔ Cng n t m x y)) → toldL f n n = quL n t m) := ⟨fun f hf => by
    obtain ⟨o2, V2, e2⟩ := quo_classes hl hm hnm hf
    rw [← e2, quL_some V2.is]⟩
  have hlen10 := mL_le m
  have HCL := Hid2.mk (fun X w1 v M1 => l06ClassesX_any n t hl m hm (zps (mL m)) (by rw [zps_len]; omega) (fun p hp => by
    unfold zps at hp
    obtain ⟨i, hi, rfl⟩ := List.mem_map.1 hp
    exact .base i ((mL_mem hml).1 hi)) (fun i hi => List.mem_map.2 ⟨i, (mL_mem hml).2 hi, rfl⟩) X w w1 v M1)
  rw [zps_len] at HCL
  have HLT := Hid2.mk (fun x y (hx : x < n) (hy : y < n) => hl.lt hx hy)
  unfold ClPostX at HCL
  generalize quL n t m = L at *
  have HTO : Hid2 (∀ f : Nat → Nat, toldL f n n = L → ∀ w1, Calls Tryd.prog 51 #[.agg (n10 f), .int .i64 (n : Int)] w1 fun e w' => ∃ gL cL hd D5, e = .returned (.slice (some ⟨gL, 0, none⟩) L.length cL) ∧ Mm no w1 w' [.res D5 (fun w' => Lst w' gL hd L)] ∧ ∀ x ∈ [Ent.res D5 (fun w' => Lst w' gL hd L)], ∀ b, x.place b → w1.heap.size ≤ b) := ⟨fun f hf w1 => (l06Told_any n h1n hn f w1).mono fun e w' h => by
    rw [hf] at h
    obtain ⟨v, rfl, vs, hvs, M'⟩ := h
    obtain ⟨gL, cL, rfl, D5, M5, h5⟩ := told_lst HP.out.pos (fun l hl => (HP.out.mem l hl).1) hvs M'
    exact ⟨gL, cL, vs, D5, rfl, M5, h5⟩⟩
  generalize mL m = l at *
  have HZ : Hid2 (∀ k i, l[k]? = some i → zps (l.take (k + 1)) = zps (l.take k) ++ [(0, i)]) := ⟨fun k i h => by
    unfold zps
    rw [List.take_add_one, h, Option.toList_some, List.map_append]; rfl⟩
  have HZA := Hid2.mk (show zps (l.take l.length) = zps l by rw [List.take_length])
  have HLN := HP.out.len
  clear hl hm hr hs hnm h0 hml hq VC
  go_enter Tryd.func29, Tryd.ntmps29
  go_wp2_with (first | ((with_reducible apply wpM_box' M 32 (sqs (n : Int) t)); rfl; exact ⟨rfl, rfl⟩; clear M; (try clear C); intro bq w9 h_bq M; have C := M.ruleAll; simp only [Go.Proofs.YteonahoboligdaaDoor.ruleAll] at C) | ((with_reducible apply wpM_alloc' M 32 (sqs 0 fun _ _ => 0)); rfl; exact ⟨rfl, _, zero_sqs _, rfl⟩; clear M; (try clear C); intro bo w9 h_bo M; have C := M.ruleAll; simp only [Go.Proofs.YteonahoboligdaaDoor.ruleAll] at C) | ((with_reducible apply wpM_bsl' M 78 0 79 ([]) (#[])); rfl; rfl; rfl; exact bsl_p0; clear M; (try clear C); intro bp w9 h_bp M; have C := M.ruleAll; simp only [Go.Proofs.YteonahoboligdaaDoor.ruleAll] at C))
  have M9 : Mm no w _ [.row w.heap.size (.slice (some ⟨bp, 0, none⟩) 0 0) 0 (rowC pr2 (zps (l.take 0))) 79 2, .box bo (sqs 0 fun _ _ => 0) 32, .box bq (sqs (n : Int) t) 32, .rd gs l.length (i64F l)] := M.asRow 0 rfl w.heap.size 0 2 h_bp rfl (Nat.zero_le _)
  clear M; (try clear C)
  go_loopw [6, 7] (fun o i wr => ∃ (k : Nat) (v : Value), k ≤ l.length ∧ i = .int .i64 (k : Int) ∧ o = v ∧ Mm no w wr [.row w.heap.size v k (rowC pr2 (zps (l.take k))) 79 2, .box bo (sqs 0 fun _ _ => 0) 32, .box bq (sqs (n : Int) t) 32, .rd gs l.length (i64F l)]) (fun _ i _ => l.length - (intOf i).toNat)
  case atStart => exact ⟨0, _, by omega, rfl, rfl, M9⟩
  case round =>
    clear M9
    obtain ⟨k, v, hk, rfl, rfl, M9⟩ := hrel
    obtain ⟨pp, cap, rfl⟩ := own_form (M9.row 0 rfl)
    have M := M9
    clear M9
    by_cases hlt : k < l.length
    · have hlt' : (k : Int) < (l.length : Int) := by omega
      have e1 := List.getElem?_eq_getElem hlt
      have hx := i64F_at e1
      have HN := Hid2.mk (HZ.out k _ e1)
      clear e1
      generalize l[k] = x at *
      generalize zps (l.take k) = Z at *
      have C := M.ruleAll; simp only [Go.Proofs.YteonahoboligdaaDoor.ruleAll] at C
      go_wp2_with (first | ((with_reducible apply wpM_bsl' M 78 1 79 ([(0, .agg #[.int .i64 0, .int .i64 (x : Int)])]) (#[.int .i64 0, .int .i64 (x : Int)])); rfl; rfl; rfl; exact bsl_p1z x; clear M; (try clear C); intro bb w9 h_bb M; have C := M.ruleAll; simp only [Go.Proofs.YteonahoboligdaaDoor.ruleAll] at C) | ((with_reducible apply wpM_app' M 78 1 0 (w.heap.size) (.slice pp k cap) (k) (rowC pr2 Z) 79 2 16); rfl; rfl; rfl; rfl; rfl; rfl; rfl; (first | exact .inl (Nat.le_refl _) | exact .inl (by assumption) | exact .inr (by assumption) | exact .inr HDv.out); (first | exact M.size | (have hq := M.size; omega)); exact und_slp2; exact inf_elp2; rfl; decide; decide; rfl; exact rfl; exact flat_p1z x; omega; clear M; (try clear C); intro v2 w9 far_v2 M; simp only [List.set_cons_zero, List.set_cons_succ, entBlk, entT, List.getElem?_cons_zero, List.getElem?_cons_succ] at M; obtain ⟨pp_v2, cap_v2, rfl⟩ := own_form (M.row 1 rfl); have C := M.ruleAll; simp only [Go.Proofs.YteonahoboligdaaDoor.ruleAll] at C))
      go_roundw
      case rel => exact ⟨k + 1, _, by omega, by go_num, rfl, (M.drop 0).eq (by rw [HN.out, rowC_p1]; rfl)⟩
      case measure => simp [intOf]; omega
    · obtain rfl : k = l.length := by omega
      have hge : ¬ ((l.length : Int) < (l.length : Int)) := by omega
      rw [HZA.out] at M
      have C := M.ruleAll; simp only [Go.Proofs.YteonahoboligdaaDoor.ruleAll] at C
      go_wp2
      have M8 : Mm no w wr ([.row w.heap.size (.slice pp l.length cap) l.length (rowC pr2 (zps l)) 79 2] ++ [.box bo (sqs 0 fun _ _ => 0) 32, .box bq (sqs (n : Int) t) 32, .rd gs l.length (i64F l)]) := M
      refine wp_region_own (fun D g w' => GrS 12 (lq6P n L l bq pp l.length cap t w.heap.size) lq6R w [.box bo (sqs 0 fun _ _ => 0) 32, .box bq (sqs (n : Int) t) 32, .rd gs l.length (i64F l)] (psD 11 D) g w') (by kernel_rfl) (by kernel_rfl) (fun _ => undef) (GrS.start2 (E0 := [.row w.heap.size (.slice pp l.length cap) l.length (rowC pr2 (zps l)) 79 2]) (by decide) rfl (M8) _ (.inr ⟨rfl, rfl⟩)) ?hs_lq6 ?hQ_lq6
      case hs_lq6 =>
        clear M
        try clear C
        intro i o hi D g w2 hi0 hpre S
        have hlt : i < 11 := by have := (List.getElem?_eq_some_iff.1 hi).1; simpa using this
        obtain rfl | rfl | rfl | rfl | rfl | rfl | rfl | rfl | rfl | rfl | rfl : i = 0 ∨ i = 1 ∨ i = 2 ∨ i = 3 ∨ i = 4 ∨ i = 5 ∨ i = 6 ∨ i = 7 ∨ i = 8 ∨ i = 9 ∨ i = 10 := by omega
        · simp only [List.getElem?_cons_succ, List.getElem?_cons_zero, Option.some.injEq] at hi
          subst hi
          have M := S.base
          have HI0 : psD 11 D 0 = false := (psD_ne (by decide)).trans hi0
          clear hi0
          have hi0 := HI0
          have HR : ∀ j ∈ lq6R 0, psD 11 D j = true := (fun _ h => by cases h)
          have HW : ∀ j, psD 11 D j = true → 0 ∉ lq6W j := fun j _ h => by unfold lq6W at h; split at h <;> simp at h
          have hst := lq6S n L l bq pp l.length cap t w.heap.size
          refine ⟨⟨#[undef, undef, .pointer (some ⟨bq, 0, none⟩), undef, undef, undef, undef, undef, undef, undef, undef, undef, undef, undef, undef, undef, undef, undef, undef, undef, undef, undef, undef, undef, undef, undef, undef, undef, undef, undef, undef, undef, undef, undef, undef, undef, undef, undef, undef, undef, undef, undef, undef, undef, undef, undef, undef, undef, undef, undef, undef, undef, undef, undef, undef, undef, undef, undef, undef, undef, undef, undef, undef, undef, undef, undef, undef, undef, undef, undef, undef, undef, undef, undef, undef, undef, undef, undef, undef, undef, undef, undef, undef, undef, undef, undef, undef, undef, undef, undef, undef, undef, undef, undef, undef, undef, undef, undef, undef, undef, undef, undef, undef, undef, undef, undef], []⟩, ?_, ?_⟩
          · intro t ht
            have ht' : t ∈ ([2] : List Nat) := ht
            simp only [List.mem_cons, List.not_mem_nil, or_false] at ht'
            subst ht'
            exact rfl
          · skip
            simp only [psD_upd]
            have C := M.ruleAll; simp only [Go.Proofs.YteonahoboligdaaDoor.ruleAll] at C
            refine yield_walk (ops := #[]) rfl rfl (show 30 < 106 by decide) ?_
            go_wp2_with (first | ((with_reducible apply wpM_lda' M 1 32 0 (sqs (n : Int) t)); rfl; rfl; rfl; exact ⟨rfl, inf_sqs.trans (congrArg some (sqs_size ..).symm), _, und_sqs, rfl⟩; exact whole_of rfl))
            exact S.val (i := 0) hst (by decide) hi0 HR HW (Below.refl _ _) ⟨updG_at .., rfl⟩
        · simp only [List.getElem?_cons_succ, List.getElem?_cons_zero, Option.some.injEq] at hi
          subst hi
          have M := S.base
          have HI0 : psD 11 D 1 = false := (psD_ne (by decide)).trans hi0
          clear hi0
          have hi0 := HI0
          have HR : ∀ j ∈ lq6R 1, psD 11 D j = true := (fun _ h => by cases h)
          have HW : ∀ j, psD 11 D j = true → 1 ∉ lq6W j := fun j _ h => by unfold lq6W at h; split at h <;> simp at h
          have hst := lq6S n L l bq pp l.length cap t w.heap.size
          refine ⟨⟨#[undef, undef, undef, undef, undef, undef, .slice pp l.length cap, undef, undef, undef, undef, undef, undef, undef, undef, undef, undef, undef, undef, undef, undef, undef, undef, undef, undef, undef, undef, undef, undef, undef, undef, undef, undef, undef, undef, undef, undef, undef, undef, undef, undef, undef, undef, undef, undef, undef, undef, undef, undef, undef, undef, undef, undef, undef, undef, undef, undef, undef, undef, undef, undef, undef, undef, undef, undef, undef, undef, undef, undef, undef, undef, undef, undef, undef, undef, undef, undef, undef, undef, undef, undef, undef, undef, undef, undef, undef, undef, undef, undef, undef, undef, undef, undef, undef, undef, undef, undef, undef, undef, undef, undef, undef, undef, undef, undef, undef], []⟩, ?_, ?_⟩
          · intro t ht
            have ht' : t ∈ ([6] : List Nat) := ht
            simp only [List.mem_cons, List.not_mem_nil, or_false] at ht'
            subst ht'
            exact rfl
          · skip
            simp only [psD_upd]
            have C := M.ruleAll; simp only [Go.Proofs.YteonahoboligdaaDoor.ruleAll] at C
            refine yield_walk (ops := #[]) rfl rfl (show 31 < 106 by decide) ?_
            go_wp2
            exact S.val (i := 1) hst (by decide) hi0 HR HW (Below.refl _ _) ⟨updG_at .., rfl⟩
        · simp only [List.getElem?_cons_succ, List.getElem?_cons_zero, Option.some.injEq] at hi
          subst hi
          have d0 : psD 11 D 0 = true := psD_of (hpre _ (Array.mem_of_getElem? (i := 0) rfl) rfl)
          have d1 : psD 11 D 1 = true := psD_of (hpre _ (Array.mem_of_getElem? (i := 1) rfl) rfl)
          obtain ⟨E, P, M⟩ := S.get [0, 1] (by decide) (by intro j hj; simp only [List.mem_cons, List.not_mem_nil, or_false] at hj; rcases hj with rfl | rfl <;> assumption)
          obtain ⟨e0, E0⟩ : g 0 = .agg (sqs (n : Int) t) ∧ E 0 = [] := P 0 (by decide)
          obtain ⟨e1, E1⟩ : g 1 = .slice pp l.length cap ∧ E 1 = [] := P 1 (by decide)
          simp only [List.flatMap_cons, List.flatMap_nil, List.append_nil, E0, E1, List.cons_append, List.nil_append] at M
          clear P
          have HI0 : psD 11 D 2 = false := (psD_ne (by decide)).trans hi0
          clear hi0
          have hi0 := HI0
          have HR : ∀ j ∈ lq6R 2, psD 11 D j = true := (by intro j hj; have hj' : j ∈ ([0, 1] : List Nat) := hj; simp only [List.mem_cons, List.not_mem_nil, or_false] at hj'; rcases hj' with rfl | rfl <;> assumption)
          have HW : ∀ j, psD 11 D j = true → j ≠ 11 → 2 ∉ lq6W j := fun j _ hne h => by unfold lq6W at h; rw [if_neg hne] at h; cases h
          have hst := lq6S n L l bq pp l.length cap t w.heap.size
          clear M
          obtain ⟨E', X, P, M, FIN⟩ := S.writeK (i := 2) hst (by decide) hi0 HR HW (psD_at ..) [] (by decide) (by intro j hj; cases hj)
          have P0 := P 11 (by decide)
          obtain E11 : E' 11 = [.row w.heap.size (.slice pp l.length cap) l.length (rowC pr2 (zps l)) 79 2] := by
            rcases P0 with ⟨h, _⟩ | ⟨_, h⟩
            · rw [hi0] at h; cases h
            · exact h
          simp only [E11, List.flatMap_cons, List.flatMap_nil, List.append_nil, List.cons_append, List.nil_append] at M
          clear P
          refine ⟨⟨#[undef, undef, undef, undef, undef, undef, undef, undef, undef, undef, undef, undef, undef, undef, undef, undef, undef, undef, undef, undef, undef, undef, undef, undef, undef, undef, undef, undef, undef, undef, .agg (sqs (n : Int) t), .slice pp l.length cap, undef, undef, undef, undef, undef, undef, undef, undef, undef, undef, undef, undef, undef, undef, undef, undef, undef, undef, undef, undef, undef, undef, undef, undef, undef, undef, undef, undef, undef, undef, undef, undef, undef, undef, undef, undef, undef, undef, undef, undef, undef, undef, undef, undef, undef, undef, undef, undef, undef, undef, undef, undef, undef, undef, undef, undef, undef, undef, undef, undef, undef, undef, undef, undef, undef, undef, undef, undef, undef, undef, undef, undef, undef, undef], []⟩, ?_, ?_⟩
          · intro t ht
            have ht' : t ∈ ([30, 31] : List Nat) := ht
            simp only [List.mem_cons, List.not_mem_nil, or_false] at ht'
            rcases ht' with rfl | rfl
            · exact e0.symm
            · exact e1.symm
          · skip
            simp only [psD_upd]
            refine yield_walk (ops := #[]) rfl rfl (show 32 < 106 by decide) ?_
            have C := M.ruleAll; simp only [Go.Proofs.YteonahoboligdaaDoor.ruleAll] at C
            go_wp2_with (first | (go_at_call 52; fail))
            refine (HCL.out _ _ _ M).mono ?_
            rintro e w1 ⟨f, rfl, hf1, hf2, MX⟩
            go_wp2
            exact FIN _ _ [] MX (.inl ⟨updD_at .., rfl⟩) ⟨f, updG_at .., HTL.out f hf2, rfl⟩
        · simp only [List.getElem?_cons_succ, List.getElem?_cons_zero, Option.some.injEq] at hi
          subst hi
          have M := S.base
          have HI0 : psD 11 D 3 = false := (psD_ne (by decide)).trans hi0
          clear hi0
          have hi0 := HI0
          have HR : ∀ j ∈ lq6R 3, psD 11 D j = true := (fun _ h => by cases h)
          have HW : ∀ j, psD 11 D j = true → 3 ∉ lq6W j := fun j _ h => by unfold lq6W at h; split at h <;> simp at h
          have hst := lq6S n L l bq pp l.length cap t w.heap.size
          refine ⟨⟨#[undef, undef, .pointer (some ⟨bq, 0, none⟩), undef, undef, undef, undef, undef, undef, undef, undef, undef, undef, undef, undef, undef, undef, undef, undef, undef, undef, undef, undef, undef, undef, undef, undef, undef, undef, undef, undef, undef, undef, undef, undef, undef, undef, undef, undef, undef, undef, undef, undef, undef, undef, undef, undef, undef, undef, undef, undef, undef, undef, undef, undef, undef, undef, undef, undef, undef, undef, undef, undef, undef, undef, undef, undef, undef, undef, undef, undef, undef, undef, undef, undef, undef, undef, undef, undef, undef, undef, undef, undef, undef, undef, undef, undef, undef, undef, undef, undef, undef, undef, undef, undef, undef, undef, undef, undef, undef, undef, undef, undef, undef, undef, undef], []⟩, ?_, ?_⟩
          · intro t ht
            have ht' : t ∈ ([2] : List Nat) := ht
            simp only [List.mem_cons, List.not_mem_nil, or_false] at ht'
            subst ht'
            exact rfl
          · skip
            simp only [psD_upd]
            have C := M.ruleAll; simp only [Go.Proofs.YteonahoboligdaaDoor.ruleAll] at C
            refine yield_walk (ops := #[]) rfl rfl (show 33 < 106 by decide) ?_
            go_wp2
            exact S.val (i := 3) hst (by decide) hi0 HR HW (Below.refl _ _) ⟨updG_at .., rfl⟩
        · simp only [List.getElem?_cons_succ, List.getElem?_cons_zero, Option.some.injEq] at hi
          subst hi
          have d3 : psD 11 D 3 = true := psD_of (hpre _ (Array.mem_of_getElem? (i := 0) rfl) rfl)
          obtain ⟨E, P, M⟩ := S.get [3] (by decide) (by intro j hj; simp only [List.mem_cons, List.not_mem_nil, or_false] at hj; subst hj <;> assumption)
          obtain ⟨e3, E3⟩ : g 3 = .pointer (some ⟨bq, 0, none⟩) ∧ E 3 = [] := P 3 (by decide)
          simp only [List.flatMap_cons, List.flatMap_nil, List.append_nil, E3, List.cons_append, List.nil_append] at M
          clear P
          have HI0 : psD 11 D 4 = false := (psD_ne (by decide)).trans hi0
          clear hi0
          have hi0 := HI0
          have HR : ∀ j ∈ lq6R 4, psD 11 D j = true := (by intro j hj; have hj' : j ∈ ([3] : List Nat) := hj; simp only [List.mem_cons, List.not_mem_nil, or_false] at hj'; subst hj' <;> assumption)
          have HW : ∀ j, psD 11 D j = true → 4 ∉ lq6W j := fun j _ h => by unfold lq6W at h; split at h <;> simp at h
          have hst := lq6S n L l bq pp l.length cap t w.heap.size
          refine ⟨⟨#[undef, undef, undef, undef, undef, undef, undef, undef, undef, undef, undef, undef, undef, undef, undef, undef, undef, undef, undef, undef, undef, undef, undef, undef, undef, undef, undef, undef, undef, undef, undef, undef, undef, .pointer (some ⟨bq, 0, none⟩), undef, undef, undef, undef, undef, undef, undef, undef, undef, undef, undef, undef, undef, undef, undef, undef, undef, undef, undef, undef, undef, undef, undef, undef, undef, undef, undef, undef, undef, undef, undef, undef, undef, undef, undef, undef, undef, undef, undef, undef, undef, undef, undef, undef, undef, undef, undef, undef, undef, undef, undef, undef, undef, undef, undef, undef, undef, undef, undef, undef, undef, undef, undef, undef, undef, undef, undef, undef, undef, undef, undef, undef], []⟩, ?_, ?_⟩
          · intro t ht
            have ht' : t ∈ ([33] : List Nat) := ht
            simp only [List.mem_cons, List.not_mem_nil, or_false] at ht'
            subst ht'
            exact e3.symm
          · skip
            simp only [psD_upd]
            have C := M.ruleAll; simp only [Go.Proofs.YteonahoboligdaaDoor.ruleAll] at C
            refine yield_walk (ops := #[]) rfl rfl (show 34 < 106 by decide) ?_
            go_wp2
            exact S.val (i := 4) hst (by decide) hi0 HR HW (Below.refl _ _) ⟨updG_at .., rfl⟩
        · simp only [List.getElem?_cons_succ, List.getElem?_cons_zero, Option.some.injEq] at hi
          subst hi
          have d2 : psD 11 D 2 = true := psD_of (hpre _ (Array.mem_of_getElem? (i := 0) rfl) rfl)
          have d4 : psD 11 D 4 = true := psD_of (hpre _ (Array.mem_of_getElem? (i := 1) rfl) rfl)
          have d3 : psD 11 D 3 = true := S.anc 4 d4 3 (show 3 ∈ lq6R 4 by decide)
          have d0 : psD 11 D 0 = true := S.anc 2 d2 0 (show 0 ∈ lq6R 2 by decide)
          have d1 : psD 11 D 1 = true := S.anc 2 d2 1 (show 1 ∈ lq6R 2 by decide)
          obtain ⟨E, P, M⟩ := S.get [2, 4] (by decide) (by intro j hj; simp only [List.mem_cons, List.not_mem_nil, or_false] at hj; rcases hj with rfl | rfl <;> assumption)
          obtain ⟨f, e2, hf, E2⟩ : ∃ f, g 2 = .agg (n10 f) ∧ toldL f n n = L ∧ E 2 = [] := P 2 (by decide)
          obtain ⟨e4, E4⟩ : g 4 = .int .i64 (n : Int) ∧ E 4 = [] := P 4 (by decide)
          simp only [List.flatMap_cons, List.flatMap_nil, List.append_nil, E2, E4, List.cons_append, List.nil_append] at M
          clear P
          have HI0 : psD 11 D 5 = false := (psD_ne (by decide)).trans hi0
          clear hi0
          have hi0 := HI0
          have HR : ∀ j ∈ lq6R 5, psD 11 D j = true := (by intro j hj; have hj' : j ∈ ([0, 1, 2, 3, 4] : List Nat) := hj; simp only [List.mem_cons, List.not_mem_nil, or_false] at hj'; rcases hj' with rfl | rfl | rfl | rfl | rfl <;> assumption)
          have HW : ∀ j, psD 11 D j = true → 5 ∉ lq6W j := fun j _ h => by unfold lq6W at h; split at h <;> simp at h
          have hst := lq6S n L l bq pp l.length cap t w.heap.size
          refine ⟨⟨#[undef, undef, undef, undef, undef, undef, undef, undef, undef, undef, undef, undef, undef, undef, undef, undef, undef, undef, undef, undef, undef, undef, undef, undef, undef, undef, undef, undef, undef, undef, undef, undef, .agg (n10 f), undef, .int .i64 (n : Int), undef, undef, undef, undef, undef, undef, undef, undef, undef, undef, undef, undef, undef, undef, undef, undef, undef, undef, undef, undef, undef, undef, undef, undef, undef, undef, undef, undef, undef, undef, undef, undef, undef, undef, undef, undef, undef, undef, undef, undef, undef, undef, undef, undef, undef, undef, undef, undef, undef, undef, undef, undef, undef, undef, undef, undef, undef, undef, undef, undef, undef, undef, undef, undef, undef, undef, undef, undef, undef, undef, undef], []⟩, ?_, ?_⟩
          · intro t ht
            have ht' : t ∈ ([32, 34] : List Nat) := ht
            simp only [List.mem_cons, List.not_mem_nil, or_false] at ht'
            rcases ht' with rfl | rfl
            · exact e2.symm
            · exact e4.symm
          · skip
            simp only [psD_upd]
            have C := M.ruleAll; simp only [Go.Proofs.YteonahoboligdaaDoor.ruleAll] at C
            refine yield_walk (ops := #[]) rfl rfl (show 35 < 106 by decide) ?_
            go_wp2_with (first | (go_at_call 51; fail))
            refine (HTO.out f hf _).mono ?_
            rintro e w1 ⟨gL, cL, hd, D5, rfl, MR, hnew⟩
            go_wp2
            exact S.add (i := 5) hst (by decide) hi0 HR HW MR hnew ⟨gL, cL, hd, D5, updG_at .., rfl⟩
        · simp only [List.getElem?_cons_succ, List.getElem?_cons_zero, Option.some.injEq] at hi
          subst hi
          have M := S.base
          have HI0 : psD 11 D 6 = false := (psD_ne (by decide)).trans hi0
          clear hi0
          have hi0 := HI0
          have HR : ∀ j ∈ lq6R 6, psD 11 D j = true := (fun _ h => by cases h)
          have HW : ∀ j, psD 11 D j = true → 6 ∉ lq6W j := fun j _ h => by unfold lq6W at h; split at h <;> simp at h
          have hst := lq6S n L l bq pp l.length cap t w.heap.size
          refine ⟨⟨#[undef, undef, .pointer (some ⟨bq, 0, none⟩), undef, undef, undef, undef, undef, undef, undef, undef, undef, undef, undef, undef, undef, undef, undef, undef, undef, undef, undef, undef, undef, undef, undef, undef, undef, undef, undef, undef, undef, undef, undef, undef, undef, undef, undef, undef, undef, undef, undef, undef, undef, undef, undef, undef, undef, undef, undef, undef, undef, undef, undef, undef, undef, undef, undef, undef, undef, undef, undef, undef, undef, undef, undef, undef, undef, undef, undef, undef, undef, undef, undef, undef, undef, undef, undef, undef, undef, undef, undef, undef, undef, undef, undef, undef, undef, undef, undef, undef, undef, undef, undef, undef, undef, undef, undef, undef, undef, undef, undef, undef, undef, undef, undef], []⟩, ?_, ?_⟩
          · intro t ht
            have ht' : t ∈ ([2] : List Nat) := ht
            simp only [List.mem_cons, List.not_mem_nil, or_false] at ht'
            subst ht'
            exact rfl
          · skip
            simp only [psD_upd]
            have C := M.ruleAll; simp only [Go.Proofs.YteonahoboligdaaDoor.ruleAll] at C
            refine yield_walk (ops := #[]) rfl rfl (show 36 < 106 by decide) ?_
            go_wp2
            exact S.val (i := 6) hst (by decide) hi0 HR HW (Below.refl _ _) ⟨updG_at .., rfl⟩
        · simp only [List.getElem?_cons_succ, List.getElem?_cons_zero, Option.some.injEq] at hi
          subst hi
          have d6 : psD 11 D 6 = true := psD_of (hpre _ (Array.mem_of_getElem? (i := 0) rfl) rfl)
          obtain ⟨E, P, M⟩ := S.get [6] (by decide) (by intro j hj; simp only [List.mem_cons, List.not_mem_nil, or_false] at hj; subst hj <;> assumption)
          obtain ⟨e6, E6⟩ : g 6 = .pointer (some ⟨bq, 0, none⟩) ∧ E 6 = [] := P 6 (by decide)
          simp only [List.flatMap_cons, List.flatMap_nil, List.append_nil, E6, List.cons_append, List.nil_append] at M
          clear P
          have HI0 : psD 11 D 7 = false := (psD_ne (by decide)).trans hi0
          clear hi0
          have hi0 := HI0
          have HR : ∀ j ∈ lq6R 7, psD 11 D j = true := (by intro j hj; have hj' : j ∈ ([6] : List Nat) := hj; simp only [List.mem_cons, List.not_mem_nil, or_false] at hj'; subst hj' <;> assumption)
          have HW : ∀ j, psD 11 D j = true → 7 ∉ lq6W j := fun j _ h => by unfold lq6W at h; split at h <;> simp at h
          have hst := lq6S n L l bq pp l.length cap t w.heap.size
          refine ⟨⟨#[undef, undef, undef, undef, undef, undef, undef, undef, undef, undef, undef, undef, undef, undef, undef, undef, undef, undef, undef, undef, undef, undef, undef, undef, undef, undef, undef, undef, undef, undef, undef, undef, undef, undef, undef, undef, .pointer (some ⟨bq, 0, none⟩), undef, undef, undef, undef, undef, undef, undef, undef, undef, undef, undef, undef, undef, undef, undef, undef, undef, undef, undef, undef, undef, undef, undef, undef, undef, undef, undef, undef, undef, undef, undef, undef, undef, undef, undef, undef, undef, undef, undef, undef, undef, undef, undef, undef, undef, undef, undef, undef, undef, undef, undef, undef, undef, undef, undef, undef, undef, undef, undef, undef, undef, undef, undef, undef, undef, undef, undef, undef, undef], []⟩, ?_, ?_⟩
          · intro t ht
            have ht' : t ∈ ([36] : List Nat) := ht
            simp only [List.mem_cons, List.not_mem_nil, or_false] at ht'
            subst ht'
            exact e6.symm
          · skip
            simp only [psD_upd]
            have C := M.ruleAll; simp only [Go.Proofs.YteonahoboligdaaDoor.ruleAll] at C
            refine yield_walk (ops := #[]) rfl rfl (show 37 < 106 by decide) ?_
            go_wp2
            exact S.val (i := 7) hst (by decide) hi0 HR HW (Below.refl _ _) ⟨updG_at .., rfl⟩
        · simp only [List.getElem?_cons_succ, List.getElem?_cons_zero, Option.some.injEq] at hi
          subst hi
          have d7 : psD 11 D 7 = true := psD_of (hpre _ (Array.mem_of_getElem? (i := 0) rfl) rfl)
          have d6 : psD 11 D 6 = true := S.anc 7 d7 6 (show 6 ∈ lq6R 7 by decide)
          obtain ⟨E, P, M⟩ := S.get [7] (by decide) (by intro j hj; simp only [List.mem_cons, List.not_mem_nil, or_false] at hj; subst hj <;> assumption)
          obtain ⟨e7, E7⟩ : g 7 = .int .i64 (n : Int) ∧ E 7 = [] := P 7 (by decide)
          simp only [List.flatMap_cons, List.flatMap_nil, List.append_nil, E7, List.cons_append, List.nil_append] at M
          clear P
          have HI0 : psD 11 D 8 = false := (psD_ne (by decide)).trans hi0
          clear hi0
          have hi0 := HI0
          have HR : ∀ j ∈ lq6R 8, psD 11 D j = true := (by intro j hj; have hj' : j ∈ ([6, 7] : List Nat) := hj; simp only [List.mem_cons, List.not_mem_nil, or_false] at hj'; rcases hj' with rfl | rfl <;> assumption)
          have HW : ∀ j, psD 11 D j = true → 8 ∉ lq6W j := fun j _ h => by unfold lq6W at h; split at h <;> simp at h
          have hst := lq6S n L l bq pp l.length cap t w.heap.size
          refine ⟨⟨#[undef, undef, undef, undef, undef, undef, undef, undef, undef, undef, undef, undef, undef, undef, undef, undef, undef, undef, undef, undef, undef, undef, undef, undef, undef, undef, undef, undef, undef, undef, undef, undef, undef, undef, undef, undef, undef, .int .i64 (n : Int), undef, undef, undef, undef, undef, undef, undef, undef, undef, undef, undef, undef, undef, undef, undef, undef, undef, undef, undef, undef, undef, undef, undef, undef, undef, undef, undef, undef, undef, undef, undef, undef, undef, undef, undef, undef, undef, undef, undef, undef, undef, undef, undef, undef, undef, undef, undef, undef, undef, undef, undef, undef, undef, undef, undef, undef, undef, undef, undef, undef, undef, undef, undef, undef, undef, undef, undef, undef], []⟩, ?_, ?_⟩
          · intro t ht
            have ht' : t ∈ ([37] : List Nat) := by have h : t ∈ ([37, 37] : List Nat) := ht; simpa using h
            simp only [List.mem_cons, List.not_mem_nil, or_false] at ht'
            subst ht'
            exact e7.symm
          · skip
            simp only [psD_upd]
            clear M
            have M := Mm.start no w2
            have C := M.ruleAll; simp only [Go.Proofs.YteonahoboligdaaDoor.ruleAll] at C
            refine yield_walk (ops := #[]) rfl rfl (show 38 < 106 by decide) ?_
            go_wp2_with (first | ((with_reducible apply wpM_make' M 26 2 1 8 (.int .i64 0) (n)); rfl; rfl; rfl; rfl; exact und_sl64; exact inf_el64; omega; omega; clear M; (try clear C); intro gt w9 h_gt M; have C := M.ruleAll; simp only [Go.Proofs.YteonahoboligdaaDoor.ruleAll] at C))
            exact S.add (i := 8) hst (by decide) hi0 HR HW M (new_box h_gt) ⟨gt, updG_at .., Nat.le_trans S.base.size h_gt, rfl⟩
        · simp only [List.getElem?_cons_succ, List.getElem?_cons_zero, Option.some.injEq] at hi
          subst hi
          have d5 : psD 11 D 5 = true := psD_of (hpre _ (Array.mem_of_getElem? (i := 0) rfl) rfl)
          have d0 : psD 11 D 0 = true := psD_of (hpre _ (Array.mem_of_getElem? (i := 2) rfl) rfl)
          have d1 : psD 11 D 1 = true := psD_of (hpre _ (Array.mem_of_getElem? (i := 3) rfl) rfl)
          have d2 : psD 11 D 2 = true := psD_of (hpre _ (Array.mem_of_getElem? (i := 4) rfl) rfl)
          have d3 : psD 11 D 3 = true := psD_of (hpre _ (Array.mem_of_getElem? (i := 5) rfl) rfl)
          have d4 : psD 11 D 4 = true := psD_of (hpre _ (Array.mem_of_getElem? (i := 6) rfl) rfl)
          obtain ⟨E, P, M⟩ := S.get [5] (by decide) (by intro j hj; simp only [List.mem_cons, List.not_mem_nil, or_false] at hj; subst hj <;> assumption)
          obtain ⟨gL, cL, hd, D5, e5, E5⟩ : ∃ gL cL hd D5, g 5 = .slice (some ⟨gL, 0, none⟩) L.length cL ∧ E 5 = [.res D5 (fun w' => Lst w' gL hd L)] := P 5 (by decide)
          simp only [List.flatMap_cons, List.flatMap_nil, List.append_nil, E5, List.cons_append, List.nil_append] at M
          clear P
          have HI0 : psD 11 D 9 = false := (psD_ne (by decide)).trans hi0
          clear hi0
          have hi0 := HI0
          have HR : ∀ j ∈ lq6R 9, psD 11 D j = true := (by intro j hj; have hj' : j ∈ ([0, 1, 2, 3, 4, 5] : List Nat) := hj; simp only [List.mem_cons, List.not_mem_nil, or_false] at hj'; rcases hj' with rfl | rfl | rfl | rfl | rfl | rfl <;> assumption)
          have HW : ∀ j, psD 11 D j = true → 9 ∉ lq6W j := fun j _ h => by unfold lq6W at h; split at h <;> simp at h
          have hst := lq6S n L l bq pp l.length cap t w.heap.size
          refine ⟨⟨#[undef, undef, undef, undef, undef, undef, undef, undef, undef, undef, undef, undef, undef, undef, undef, undef, undef, undef, undef, undef, undef, undef, undef, undef, undef, undef, undef, undef, undef, undef, undef, undef, undef, undef, undef, .slice (some ⟨gL, 0, none⟩) L.length cL, undef, undef, undef, undef, undef, undef, undef, undef, undef, undef, undef, undef, undef, undef, undef, undef, undef, undef, undef, undef, undef, undef, undef, undef, undef, undef, undef, undef, undef, undef, undef, undef, undef, undef, undef, undef, undef, undef, undef, undef, undef, undef, undef, undef, undef, undef, undef, undef, undef, undef, undef, undef, undef, undef, undef, undef, undef, undef, undef, undef, undef, undef, undef, undef, undef, undef, undef, undef, undef, undef], []⟩, ?_, ?_⟩
          · intro t ht
            have ht' : t ∈ ([35] : List Nat) := ht
            simp only [List.mem_cons, List.not_mem_nil, or_false] at ht'
            subst ht'
            exact e5.symm
          · skip
            simp only [psD_upd]
            have C := M.ruleAll; simp only [Go.Proofs.YteonahoboligdaaDoor.ruleAll] at C
            refine yield_walk (ops := #[]) rfl rfl (show 8 < 106 by decide) ?_
            go_wp2
            exact S.val (i := 9) hst (by decide) hi0 HR HW (Below.refl _ _) ⟨gL, cL, (updG_ne (by decide)).trans e5, updG_at .., rfl⟩
        · simp only [List.getElem?_cons_succ, List.getElem?_cons_zero, Option.some.injEq] at hi
          subst hi
          have d8 : psD 11 D 8 = true := psD_of (hpre _ (Array.mem_of_getElem? (i := 0) rfl) rfl)
          have d9 : psD 11 D 9 = true := psD_of (hpre _ (Array.mem_of_getElem? (i := 1) rfl) rfl)
          have d0 : psD 11 D 0 = true := psD_of (hpre _ (Array.mem_of_getElem? (i := 2) rfl) rfl)
          have d1 : psD 11 D 1 = true := psD_of (hpre _ (Array.mem_of_getElem? (i := 3) rfl) rfl)
          have d2 : psD 11 D 2 = true := psD_of (hpre _ (Array.mem_of_getElem? (i := 4) rfl) rfl)
          have d3 : psD 11 D 3 = true := psD_of (hpre _ (Array.mem_of_getElem? (i := 5) rfl) rfl)
          have d4 : psD 11 D 4 = true := psD_of (hpre _ (Array.mem_of_getElem? (i := 6) rfl) rfl)
          have d5 : psD 11 D 5 = true := psD_of (hpre _ (Array.mem_of_getElem? (i := 7) rfl) rfl)
          have d6 : psD 11 D 6 = true := psD_of (hpre _ (Array.mem_of_getElem? (i := 8) rfl) rfl)
          have d7 : psD 11 D 7 = true := psD_of (hpre _ (Array.mem_of_getElem? (i := 9) rfl) rfl)
          obtain ⟨E, P, M⟩ := S.get [8] (by decide) (by intro j hj; simp only [List.mem_cons, List.not_mem_nil, or_false] at hj; subst hj <;> assumption)
          obtain ⟨gt, e8, hgt, E8⟩ : ∃ gt, g 8 = .slice (some ⟨gt, 0, none⟩) n n ∧ w.heap.size ≤ gt ∧ E 8 = [.box gt (madeCells (Value.int .i64 0).cells (n * 1)) 2] := P 8 (by decide)
          simp only [List.flatMap_cons, List.flatMap_nil, List.append_nil, E8, List.cons_append, List.nil_append] at M
          clear P
          have HI0 : psD 11 D 10 = false := (psD_ne (by decide)).trans hi0
          clear hi0
          have hi0 := HI0
          have HR : ∀ j ∈ lq6R 10, psD 11 D j = true := (by intro j hj; have hj' : j ∈ ([0, 1, 2, 3, 4, 5, 6, 7, 8, 9] : List Nat) := hj; simp only [List.mem_cons, List.not_mem_nil, or_false] at hj'; rcases hj' with rfl | rfl | rfl | rfl | rfl | rfl | rfl | rfl | rfl | rfl <;> assumption)
          have HW : ∀ j, psD 11 D j = true → 10 ∉ lq6W j := fun j _ h => by unfold lq6W at h; split at h <;> simp at h
          have hst := lq6S n L l bq pp l.length cap t w.heap.size
          refine ⟨⟨#[undef, undef, undef, undef, undef, undef, undef, undef, undef, undef, undef, undef, undef, undef, undef, undef, undef, undef, undef, undef, undef, undef, undef, undef, undef, undef, undef, undef, undef, undef, undef, undef, undef, undef, undef, undef, undef, undef, .slice (some ⟨gt, 0, none⟩) n n, undef, undef, undef, undef, undef, undef, undef, undef, undef, undef, undef, undef, undef, undef, undef, undef, undef, undef, undef, undef, undef, undef, undef, undef, undef, undef, undef, undef, undef, undef, undef, undef, undef, undef, undef, undef, undef, undef, undef, undef, undef, undef, undef, undef, undef, undef, undef, undef, undef, undef, undef, undef, undef, undef, undef, undef, undef, undef, undef, undef, undef, undef, undef, undef, undef, undef, undef], []⟩, ?_, ?_⟩
          · intro t ht
            have ht' : t ∈ ([38] : List Nat) := ht
            simp only [List.mem_cons, List.not_mem_nil, or_false] at ht'
            subst ht'
            exact e8.symm
          · skip
            simp only [psD_upd]
            have C := M.ruleAll; simp only [Go.Proofs.YteonahoboligdaaDoor.ruleAll] at C
            refine yield_walk (ops := #[]) rfl rfl (show 9 < 106 by decide) ?_
            go_wp2
            exact S.val (i := 10) hst (by decide) hi0 HR HW (Below.refl _ _) ⟨gt, (updG_ne (by decide)).trans e8, updG_at .., rfl⟩
      case hQ_lq6 =>
        clear M
        try clear C
        intro D g w2 hall S
        obtain ⟨E, P, M⟩ := S.get [5, 8, 11] (by decide) (fun k hk => by
          simp only [List.mem_cons, List.not_mem_nil, or_false] at hk
          by_cases e : k = 11
          · rw [e]; exact psD_at ..
          · exact psD_of (hall k (by show k < 11; omega)))
        obtain ⟨gL, cL, hd, D5, e5, E5⟩ : ∃ gL cL hd D5, g 5 = .slice (some ⟨gL, 0, none⟩) L.length cL ∧ E 5 = [.res D5 (fun w' => Lst w' gL hd L)] := P 5 (by decide)
        obtain ⟨gt, e8, hgt, E8⟩ : ∃ gt, g 8 = .slice (some ⟨gt, 0, none⟩) n n ∧ w.heap.size ≤ gt ∧ E 8 = [.box gt (madeCells (Value.int .i64 0).cells (n * 1)) 2] := P 8 (by decide)
        obtain E11 : E 11 = [] := by
          rcases P 11 (by decide) with ⟨_, h⟩ | ⟨h, _⟩
          · exact h
          · rw [psD_of (hall 2 (by decide))] at h; cases h
        simp only [List.flatMap_cons, List.flatMap_nil, List.append_nil, E5, E8, E11, List.cons_append, List.nil_append] at M
        clear P
        obtain ⟨E', P, _⟩ := S.get [0, 1, 2, 3, 4, 5, 6, 7, 8, 9, 10] (by decide) (fun k hk => by
          simp only [List.mem_cons, List.not_mem_nil, or_false] at hk
          by_cases e : k = 11
          · rw [e]; exact psD_at ..
          · exact psD_of (hall k (by show k < 11; omega)))
        have e0 : g 0 = .agg (sqs (n : Int) t) := (P 0 (by decide)).1
        have e1 : g 1 = .slice pp l.length cap := (P 1 (by decide)).1
        obtain ⟨f, e2, -⟩ : ∃ f, g 2 = .agg (n10 f) ∧ toldL f n n = L ∧ E' 2 = [] := P 2 (by decide)
        have e3 : g 3 = .pointer (some ⟨bq, 0, none⟩) := (P 3 (by decide)).1
        have e4 : g 4 = .int .i64 (n : Int) := (P 4 (by decide)).1
        have e6 : g 6 = .pointer (some ⟨bq, 0, none⟩) := (P 6 (by decide)).1
        have e7 : g 7 = .int .i64 (n : Int) := (P 7 (by decide)).1
        obtain ⟨z9_gL, z9_cL, er9, e9, -⟩ : ∃ gL cL, g 5 = .slice (some ⟨gL, 0, none⟩) L.length cL ∧ g 9 = .slice (some ⟨gL, 0, none⟩) L.length cL ∧ E' 9 = [] := P 9 (by decide)
        have hq9 := e5.symm.trans er9
        simp only [Value.tuple.injEq, Array.mk.injEq, List.cons.injEq, and_true, true_and, Value.agg.injEq, Value.slice.injEq, Option.some.injEq, Addr.mk.injEq] at hq9
        obtain ⟨rfl, rfl⟩ := hq9
        obtain ⟨z10_gt, er10, e10, -⟩ : ∃ gt, g 8 = .slice (some ⟨gt, 0, none⟩) n n ∧ g 10 = .slice (some ⟨gt, 0, none⟩) n n ∧ E' 10 = [] := P 10 (by decide)
        have hq10 := e8.symm.trans er10
        simp only [Value.tuple.injEq, Array.mk.injEq, List.cons.injEq, and_true, true_and, Value.agg.injEq, Value.slice.injEq, Option.some.injEq, Addr.mk.injEq] at hq10
        obtain rfl := hq10
        simp only [fullAct, e0, e1, e2, e3, e4, e5, e6, e7, e8, e9, e10, Act.put, List.setIfInBounds_toArray, List.set_cons_succ, List.set_cons_zero]
        clear P S hall e0 e1 e2 e3 e4 e5 e6 e7 e8 e9 e10
        try clear E'
        try clear E
        have HR5 := Hid2.mk (Ent.res_now (M.ents 0 _ rfl))
        obtain ⟨-, hrel2⟩ := HR5.out
        have HHD : Hid2 (∀ (k : Nat) (l : List Nat), L[k]? = some l → ∃ gk ck, hd[k]? = some (.slice (some ⟨gk, 0, none⟩) l.length ck)) := ⟨fun k l h => by
          obtain ⟨gk, ck, h1, _⟩ := Lst.cell HR5.out h
          exact ⟨gk, ck, h1⟩⟩
        have HCE : Hid2 (∀ (k : Nat) (l : List Nat) (gk ck : Nat), L[k]? = some l → hd[k]? = some (.slice (some ⟨gk, 0, none⟩) l.length ck) → ∀ w3, Lst w3 gL hd L → w3.cell? ⟨gL, k, none⟩ = some (.slice (some ⟨gk, 0, none⟩) l.length ck) ∧ rds w3 gk l.length (i64F l)) := ⟨fun k l gk ck h h2 w3 HL => by
          obtain ⟨g2, c2, h3, h4, h5⟩ := HL.cell h
          rw [h2] at h3
          cases h3
          exact ⟨h4, h5⟩⟩
        clear HR5 hrel2 HTO HCL HTL HZ HZA
        have M9 : Mm no w w2 [.box gt (nC n (prT L 0)) 2, .res D5 (fun w' => Lst w' gL hd L), .box bo (sqs 0 fun _ _ => 0) 32, .box bq (sqs (n : Int) t) 32, .rd gs l.length (i64F l)] := (M.sub [1, 0, 2, 3, 4] (by decide)).eq (by rw [made_nC, prT_zero]; rfl)
        clear M; (try clear C)
        have hpos := HP.out.pos
        have hL10 : (L.length : Int) ≤ 10 := by omega
        go_wp2
        go_loopw [10, 11] (fun i _ wr => ∃ k : Nat, k ≤ L.length ∧ i = .int .i64 (k : Int) ∧ Mm no w wr [.box gt (nC n (prT L k)) 2, .res D5 (fun w' => Lst w' gL hd L), .box bo (sqs 0 fun _ _ => 0) 32, .box bq (sqs (n : Int) t) 32, .rd gs l.length (i64F l)]) (fun i _ _ => L.length - (intOf i).toNat)
        case atStart => exact ⟨0, by omega, rfl, M9⟩
        case round =>
          clear M9
          obtain ⟨k, hk, rfl, M9⟩ := hrel
          have M := M9
          clear M9
          by_cases hlt : k < L.length
          · have hlt' : (k : Int) < (L.length : Int) := by omega
            have dlt : decide ((k : Int) < (L.length : Int)) = true := decide_eq_true hlt'
            have hLk := List.getElem?_eq_getElem hlt
            obtain ⟨gk, ck, hgk⟩ := HHD.out k _ hLk
            have HC1 := Hid2.mk (HCE.out k _ gk ck hLk hgk)
            have hmem := HP.out.mem _ (List.getElem_mem hlt)
            have hl10 := hmem.2.1
            have HXN := Hid2.mk hmem.2.2
            have HJ0 := Hid2.mk (prJ_zero L k L[k])
            have HJS := Hid2.mk (fun j x (h : L[k][j]? = some x) => prJ_set (n := n) (L := L) (k := k) h)
            have HJA := Hid2.mk (prJ_all HP.out hLk)
            clear hmem hLk hgk
            generalize L[k] = lk at *
            have C := M.ruleAll; simp only [Go.Proofs.YteonahoboligdaaDoor.ruleAll] at C
            go_wp2
            clear dlt
            go_loopw [11] (fun i wr => ∃ j : Nat, j ≤ lk.length ∧ i = .int .i64 (j : Int) ∧ Mm no w wr [.box gt (nC n (prJ L k lk j)) 2, .res D5 (fun w' => Lst w' gL hd L), .box bo (sqs 0 fun _ _ => 0) 32, .box bq (sqs (n : Int) t) 32, .rd gs l.length (i64F l)]) (fun i _ => lk.length - (intOf i).toNat)
            case atStart => exact ⟨0, by omega, rfl, M.eq (by rw [HJ0.out])⟩
            case round =>
              clear M HJ0
              obtain ⟨j, hj, rfl, M9⟩ := hrel
              have M := M9
              clear M9
              obtain ⟨hc0, hr0⟩ := HC1.out _ (Ent.res_now (M.ents 1 _ rfl))
              have hkl : k < L.length := hlt
              by_cases hjl : j < lk.length
              · have hjl' : (j : Int) < (lk.length : Int) := by omega
                have e1 := List.getElem?_eq_getElem hjl
                have hx := HXN.out _ (List.getElem_mem hjl)
                have hd1 := hr0.at_ j hjl
                rw [i64F_at e1] at hd1
                have HS := Hid2.mk (HJS.out j _ e1)
                clear e1 hr0
                generalize lk[j] = x at *
                have hxn : (x : Int) < (n : Int) := by omega
                have C := M.ruleAll; simp only [Go.Proofs.YteonahoboligdaaDoor.ruleAll] at C
                go_wp2_with (first | ((with_reducible apply wpM_st' M 0 2 (x) (nC n (prJ L k lk (j + 1)))); rfl; rfl; rfl; (first | exact .inl (by assumption) | exact .inr rfl | exact .inr (by assumption)); exact ⟨rfl, rfl, by kernel_rfl⟩; (exact Nat.lt_of_lt_of_eq (by omega) (nC_size _ _).symm); exact HS.out; clear M; (try clear C); intro w9 M; simp only [List.set_cons_zero, List.set_cons_succ, entBlk, entT, List.getElem?_cons_zero, List.getElem?_cons_succ] at M; have C := M.ruleAll; simp only [Go.Proofs.YteonahoboligdaaDoor.ruleAll] at C))
                go_roundw
                case rel => exact ⟨j + 1, by omega, by go_num, M⟩
                case measure => simp [intOf]; omega
              · obtain rfl : j = lk.length := by omega
                have hge : ¬ ((lk.length : Int) < (lk.length : Int)) := by omega
                clear hr0
                have C := M.ruleAll; simp only [Go.Proofs.YteonahoboligdaaDoor.ruleAll] at C
                go_wp2
                go_roundw
                case rel => exact ⟨k + 1, by omega, by go_num, M.eq (by rw [HJA.out])⟩
                case measure => simp [intOf]; omega
          · obtain rfl : k = L.length := by omega
            have hge : ¬ ((L.length : Int) < (L.length : Int)) := by omega
            have C := M.ruleAll; simp only [Go.Proofs.YteonahoboligdaaDoor.ruleAll] at C
            have hz := zero_sqs
            have hbd := build_sqn
            go_wp2_with (first | (refine wpList_build 32 _ rfl rfl [(0, .int .i64 (L.length : Int))] rfl _ (build_sqn _ _) ?_) | ((with_reducible apply wpM_alloc' M 32 (sqs 0 fun _ _ => 0)); rfl; exact ⟨rfl, _, zero_sqs _, rfl⟩; clear M; (try clear C); intro bs w9 h_bs M; have C := M.ruleAll; simp only [Go.Proofs.YteonahoboligdaaDoor.ruleAll] at C) | ((with_reducible apply wpM_sta' M 0 32 (sqs (L.length : Int) fun _ _ => 0)); rfl; rfl; rfl; rfl; (first | exact .inl (by assumption) | exact .inr rfl | exact .inr (by assumption)); exact ⟨rfl, inf_sqs.trans (congrArg some (sqs_size ..).symm), flat_sqs _ _⟩; (simp only [entCells, List.getElem?_cons_zero, List.getElem?_cons_succ, sqs_size, sqs_size]); clear M; (try clear C); intro w9 M; simp only [List.set_cons_zero, List.set_cons_succ, entBlk, entT, List.getElem?_cons_zero, List.getElem?_cons_succ] at M; have C := M.ruleAll; simp only [Go.Proofs.YteonahoboligdaaDoor.ruleAll] at C))
            clear hz hbd hge hlt
            have M9 := M
            clear M; (try clear C)
            go_loopw [13, 14] (fun i _ wr => ∃ a : Nat, a ≤ L.length ∧ i = .int .i64 (a : Int) ∧ Mm no w wr [.box bs (sqs (L.length : Int) (filT L.length (quT L t) (a * L.length))) 32, .box gt (nC n (prT L L.length)) 2, .res D5 (fun w' => Lst w' gL hd L), .box bo (sqs 0 fun _ _ => 0) 32, .box bq (sqs (n : Int) t) 32, .rd gs l.length (i64F l)]) (fun i _ _ => L.length - (intOf i).toNat)
            case atStart => exact ⟨0, by omega, rfl, M9.eq (by rw [Nat.zero_mul, filT_zero])⟩
            case round =>
              clear M9
              obtain ⟨a, ha, rfl, M9⟩ := hrel
              have M := M9
              clear M9
              by_cases hlta : a < L.length
              · have hlta' : (a : Int) < (L.length : Int) := by omega
                have dlt : decide ((a : Int) < (L.length : Int)) = true := decide_eq_true hlta'
                have hLa := List.getElem?_eq_getElem hlta
                obtain ⟨ga, ca, hga⟩ := HHD.out a _ hLa
                have HCA := Hid2.mk (HCE.out a _ ga ca hLa hga)
                have hxa := hdL_lt HP.out hlta
                have hda := hdL_at hLa
                have hla := (HP.out.mem _ (List.getElem_mem hlta)).1
                rw [if_neg (by omega)] at hda
                have hfa := i64F_at hda
                clear hga hda hLa
                generalize L[a] = la at *
                have C := M.ruleAll; simp only [Go.Proofs.YteonahoboligdaaDoor.ruleAll] at C
                go_wp2
                clear dlt
                have M9 := M
                clear M; (try clear C)
                go_loopw [14] (fun i wr => ∃ b : Nat, b ≤ L.length ∧ i = .int .i64 (b : Int) ∧ Mm no w wr [.box bs (sqs (L.length : Int) (filT L.length (quT L t) (a * L.length + b))) 32, .box gt (nC n (prT L L.length)) 2, .res D5 (fun w' => Lst w' gL hd L), .box bo (sqs 0 fun _ _ => 0) 32, .box bq (sqs (n : Int) t) 32, .rd gs l.length (i64F l)]) (fun i _ => L.length - (intOf i).toNat)
                case atStart => exact ⟨0, by omega, rfl, M9⟩
                case round =>
                  clear M9
                  obtain ⟨b, hb, rfl, M9⟩ := hrel
                  have M := M9
                  clear M9
                  by_cases hltb : b < L.length
                  · have hltb' : (b : Int) < (L.length : Int) := by omega
                    have hLb := List.getElem?_eq_getElem hltb
                    obtain ⟨gb, cb, hgb⟩ := HHD.out b _ hLb
                    have HCB := Hid2.mk (HCE.out b _ gb cb hLb hgb)
                    have hxb := hdL_lt HP.out hltb
                    have hdb := hdL_at hLb
                    have hlb := (HP.out.mem _ (List.getElem_mem hltb)).1
                    rw [if_neg (by omega)] at hdb
                    have hfb := i64F_at hdb
                    have hlb10 := (HP.out.mem _ (List.getElem_mem hltb)).2.1
                    clear hgb hdb hLb
                    generalize L[b] = lb at *
                    have HF := Hid2.mk (fun w3 (M3 : Mm no w w3 [.box bs (sqs (L.length : Int) (filT L.length (quT L t) (a * L.length + b))) 32, .box gt (nC n (prT L L.length)) 2, .res D5 (fun w' => Lst w' gL hd L), .box bo (sqs 0 fun _ _ => 0) 32, .box bq (sqs (n : Int) t) 32, .rd gs l.length (i64F l)]) => show w3.cell? ⟨gL, a, none⟩ = some (.slice (some ⟨ga, 0, none⟩) la.length ca) ∧ w3.cell? ⟨ga, 0, none⟩ = some (.int .i64 (hdL L a : Nat)) ∧ w3.cell? ⟨gL, b, none⟩ = some (.slice (some ⟨gb, 0, none⟩) lb.length cb) ∧ w3.cell? ⟨gb, 0, none⟩ = some (.int .i64 (hdL L b : Nat)) from by
                      have HL3 : Lst w3 gL hd L := Ent.res_now (M3.ents 2 _ rfl)
                      obtain ⟨c1, r1⟩ := HCA.out w3 HL3
                      obtain ⟨c2, r2⟩ := HCB.out w3 HL3
                      exact ⟨c1, by rw [r1.at_ 0 hla, hfa], c2, by rw [r2.at_ 0 hlb, hfb]⟩)
                    have HS := Hid2.mk (filT_set (n := (L.length : Int)) (N := L.length) (T := quT L t) (k := a) (l := b) hltb (by omega) (by omega))
                    have hlt3 := HLT.out _ _ hxa hxb
                    have q1 := sqs_get (n := (n : Int)) (t := t) (x := hdL L a) (y := hdL L b) (by omega) (by omega)
                    have q3 := nC_get (f := prT L L.length) (i := t (hdL L a) (hdL L b)) hlt3
                    have hv := prT_lt (L := L) (k := L.length) (x := t (hdL L a) (hdL L b)) hpos
                    have hqv : quT L t a b = prT L L.length (t (hdL L a) (hdL L b)) := rfl
                    rw [hqv] at HS
                    clear hqv
                    generalize filT L.length (quT L t) (a * L.length + b) = F0 at *
                    generalize hF1 : filT L.length (quT L t) (a * L.length + (b + 1)) = F1 at *
                    have HF1 := Hid2.mk hF1
                    clear hF1
                    generalize prT L L.length (t (hdL L a) (hdL L b)) = V at *
                    generalize t (hdL L a) (hdL L b) = u at *
                    generalize hdL L a = xa at *
                    generalize hdL L b = xb at *
                    generalize nC n (prT L L.length) = CC at *
                    have hxa10 : (xa : Int) < 10 := by omega
                    have hxb10 : (xb : Int) < 10 := by omega
                    have ha10 : (a : Int) < 10 := by omega
                    have hb10 : (b : Int) < 10 := by omega
                    have hun : (u : Int) < (n : Int) := by omega
                    have hv10 : (V : Int) < 256 := by omega
                    have C := M.ruleAll; simp only [Go.Proofs.YteonahoboligdaaDoor.ruleAll] at C
                    go_wp2
                    apply wp_region_mm M 25 (by kernel_rfl) (by kernel_rfl)
                    · simp only [List.take_succ_cons, List.take_zero]
                      repeat (first | exact wpText_nil | (apply wpText_cons; (intro w2 M; have C := M.ruleAll; simp only [Go.Proofs.YteonahoboligdaaDoor.ruleAll] at C; obtain ⟨k1, k2, k3, k4⟩ := HF.out _ M; go_wp2; exact ⟨rfl, rfl, M⟩); rfl))
                    clear M; (try clear C)
                    intro w4 M
                    simp only [List.drop_succ_cons, List.drop_zero]
                    have C := M.ruleAll; simp only [Go.Proofs.YteonahoboligdaaDoor.ruleAll] at C
                    go_wp2_with (first | ((with_reducible apply wpM_st' M 0 5 (1 + a * 10 + b) (sqs (L.length : Int) F1)); rfl; rfl; rfl; (first | exact .inl (by assumption) | exact .inr rfl | exact .inr (by assumption)); exact ⟨rfl, rfl, by kernel_rfl⟩; (exact Nat.lt_of_lt_of_eq (by omega) (sqs_size _ _).symm); exact HS.out; clear M; (try clear C); intro w9 M; simp only [List.set_cons_zero, List.set_cons_succ, entBlk, entT, List.getElem?_cons_zero, List.getElem?_cons_succ] at M; have C := M.ruleAll; simp only [Go.Proofs.YteonahoboligdaaDoor.ruleAll] at C))
                    go_roundw
                    case rel => exact ⟨b + 1, by omega, by go_num, by rw [HF1.out]; exact M⟩
                    case measure => simp [intOf]; omega
                  · obtain rfl : b = L.length := by omega
                    have hge : ¬ ((L.length : Int) < (L.length : Int)) := by omega
                    have C := M.ruleAll; simp only [Go.Proofs.YteonahoboligdaaDoor.ruleAll] at C
                    go_wp2
                    go_roundw
                    case rel => exact ⟨a + 1, by omega, by go_num, M.eq (by rw [Nat.add_mul, Nat.one_mul])⟩
                    case measure => simp [intOf]; omega
              · obtain rfl : a = L.length := by omega
                have hge : ¬ ((L.length : Int) < (L.length : Int)) := by omega
                have HNL := Hid2.mk (nC_list n (prT L L.length))
                have C := M.ruleAll; simp only [Go.Proofs.YteonahoboligdaaDoor.ruleAll] at C
                go_wp2_with (first | ((with_reducible apply wpM_lda' M 0 32 0 (sqs (L.length : Int) (filT L.length (quT L t) (L.length * L.length)))); rfl; rfl; rfl; exact ⟨rfl, inf_sqs.trans (congrArg some (sqs_size ..).symm), _, und_sqs, rfl⟩; exact whole_of rfl) | ((with_reducible apply wpM_sta' M 3 32 (sqs (L.length : Int) (filT L.length (quT L t) (L.length * L.length)))); rfl; rfl; rfl; rfl; (first | exact .inl (by assumption) | exact .inr rfl | exact .inr (by assumption)); exact ⟨rfl, inf_sqs.trans (congrArg some (sqs_size ..).symm), flat_sqs _ _⟩; (simp only [entCells, List.getElem?_cons_zero, List.getElem?_cons_succ, sqs_size, sqs_size]); clear M; (try clear C); intro w9 M; simp only [List.set_cons_zero, List.set_cons_succ, entBlk, entT, List.getElem?_cons_zero, List.getElem?_cons_succ] at M; have C := M.ruleAll; simp only [Go.Proofs.YteonahoboligdaaDoor.ruleAll] at C))
                have M7 := M.asRow 1 rfl w.heap.size n 1 hgt (by rw [nC_size, Nat.mul_one]) (by simp only [maxLen]; omega)
                rw [HNL.out] at M7
                have HM7 := Hid2.mk (M7.sub [1] (by decide))
                clear M7
                refine bodyPost_ret (v := .tuple #[.agg (sqs (L.length : Int) (filT L.length (quT L t) (L.length * L.length))), .slice (some ⟨gt, 0, none⟩) n n]) (by exact results_part2 rfl _ _ _ _ (sqs (L.length : Int) (filT L.length (quT L t) (L.length * L.length))) _ rfl und_sqs rfl inf_sqs (cells_of_blk0 (M.box 3 rfl)) _ rfl) rfl ?_
                exact ⟨_, rfl, HM7.out⟩

/-- What QuotientLoop of the reference hands back, as it is read. -/
def SqPost (N : Int) (V : Nat → Nat → Nat) (out : List Nat) (code : Int) (w : World) (e : Ending) (w' : World) : Prop :=
  ∃ p c, e = .returned (.tuple #[.agg (sqs N V), .slice p out.length c, .int .i64 code]) ∧ rdq w' p out.length (intF (toJ out)) ∧ Below w.heap.size w w'
theorem SqPost.nil {w w' : World} (hb : Below w.heap.size w w') (c : Int) : SqPost 0 (fun _ _ => 0) [] c w (.returned (.tuple #[.agg (sqs 0 fun _ _ => 0), .slice none 0 0, .int .i64 c])) w' :=
  ⟨none, 0, rfl, (fun h => absurd h (Nat.lt_irrefl _)), hb⟩
theorem row_rdqJ {w : World} {B c : Nat} {p : Option Addr} {l : List Nat} (h : w.ownsRow B 2 1 (.slice p l.length c) l.length (i64N l)) : rdq w p l.length (intF (toJ l)) := by
  have hr := rdq_of_own h
  rw [Nat.mul_one] at hr
  exact rdq.congr hr fun j hj => by rw [i64N_at hj, toJ_at hj]

set_option maxRecDepth 100000 in
set_option maxHeartbeats 4000000 in
theorem specQuot_any (n : Int) (t : Nat → Nat → Nat) (hby : Byt2 t) (xs : List Int) (hlen : xs.length ≤ 10000000) (w : World) (g cap : Nat) (hr : rds w g xs.length (intF xs)) :
    Calls Tryd.prog 14 #[.agg (sqs n t), .slice (some ⟨g, 0, none⟩) xs.length cap] w (SqPost (qlRes n t xs).N (qlRes n t xs).V (qlRes n t xs).out (qlRes n t xs).code w) := by
  have M := Mm.start no w
  have H1 := Hid2.mk (fun w1 (hb : Below w.heap.size w w1) => l06ListC_any n t hby xs hlen w1 (some ⟨g, 0, none⟩) cap ((hr.lat hb).rdq))
  have hz := zero_sqs
  have hbd := build_sqz
  by_cases hc : lsCode n t xs = 0
  · obtain ⟨N, m, rfl, hl, hm, hmb, rfl⟩ := ls_ok hc
    rw [qlRes_ok hm hc]
    rw [hc] at H1
    have hjl : ((toJ (mL m)).length) = (mL m).length := toJ_len _
    have hr2 : rds w g (mL m).length (i64F (mL m)) := ⟨hr.lt, fun j hj => by rw [hr.at_ j (by omega), toJ_at hj]⟩
    have HNM := Hid2.mk (fun w1 (hb : Below w.heap.size w w1) => l06Normal_any N t hl m hm hmb w1 g cap (hr2.lat hb))
    rw [hjl] at H1
    rw [hjl]
    have hlm := mL_le m
    cases hgm : norM N t m == m with
    | false =>
      rw [hgm] at HNM
      rw [if_neg (by decide)]
      generalize mL m = l at *
      clear hby hc hl hmb hr hr2 hgm
      go_enter Tryd.func14, Tryd.ntmps14
      go_wp2_with (first | ((with_reducible apply wpM_box' M 32 (sqs (N : Int) t)); rfl; exact ⟨rfl, rfl⟩; clear M; (try clear C); intro bq w9 h_bq M; have C := M.ruleAll; simp only [Go.Proofs.YteonahoboligdaaDoor.ruleAll] at C) | ((with_reducible apply wpM_alloc' M 32 (sqs 0 fun _ _ => 0)); rfl; exact ⟨rfl, _, zero_sqs _, rfl⟩; clear M; (try clear C); intro bo w9 h_bo M; have C := M.ruleAll; simp only [Go.Proofs.YteonahoboligdaaDoor.ruleAll] at C) | ((with_reducible apply wpM_lda' M 1 32 0 (sqs (N : Int) t)); rfl; rfl; rfl; exact ⟨rfl, inf_sqs.trans (congrArg some (sqs_size ..).symm), _, und_sqs, rfl⟩; exact whole_of rfl) | (go_at_call 27; ((with_reducible refine (H1.out _ M.below).mono ?_); rintro e w1 ⟨rfl, hb⟩; have hsz := M.size; (try (have G9 := G.later hb; clear G; have G := G9; clear G9)); have M9 := M.later hb; clear M; (try clear C); have M := M9; clear M9; have C := M.ruleAll; simp only [Go.Proofs.YteonahoboligdaaDoor.ruleAll] at C)) | (go_at_call 28; ((with_reducible refine (HNM.out _ M.below).mono ?_); rintro e w1 ⟨rfl, hb⟩; have hsz := M.size; (try (have G9 := G.later hb; clear G; have G := G9; clear G9)); have M9 := M.later hb; clear M; (try clear C); have M := M9; clear M9; have C := M.ruleAll; simp only [Go.Proofs.YteonahoboligdaaDoor.ruleAll] at C)) | (refine wpList_build 32 _ rfl rfl [] rfl _ (build_sqz _) ?_) | ((with_reducible apply wpM_sta' M 0 32 (sqs 0 fun _ _ => 0)); rfl; rfl; rfl; rfl; (first | exact .inl (by assumption) | exact .inr rfl | exact .inr (by assumption)); exact ⟨rfl, inf_sqs.trans (congrArg some (sqs_size ..).symm), flat_sqs _ _⟩; (simp only [entCells, List.getElem?_cons_zero, List.getElem?_cons_succ, sqs_size, sqs_size]); clear M; (try clear C); intro w9 M; simp only [List.set_cons_zero, List.set_cons_succ, entBlk, entT, List.getElem?_cons_zero, List.getElem?_cons_succ] at M; have C := M.ruleAll; simp only [Go.Proofs.YteonahoboligdaaDoor.ruleAll] at C))
      refine bodyPost_ret (v := .tuple #[.agg (sqs 0 fun _ _ => 0), .slice none 0 0, .int .i64 5]) (by exact results_part3 rfl _ _ _ _ (sqs 0 fun _ _ => 0) _ rfl und_sqs rfl inf_sqs (cells_of_blk0 (M.box 0 rfl)) _ _ rfl rfl) rfl ?_
      exact SqPost.nil M.below 5
    | true =>
      rw [hgm] at HNM
      rw [if_pos rfl]
      have hnm := beq_iff_eq.1 hgm
      have HQU := Hid2.mk (fun w1 (hb : Below w.heap.size w w1) => l06Quotient_any N t hl m hm hmb hnm w1 g cap (hr2.lat hb))
      have HLN := Hid2.mk (show ((List.range N).map (prT (quL N t m) (quL N t m).length)).length = N by rw [List.length_map, List.length_range])
      unfold QoPost at HQU
      generalize (List.range N).map (prT (quL N t m) (quL N t m).length) = pj at *
      generalize filT (quL N t m).length (quT (quL N t m) t) ((quL N t m).length * (quL N t m).length) = V at *
      generalize (quL N t m).length = N2 at *
      generalize mL m = l at *
      clear hby hc hl hmb hr hr2 hgm hnm
      go_enter Tryd.func14, Tryd.ntmps14
      go_wp2_with (first | ((with_reducible apply wpM_box' M 32 (sqs (N : Int) t)); rfl; exact ⟨rfl, rfl⟩; clear M; (try clear C); intro bq w9 h_bq M; have C := M.ruleAll; simp only [Go.Proofs.YteonahoboligdaaDoor.ruleAll] at C) | ((with_reducible apply wpM_alloc' M 32 (sqs 0 fun _ _ => 0)); rfl; exact ⟨rfl, _, zero_sqs _, rfl⟩; clear M; (try clear C); intro bo w9 h_bo M; have C := M.ruleAll; simp only [Go.Proofs.YteonahoboligdaaDoor.ruleAll] at C) | ((with_reducible apply wpM_lda' M 1 32 0 (sqs (N : Int) t)); rfl; rfl; rfl; exact ⟨rfl, inf_sqs.trans (congrArg some (sqs_size ..).symm), _, und_sqs, rfl⟩; exact whole_of rfl) | (go_at_call 27; ((with_reducible refine (H1.out _ M.below).mono ?_); rintro e w1 ⟨rfl, hb⟩; have hsz := M.size; (try (have G9 := G.later hb; clear G; have G := G9; clear G9)); have M9 := M.later hb; clear M; (try clear C); have M := M9; clear M9; have C := M.ruleAll; simp only [Go.Proofs.YteonahoboligdaaDoor.ruleAll] at C)) | (go_at_call 28; ((with_reducible refine (HNM.out _ M.below).mono ?_); rintro e w1 ⟨rfl, hb⟩; have hsz := M.size; (try (have G9 := G.later hb; clear G; have G := G9; clear G9)); have M9 := M.later hb; clear M; (try clear C); have M := M9; clear M9; have C := M.ruleAll; simp only [Go.Proofs.YteonahoboligdaaDoor.ruleAll] at C)) | (go_at_call 29; fail))
      refine (HQU.out _ M.below).mono ?_
      rintro e w2 ⟨v, rfl, M'⟩
      have M9 := M.joinRow M'
      obtain ⟨pv, cv, rfl⟩ := own_form (M9.row 0 rfl)
      have HRQ := Hid2.mk M9
      clear M; (try clear C)
      have M := M9
      clear M9 M' HQU
      have C := M.ruleAll; simp only [Go.Proofs.YteonahoboligdaaDoor.ruleAll] at C
      go_wp2_with (first | ((with_reducible apply wpM_alloc' M 32 (sqs 0 fun _ _ => 0)); rfl; exact ⟨rfl, _, zero_sqs _, rfl⟩; clear M; (try clear C); intro b8 w9 h_b8 M; have C := M.ruleAll; simp only [Go.Proofs.YteonahoboligdaaDoor.ruleAll] at C) | ((fail_if_success have := h_s1); ((with_reducible apply wpM_sta' M 0 32 (sqs (N2 : Int) V)); rfl; rfl; rfl; rfl; (first | exact .inl (by assumption) | exact .inr rfl | exact .inr (by assumption)); exact ⟨rfl, inf_sqs.trans (congrArg some (sqs_size ..).symm), flat_sqs _ _⟩; (simp only [entCells, List.getElem?_cons_zero, List.getElem?_cons_succ, sqs_size, sqs_size]); clear M; (try clear C); intro w9 M; simp only [List.set_cons_zero, List.set_cons_succ, entBlk, entT, List.getElem?_cons_zero, List.getElem?_cons_succ] at M; have C := M.ruleAll; simp only [Go.Proofs.YteonahoboligdaaDoor.ruleAll] at C); have h_s1 := True.intro) | ((with_reducible apply wpM_lda' M 0 32 0 (sqs (N2 : Int) V)); rfl; rfl; rfl; exact ⟨rfl, inf_sqs.trans (congrArg some (sqs_size ..).symm), _, und_sqs, rfl⟩; exact whole_of rfl) | ((with_reducible apply wpM_sta' M 2 32 (sqs (N2 : Int) V)); rfl; rfl; rfl; rfl; (first | exact .inl (by assumption) | exact .inr rfl | exact .inr (by assumption)); exact ⟨rfl, inf_sqs.trans (congrArg some (sqs_size ..).symm), flat_sqs _ _⟩; (simp only [entCells, List.getElem?_cons_zero, List.getElem?_cons_succ, sqs_size, sqs_size]); clear M; (try clear C); intro w9 M; simp only [List.set_cons_zero, List.set_cons_succ, entBlk, entT, List.getElem?_cons_zero, List.getElem?_cons_succ] at M; have C := M.ruleAll; simp only [Go.Proofs.YteonahoboligdaaDoor.ruleAll] at C))
      have HM7 := Hid2.mk (show Mm no w _ [.row w.heap.size (.slice pv N cv) N (i64N pj) 2 1] from M.sub [1] (by decide))
      refine bodyPost_ret (v := .tuple #[.agg (sqs (N2 : Int) V), .slice pv N cv, .int .i64 0]) (by exact results_part3 rfl _ _ _ _ (sqs (N2 : Int) V) _ rfl und_sqs rfl inf_sqs (cells_of_blk0 (M.box 2 rfl)) _ _ rfl rfl) rfl ?_
      refine ⟨pv, cv, by rw [HLN.out], ?_, HM7.out.below⟩
      have h := HM7.out.row 0 rfl
      rw [← HLN.out] at h
      exact row_rdqJ h
  · have hcc := ls_cases n t xs
    rw [show qlRes n t xs = ⟨0, fun _ _ => 0, [], lsCode n t xs⟩ from if_neg hc]
    generalize lsCode n t xs = c at *
    have hn0 : (c == 0) = false := beq_eq_false_iff_ne.2 hc
    have hn1 : (c != 0) = true := by rw [bne, hn0]; rfl
    clear hby hr
    go_enter Tryd.func14, Tryd.ntmps14
    go_wp2_with (first | ((with_reducible apply wpM_box' M 32 (sqs n t)); rfl; exact ⟨rfl, rfl⟩; clear M; (try clear C); intro bq w9 h_bq M; have C := M.ruleAll; simp only [Go.Proofs.YteonahoboligdaaDoor.ruleAll] at C) | ((with_reducible apply wpM_alloc' M 32 (sqs 0 fun _ _ => 0)); rfl; exact ⟨rfl, _, zero_sqs _, rfl⟩; clear M; (try clear C); intro bo w9 h_bo M; have C := M.ruleAll; simp only [Go.Proofs.YteonahoboligdaaDoor.ruleAll] at C) | ((with_reducible apply wpM_lda' M 1 32 0 (sqs n t)); rfl; rfl; rfl; exact ⟨rfl, inf_sqs.trans (congrArg some (sqs_size ..).symm), _, und_sqs, rfl⟩; exact whole_of rfl) | (go_at_call 27; ((with_reducible refine (H1.out _ M.below).mono ?_); rintro e w1 ⟨rfl, hb⟩; have hsz := M.size; (try (have G9 := G.later hb; clear G; have G := G9; clear G9)); have M9 := M.later hb; clear M; (try clear C); have M := M9; clear M9; have C := M.ruleAll; simp only [Go.Proofs.YteonahoboligdaaDoor.ruleAll] at C)) | (refine wpList_build 32 _ rfl rfl [] rfl _ (build_sqz _) ?_) | ((with_reducible apply wpM_sta' M 0 32 (sqs 0 fun _ _ => 0)); rfl; rfl; rfl; rfl; (first | exact .inl (by assumption) | exact .inr rfl | exact .inr (by assumption)); exact ⟨rfl, inf_sqs.trans (congrArg some (sqs_size ..).symm), flat_sqs _ _⟩; (simp only [entCells, List.getElem?_cons_zero, List.getElem?_cons_succ, sqs_size, sqs_size]); clear M; (try clear C); intro w9 M; simp only [List.set_cons_zero, List.set_cons_succ, entBlk, entT, List.getElem?_cons_zero, List.getElem?_cons_succ] at M; have C := M.ruleAll; simp only [Go.Proofs.YteonahoboligdaaDoor.ruleAll] at C))
    refine bodyPost_ret (v := .tuple #[.agg (sqs 0 fun _ _ => 0), .slice none 0 0, .int .i64 c]) (by exact results_part3 rfl _ _ _ _ (sqs 0 fun _ _ => 0) _ rfl und_sqs rfl inf_sqs (cells_of_blk0 (M.box 0 rfl)) _ _ rfl rfl) rfl ?_
    exact SqPost.nil M.below c
end Go.Proofs.YteonahoboligdaaDoor

/- The law of QuotientLoop: its walk. -/
namespace Go.Proofs.YteonahoboligdaaDoor
set_option linter.unusedSimpArgs false
set_option linter.unusedVariables false
open Go Go.RowKit

set_option maxRecDepth 100000 in
set_option maxHeartbeats 1000000 in
theorem eqByteA10_any (f : Nat → Nat) (w : World) : Calls Tryd.prog 56 #[.agg (bys f), .agg (bys f)] w fun e w' => e = .returned (.bool true) ∧ Below w.heap.size w w' := by
  have M := Mm.start no w
  go_enter Tryd.func56, Tryd.ntmps56
  go_wp2_with (first | (have hq := h_bf; clear hq; ((with_reducible apply wpM_box' M 22 (bys f)); rfl; exact ⟨rfl, rfl⟩; clear M; (try clear C); intro bg w9 h_bg M; have C := M.ruleAll; simp only [Go.Proofs.YteonahoboligdaaDoor.ruleAll] at C)) | ((with_reducible apply wpM_box' M 22 (bys f)); rfl; exact ⟨rfl, rfl⟩; clear M; (try clear C); intro bf w9 h_bf M; have C := M.ruleAll; simp only [Go.Proofs.YteonahoboligdaaDoor.ruleAll] at C))
  go_loopw [5] (fun i wr => ∃ k : Nat, k ≤ 10 ∧ i = .int .i64 (k : Int) ∧ Mm no w wr [.box bg (bys f) 22, .box bf (bys f) 22]) (fun i _ => 10 - (intOf i).toNat)
  case atStart => exact ⟨0, by omega, rfl, M⟩
  case round =>
    obtain ⟨k, hk, rfl, M9⟩ := hrel
    clear M; (try clear C)
    have M := M9
    clear M9
    have C := M.ruleAll; simp only [Go.Proofs.YteonahoboligdaaDoor.ruleAll] at C
    by_cases hlt : k < 10
    · have hlt' : (k : Int) < 10 := by omega
      have c1 := bys_get (f := f) hlt
      have he' : ((f k : Int) == (f k : Int)) = true := by simp
      go_wp2
      apply wp_region_mm M 6 (by kernel_rfl) (by kernel_rfl); (simp only [List.take_succ_cons, List.take_zero]; repeat (first | exact wpText_nil | (apply wpText_cons; (intro w2 M; have C := M.ruleAll; simp only [Go.Proofs.YteonahoboligdaaDoor.ruleAll] at C; go_wp2; exact ⟨rfl, rfl, M⟩); rfl))); (clear M; (try clear C); intro w2 M; simp only [List.drop_succ_cons, List.drop_zero]; have C := M.ruleAll; simp only [Go.Proofs.YteonahoboligdaaDoor.ruleAll] at C)
      go_wp2
      go_roundw
      case rel => exact ⟨k + 1, by omega, by go_num, M⟩
      case measure => simp [intOf]; omega
    · obtain rfl : k = 10 := by omega
      go_wp2
      go_ret
      exact ⟨rfl, M.below⟩

set_option maxRecDepth 100000 in
set_option maxHeartbeats 1000000 in
theorem eqTable_any (t : Nat → Nat → Nat) (w : World) : Calls Tryd.prog 32 #[.agg (tbs t), .agg (tbs t)] w fun e w' => e = .returned (.bool true) ∧ Below w.heap.size w w' := by
  have M := Mm.start no w
  go_enter Tryd.func32, Tryd.ntmps32
  go_wp2_with (first | (have hq := h_bf; clear hq; ((with_reducible apply wpM_box' M 30 (tbs t)); rfl; exact ⟨rfl, rfl⟩; clear M; (try clear C); intro bg w9 h_bg M; have C := M.ruleAll; simp only [Go.Proofs.YteonahoboligdaaDoor.ruleAll] at C)) | ((with_reducible apply wpM_box' M 30 (tbs t)); rfl; exact ⟨rfl, rfl⟩; clear M; (try clear C); intro bf w9 h_bf M; have C := M.ruleAll; simp only [Go.Proofs.YteonahoboligdaaDoor.ruleAll] at C))
  go_loopw [5] (fun i wr => ∃ k : Nat, k ≤ 10 ∧ i = .int .i64 (k : Int) ∧ Mm no w wr [.box bg (tbs t) 30, .box bf (tbs t) 30]) (fun i _ => 10 - (intOf i).toNat)
  case atStart => exact ⟨0, by omega, rfl, M⟩
  case round =>
    obtain ⟨k, hk, rfl, M9⟩ := hrel
    clear M; (try clear C)
    have M := M9
    clear M9
    have C := M.ruleAll; simp only [Go.Proofs.YteonahoboligdaaDoor.ruleAll] at C
    by_cases hlt : k < 10
    · have hlt' : (k : Int) < 10 := by omega
      have H := fun w1 => eqByteA10_any (t k) w1
      go_wp2
      apply wp_region_mm M 6 (by kernel_rfl) (by kernel_rfl); (simp only [List.take_succ_cons, List.take_zero]; repeat (first | exact wpText_nil | (apply wpText_cons; (intro w2 M; have C := M.ruleAll; simp only [Go.Proofs.YteonahoboligdaaDoor.ruleAll] at C; go_wp2_with (first | ((with_reducible apply wpM_lda' M 1 22 (k * 10) (bys (t k))); rfl; rfl; rfl; exact ⟨rfl, inf_bys.trans (congrArg some (bys_size ..).symm), _, und_bys, rfl⟩; exact tbs_row hlt) | ((with_reducible apply wpM_lda' M 0 22 (k * 10) (bys (t k))); rfl; rfl; rfl; exact ⟨rfl, inf_bys.trans (congrArg some (bys_size ..).symm), _, und_bys, rfl⟩; exact tbs_row hlt)); exact ⟨rfl, rfl, M⟩); rfl))); (clear M; (try clear C); intro w2 M; simp only [List.drop_succ_cons, List.drop_zero]; have C := M.ruleAll; simp only [Go.Proofs.YteonahoboligdaaDoor.ruleAll] at C)
      go_wp2_with (first | (go_at_call 56; ((with_reducible refine (H _).mono ?_); rintro e w1 ⟨rfl, hb⟩; have hsz := M.size; (try (have G9 := G.later hb; clear G; have G := G9; clear G9)); have M9 := M.later hb; clear M; (try clear C); have M := M9; clear M9; have C := M.ruleAll; simp only [Go.Proofs.YteonahoboligdaaDoor.ruleAll] at C)))
      go_roundw
      case rel => exact ⟨k + 1, by omega, by go_num, M⟩
      case measure => simp [intOf]; omega
    · obtain rfl : k = 10 := by omega
      go_wp2
      go_ret
      exact ⟨rfl, M.below⟩

set_option maxRecDepth 100000 in
set_option maxHeartbeats 1000000 in
theorem eqSquare_any (n : Int) (t : Nat → Nat → Nat) (w : World) : Calls Tryd.prog 16 #[.agg (sqs n t), .agg (sqs n t)] w fun e w' => e = .returned (.bool true) ∧ Below w.heap.size w w' := by
  have M := Mm.start no w
  have so := sqs_order n t
  have he : (n == n) = true := by simp
  have H := fun w1 => eqTable_any t w1
  go_enter Tryd.func16, Tryd.ntmps16
  go_wp2_with (first | (have hq := h_bf; clear hq; ((with_reducible apply wpM_box' M 32 (sqs n t)); rfl; exact ⟨rfl, rfl⟩; clear M; (try clear C); intro bg w9 h_bg M; have C := M.ruleAll; simp only [Go.Proofs.YteonahoboligdaaDoor.ruleAll] at C)) | ((with_reducible apply wpM_box' M 32 (sqs n t)); rfl; exact ⟨rfl, rfl⟩; clear M; (try clear C); intro bf w9 h_bf M; have C := M.ruleAll; simp only [Go.Proofs.YteonahoboligdaaDoor.ruleAll] at C) | ((with_reducible apply wpM_lda' M 1 30 (1) (tbs t)); rfl; rfl; rfl; exact ⟨rfl, inf_tbl.trans (congrArg some (tbs_size ..).symm), _, und_tbl, rfl⟩; exact sqs_tbs) | ((with_reducible apply wpM_lda' M 0 30 (1) (tbs t)); rfl; rfl; rfl; exact ⟨rfl, inf_tbl.trans (congrArg some (tbs_size ..).symm), _, und_tbl, rfl⟩; exact sqs_tbs) | (go_at_call 32; ((with_reducible refine (H _).mono ?_); rintro e w1 ⟨rfl, hb⟩; have hsz := M.size; (try (have G9 := G.later hb; clear G; have G := G9; clear G9)); have M9 := M.later hb; clear M; (try clear C); have M := M9; clear M9; have C := M.ruleAll; simp only [Go.Proofs.YteonahoboligdaaDoor.ruleAll] at C)))
  go_ret
  exact ⟨rfl, M.below⟩
theorem ql_len (n : Int) (t : Nat → Nat → Nat) (xs : List Int) : (qlRes n t xs).out.length ≤ 10 := by
  unfold qlRes
  split
  · rename_i hc
    obtain ⟨N, m, rfl, hl, _⟩ := ls_ok hc
    have := hl.sq.hi
    split
    · show ((List.range ((N : Int).toNat)).map _).length ≤ 10
      rw [List.length_map, List.length_range]; omega
    · exact Nat.zero_le _
  · exact Nat.zero_le _

set_option maxRecDepth 100000 in
set_option maxHeartbeats 8000000 in
theorem lawQuotient_any (n : Int) (t : Nat → Nat → Nat) (hby : Byt2 t) (xs : List Int) (hxl : xs.length ≤ maxLen) (w : World) (hg : glbT w) (p : Option Addr) (cap : Nat) (hr : rdp w p xs.length (intF xs)) :
    Calls Tryd.prog 4 #[.agg (sqs n t), .slice p xs.length cap] w fun e w' => e = .returned (.bool true) ∧ Below w.heap.size w w' := by
  have M := Mm.start no w
  have hxm : xs.length ≤ 9223372036854775807 := hxl
  by_cases hbig : 1048576 < xs.length
  · have hb1 : (1048576 : Int) < (xs.length : Int) := by omega
    clear hby hr hg
    go_enter Tryd.func4, Tryd.ntmps4
    go_wp2_with (first | ((with_reducible apply wpM_box' M 25 (sqs n t)); rfl; exact ⟨rfl, rfl⟩; clear M; (try clear C); intro bq w9 h_bq M; have C := M.ruleAll; simp only [Go.Proofs.YteonahoboligdaaDoor.ruleAll] at C))
    go_ret
    exact ⟨rfl, M.below⟩
  have hxs : xs.length ≤ 1048576 := by omega
  have hxi : ¬ ((1048576 : Int) < (xs.length : Int)) := by omega
  have HSP := Hid2.mk (fun w1 g cap h => specQuot_any n t hby xs (by omega) w1 g cap h)
  have HIM := Hid2.mk (fun w1 (hb : Below w.heap.size w w1) p cap h => implQuot_any n t hby xs (by omega) w1 (hg.later hb) p cap h)
  have HTQ := Hid2.mk (fun w1 => toSquare_any n t w1)
  have HTI := Hid2.mk (fun w1 (hb : Below w.heap.size w w1) => toRow_any xs hxs w1 p cap (hr.later hb))
  have hol := ql_len n t xs
  clear hby hr hbig hg
  generalize (qlRes n t xs).N = N at HSP HIM
  generalize (qlRes n t xs).V = V at HSP HIM
  generalize (qlRes n t xs).out = out at HSP HIM hol
  generalize (qlRes n t xs).code = code at HSP HIM
  have HES := Hid2.mk (fun w1 => eqSquare_any N V w1)
  have HEQ := Hid2.mk (fun w1 p1 p2 c1 c2 (h1 : rdq w1 p1 out.length (intF (toJ out))) (h2 : rdq w1 p2 out.length (intF (toJ out))) => show Calls Tryd.prog 10 #[.slice p1 out.length c1, .slice p2 out.length c2] w1 fun e w' => e = .returned (.bool true) ∧ Below w1.heap.size w1 w' from by
    have h := eqInt64S_any (toJ out) (by rw [toJ_len]; omega) w1 p1 p2 c1 c2 (by rw [toJ_len]; exact h1) (by rw [toJ_len]; exact h2)
    rwa [toJ_len] at h)
  have HHD := Hid2.mk (fun w1 p c => heldInt64S_any p out.length c 1 (by omega) (by omega) w1)
  have hcc : (code == code) = true := by simp
  have hcn : (code != code) = false := by simp
  have HX0 : Hid2 (¬ ((1 : Int) + (xs.length : Int) < 0)) := ⟨by omega⟩
  have hq0 : ¬ ((1 : Int) + (out.length : Int) < 0) := by omega
  have hqq : ((1 : Int) + (out.length : Int) == 1 + (out.length : Int)) = true := by simp
  have hqn : ((1 : Int) + (out.length : Int) != 1 + (out.length : Int)) = false := by simp
  have hz := zero_sqs
  go_enter Tryd.func4, Tryd.ntmps4
  go_wp2_with (first | ((with_reducible apply wpM_box' M 25 (sqs n t)); rfl; exact ⟨rfl, rfl⟩; clear M; (try clear C); intro bq w9 h_bq M; have C := M.ruleAll; simp only [Go.Proofs.YteonahoboligdaaDoor.ruleAll] at C) | ((with_reducible apply wpM_lda' M 0 25 0 (sqs n t)); rfl; rfl; rfl; exact ⟨rfl, inf_sq0.trans (congrArg some (sqs_size ..).symm), _, und_sq0, rfl⟩; exact whole_of rfl) | (go_at_call 6; ((with_reducible refine (HTQ.out _).mono ?_); rintro e w1 ⟨rfl, hb⟩; have hsz := M.size; (try (have G9 := G.later hb; clear G; have G := G9; clear G9)); have M9 := M.later hb; clear M; (try clear C); have M := M9; clear M9; have C := M.ruleAll; simp only [Go.Proofs.YteonahoboligdaaDoor.ruleAll] at C)) | (go_at_call 7; fail))
  refine (HTI.out _ M.below).mono ?_
  rintro e w2 ⟨g0, rfl, M'⟩
  have M9 := M.joinRow M'
  clear M; (try clear C)
  have M := M9
  clear M9 M'
  go_wp2_with (first | (go_at_call 14; fail))
  refine (HSP.out _ _ _ (row_rds (M.row 0 rfl))).mono ?_
  rintro e wS ⟨pw, cw, rfl, hW, hb⟩
  have M9 := (M.later hb).drop 0
  clear M; (try clear C)
  have HW := Hid2.mk (fun w' (hb : Below wS.heap.size wS w') => hW.later hb)
  have HMW := Hid2.mk M9
  have M : Mm no wS wS [.box bq (sqs n t) 25] := M9.anew
  clear M9 hW hb
  have C := M.ruleAll; simp only [Go.Proofs.YteonahoboligdaaDoor.ruleAll] at C
  go_wp2_with (first | ((with_reducible apply wpM_alloc' M 32 (sqs 0 fun _ _ => 0)); rfl; exact ⟨rfl, _, zero_sqs _, rfl⟩; clear M; (try clear C); intro bw w9 h_bw M; have C := M.ruleAll; simp only [Go.Proofs.YteonahoboligdaaDoor.ruleAll] at C) | ((with_reducible apply wpM_sta' M 0 32 (sqs N V)); rfl; rfl; rfl; rfl; (first | exact .inl (by assumption) | exact .inr rfl | exact .inr (by assumption)); exact ⟨rfl, inf_sqs.trans (congrArg some (sqs_size ..).symm), flat_sqs _ _⟩; (simp only [entCells, List.getElem?_cons_zero, List.getElem?_cons_succ, sqs_size, sqs_size]); clear M; (try clear C); intro w9 M; simp only [List.set_cons_zero, List.set_cons_succ, entBlk, entT, List.getElem?_cons_zero, List.getElem?_cons_succ] at M; have C := M.ruleAll; simp only [Go.Proofs.YteonahoboligdaaDoor.ruleAll] at C) | (go_at_call 7; fail))
  refine (HTI.out _ (HMW.out.onto M).below).mono ?_
  rintro e w3 ⟨g1, rfl, M'⟩
  have M9 := M.joinRow M'
  clear M; (try clear C)
  have M := M9
  clear M9 M'
  have C := M.ruleAll; simp only [Go.Proofs.YteonahoboligdaaDoor.ruleAll] at C
  go_wp2_with (first | ((with_reducible apply wpM_lda' M 2 25 0 (sqs n t)); rfl; rfl; rfl; exact ⟨rfl, inf_sq0.trans (congrArg some (sqs_size ..).symm), _, und_sq0, rfl⟩; exact whole_of rfl) | (go_at_call 6; ((with_reducible refine (HTQ.out _).mono ?_); rintro e w1 ⟨rfl, hb⟩; have hsz := M.size; (try (have G9 := G.later hb; clear G; have G := G9; clear G9)); have M9 := M.later hb; clear M; (try clear C); have M := M9; clear M9; have C := M.ruleAll; simp only [Go.Proofs.YteonahoboligdaaDoor.ruleAll] at C)) | (go_at_call 15; fail))
  refine (HIM.out _ (HMW.out.onto M).below _ _ (fa_rdq rfl (M.row 0 rfl))).mono ?_
  rintro e w5 ⟨vg, rfl, M'⟩
  have M9 := M.joinRow M'
  obtain ⟨pg, cg, rfl⟩ := own_form (M9.row 0 rfl)
  clear M; (try clear C)
  have M := M9
  clear M9 M'
  have C := M.ruleAll; simp only [Go.Proofs.YteonahoboligdaaDoor.ruleAll] at C
  go_wp2_with (first | ((with_reducible apply wpM_alloc' M 32 (sqs 0 fun _ _ => 0)); rfl; exact ⟨rfl, _, zero_sqs _, rfl⟩; clear M; (try clear C); intro bg w9 h_bg M; have C := M.ruleAll; simp only [Go.Proofs.YteonahoboligdaaDoor.ruleAll] at C) | ((fail_if_success have := h_s1); ((with_reducible apply wpM_sta' M 0 32 (sqs N V)); rfl; rfl; rfl; rfl; (first | exact .inl (by assumption) | exact .inr rfl | exact .inr (by assumption)); exact ⟨rfl, inf_sqs.trans (congrArg some (sqs_size ..).symm), flat_sqs _ _⟩; (simp only [entCells, List.getElem?_cons_zero, List.getElem?_cons_succ, sqs_size, sqs_size]); clear M; (try clear C); intro w9 M; simp only [List.set_cons_zero, List.set_cons_succ, entBlk, entT, List.getElem?_cons_zero, List.getElem?_cons_succ] at M; have C := M.ruleAll; simp only [Go.Proofs.YteonahoboligdaaDoor.ruleAll] at C); have h_s1 := True.intro) | ((with_reducible apply wpM_lda' M 0 32 0 (sqs N V)); rfl; rfl; rfl; exact ⟨rfl, inf_sqs.trans (congrArg some (sqs_size ..).symm), _, und_sqs, rfl⟩; exact whole_of rfl) | ((with_reducible apply wpM_lda' M 3 32 0 (sqs N V)); rfl; rfl; rfl; exact ⟨rfl, inf_sqs.trans (congrArg some (sqs_size ..).symm), _, und_sqs, rfl⟩; exact whole_of rfl) | (go_at_call 16; ((with_reducible refine (HES.out _).mono ?_); rintro e w1 ⟨rfl, hb⟩; have hsz := M.size; (try (have G9 := G.later hb; clear G; have G := G9; clear G9)); have M9 := M.later hb; clear M; (try clear C); have M := M9; clear M9; have C := M.ruleAll; simp only [Go.Proofs.YteonahoboligdaaDoor.ruleAll] at C)) | (go_at_call 10; fail))
  refine (HEQ.out _ _ _ _ _ (row_rdqJ (M.row 1 rfl)) (HW.out _ M.below)).mono ?_
  rintro e w6 ⟨rfl, hb⟩
  have M9 := M.later hb
  clear M; (try clear C)
  have M := M9
  clear M9 hb
  have C := M.ruleAll; simp only [Go.Proofs.YteonahoboligdaaDoor.ruleAll] at C
  try clear h_s1
  go_wp2_with (first | (go_at_call 7; fail))
  refine (HTI.out _ (HMW.out.onto M).below).mono ?_
  rintro e w7 ⟨g8, rfl, M'⟩
  have M9 := M.later M'.below
  clear M; (try clear C)
  have M := M9
  clear M9
  have HQ8 := Hid2.mk (fa_rdq rfl (M'.row 0 rfl))
  clear M'
  go_wp2_with (first | (go_at_call 10; fail))
  refine (eqInt64S_any xs (by omega) _ _ _ _ _ (fa_rdq rfl (M.row 2 rfl)) HQ8.out).mono ?_
  rintro e w8 ⟨rfl, hb⟩
  have M9 := M.later hb
  clear M; (try clear C)
  have M := M9
  clear M9 hb
  have C := M.ruleAll; simp only [Go.Proofs.YteonahoboligdaaDoor.ruleAll] at C
  clear HQ8
  go_wp2_with (first | (go_at_call 11; fail))
  refine (markInt64S_any wS.heap.size _ _ _ 1 (by omega) (by omega) _ (M.row 2 rfl)).mono ?_
  rintro e w9 ⟨rfl, hk, hown⟩
  have M9 := M.rowmark 2 rfl (Nat.le_refl _) hk hown
  simp only [List.set_cons_zero, List.set_cons_succ] at M9
  clear M; (try clear C)
  have M := M9
  clear M9 hk hown
  have C := M.ruleAll; simp only [Go.Proofs.YteonahoboligdaaDoor.ruleAll] at C
  have hx0 := HX0.out
  go_wp2_with (first | (refine wpList_load_part_g 32 _ rfl rfl (bg) (0) rfl (sqs N V) _ und_sqs rfl inf_sqs (cells_of_blk0 (M.box 0 rfl)) ?_) | (refine wpList_load_part_g 32 _ rfl rfl (bw) (0) rfl (sqs N V) _ und_sqs rfl inf_sqs (cells_of_blk0 (M.box 3 rfl)) ?_) | (go_at_call 16; ((with_reducible refine (HES.out _).mono ?_); rintro e w1 ⟨rfl, hb⟩; have hsz := M.size; (try (have G9 := G.later hb; clear G; have G := G9; clear G9)); have M9 := M.later hb; clear M; (try clear C); have M := M9; clear M9; have C := M.ruleAll; simp only [Go.Proofs.YteonahoboligdaaDoor.ruleAll] at C)) | (go_at_call 10; fail))
  refine (HEQ.out _ _ _ _ _ (row_rdqJ (M.row 1 rfl)) (HW.out _ M.below)).mono ?_
  rintro e w6 ⟨rfl, hb⟩
  have M9 := M.later hb
  clear M; (try clear C)
  have M := M9
  clear M9 hb
  have C := M.ruleAll; simp only [Go.Proofs.YteonahoboligdaaDoor.ruleAll] at C
  clear hx0
  go_wp2_with (first | (go_at_call 11; fail))
  refine (markInt64S_any wS.heap.size _ _ _ 1 (by omega) (by omega) _ (M.row 1 rfl)).mono ?_
  rintro e w10 ⟨rfl, hk, hown⟩
  have M9 := M.rowmark 1 rfl (Nat.le_refl _) hk hown
  simp only [List.set_cons_zero, List.set_cons_succ] at M9
  clear M; (try clear C)
  have M := M9
  clear M9 hk hown
  have C := M.ruleAll; simp only [Go.Proofs.YteonahoboligdaaDoor.ruleAll] at C
  go_wp2_with (first | (go_at_call 17; fail))
  refine (HHD.out _ _ _ (mk_rdq (M.row 1 rfl))).mono ?_
  rintro e w12 ⟨rfl, hb⟩
  have M9 := M.later hb
  clear M; (try clear C)
  have M := M9
  clear M9 hb
  have C := M.ruleAll; simp only [Go.Proofs.YteonahoboligdaaDoor.ruleAll] at C
  go_wp2_with (first | ((with_reducible apply wpM_lda' M 4 25 0 (sqs n t)); rfl; rfl; rfl; exact ⟨rfl, inf_sq0.trans (congrArg some (sqs_size ..).symm), _, und_sq0, rfl⟩; exact whole_of rfl) | (go_at_call 6; ((with_reducible refine (HTQ.out _).mono ?_); rintro e w1 ⟨rfl, hb⟩; have hsz := M.size; (try (have G9 := G.later hb; clear G; have G := G9; clear G9)); have M9 := M.later hb; clear M; (try clear C); have M := M9; clear M9; have C := M.ruleAll; simp only [Go.Proofs.YteonahoboligdaaDoor.ruleAll] at C)) | (go_at_call 7; fail))
  refine (HTI.out _ (HMW.out.onto M).below).mono ?_
  rintro e w13 ⟨g9, rfl, M'⟩
  have M9 := M.later M'.below
  clear M; (try clear C)
  have M := M9
  clear M9
  have HQ9 := Hid2.mk (fa_rdq rfl (M'.row 0 rfl))
  clear M'
  go_wp2_with (first | (go_at_call 15; fail))
  refine (HIM.out _ (HMW.out.onto M).below _ _ HQ9.out).mono ?_
  rintro e w14 ⟨vh, rfl, M'⟩
  have M9 := M.joinRow M'
  obtain ⟨ph, ch, rfl⟩ := own_form (M9.row 0 rfl)
  clear M; (try clear C)
  have M := M9
  clear M9 M' HQ9
  have C := M.ruleAll; simp only [Go.Proofs.YteonahoboligdaaDoor.ruleAll] at C
  go_wp2_with (first | ((with_reducible apply wpM_alloc' M 32 (sqs 0 fun _ _ => 0)); rfl; exact ⟨rfl, _, zero_sqs _, rfl⟩; clear M; (try clear C); intro bh w9 h_bh M; have C := M.ruleAll; simp only [Go.Proofs.YteonahoboligdaaDoor.ruleAll] at C) | ((fail_if_success have := h_s2); ((with_reducible apply wpM_sta' M 0 32 (sqs N V)); rfl; rfl; rfl; rfl; (first | exact .inl (by assumption) | exact .inr rfl | exact .inr (by assumption)); exact ⟨rfl, inf_sqs.trans (congrArg some (sqs_size ..).symm), flat_sqs _ _⟩; (simp only [entCells, List.getElem?_cons_zero, List.getElem?_cons_succ, sqs_size, sqs_size]); clear M; (try clear C); intro w9 M; simp only [List.set_cons_zero, List.set_cons_succ, entBlk, entT, List.getElem?_cons_zero, List.getElem?_cons_succ] at M; have C := M.ruleAll; simp only [Go.Proofs.YteonahoboligdaaDoor.ruleAll] at C); have h_s2 := True.intro) | ((with_reducible apply wpM_lda' M 0 32 0 (sqs N V)); rfl; rfl; rfl; exact ⟨rfl, inf_sqs.trans (congrArg some (sqs_size ..).symm), _, und_sqs, rfl⟩; exact whole_of rfl) | ((with_reducible apply wpM_lda' M 5 32 0 (sqs N V)); rfl; rfl; rfl; exact ⟨rfl, inf_sqs.trans (congrArg some (sqs_size ..).symm), _, und_sqs, rfl⟩; exact whole_of rfl) | (go_at_call 16; ((with_reducible refine (HES.out _).mono ?_); rintro e w1 ⟨rfl, hb⟩; have hsz := M.size; (try (have G9 := G.later hb; clear G; have G := G9; clear G9)); have M9 := M.later hb; clear M; (try clear C); have M := M9; clear M9; have C := M.ruleAll; simp only [Go.Proofs.YteonahoboligdaaDoor.ruleAll] at C)) | (go_at_call 10; fail))
  refine (HEQ.out _ _ _ _ _ (row_rdqJ (M.row 1 rfl)) (HW.out _ M.below)).mono ?_
  rintro e w6 ⟨rfl, hb⟩
  have M9 := M.later hb
  clear M; (try clear C)
  have M := M9
  clear M9 hb
  have C := M.ruleAll; simp only [Go.Proofs.YteonahoboligdaaDoor.ruleAll] at C
  go_wp2_with (first | (go_at_call 17; fail))
  refine (HHD.out _ _ _ (mk_rdq (M.row 3 rfl))).mono ?_
  rintro e w12 ⟨rfl, hb⟩
  have M9 := M.later hb
  clear M; (try clear C)
  have M := M9
  clear M9 hb
  have C := M.ruleAll; simp only [Go.Proofs.YteonahoboligdaaDoor.ruleAll] at C
  go_wp2
  go_ret
  exact ⟨rfl, (HMW.out.onto M).below⟩
end Go.Proofs.YteonahoboligdaaDoor

