/- Sets of elements, for the program and for the reference: contracts. -/
import Derived.Test.YtjdfjlgjpjgnhaaC43
namespace Go.Proofs.Ytjdfjlgjpjgnhaa
set_option linter.unusedSimpArgs false
set_option linter.unusedVariables false
open Go Go.RowKit

/-- The number at a place. -/
def elI (xs : List Int) (j : Nat) : Int := xs.getD j 0
/-- A row of numbers. -/
def intF (xs : List Int) (j : Nat) : Value := .int .i64 (elI xs j)
def setOk (n : Int) (xs : List Int) (i : Nat) : Bool := decide (0 ≤ elI xs i) && decide (elI xs i ≤ n - 1) && (decide (i = 0) || decide (elI xs (i - 1) < elI xs i))
/-- Whether a list is a strictly ascending one of elements. -/
def setB (n : Int) (xs : List Int) : Bool := (List.range xs.length).all (setOk n xs)
theorem setB_fails {n : Int} {xs : List Int} {k : Nat} (hk : k < xs.length) (h : setOk n xs k = false) : setB n xs = false := by
  unfold setB
  exact List.all_eq_false.2 ⟨k, List.mem_range.2 hk, by simp [h]⟩
theorem setB_all {n : Int} {xs : List Int} (h : ∀ i, i < xs.length → setOk n xs i = true) : setB n xs = true := List.all_eq_true.2 fun i hi => h i (List.mem_range.1 hi)

set_option maxRecDepth 100000 in
set_option maxHeartbeats 1000000 in
theorem isList_any (q : Sqr) (h1 : 1 ≤ q.n) (h2 : q.n ≤ 10) (xs : List Int) (hlen : xs.length ≤ 10000000) (w : World) (p : Option Addr) (cap : Nat) (hr : rdq w p xs.length (intF xs)) :
    Calls Try.prog 89 #[.agg (sqs q.n q.t), .slice p xs.length cap] w fun e w' => e = .returned (.bool (setB q.n xs)) ∧ Below w.heap.size w w' := by
  have M := Mm.start no w
  have so := sqs_order q.n q.t
  have F1 := Hid2.mk (fun w1 (hb : Below w.heap.size w w1) => hr.later hb)
  have hw := wrap_small (q.n - 1) (by omega) (by omega)
  clear hr
  go_enter Try.func89, Try.ntmps89
  go_wp2_with (first | ((with_reducible apply wpM_box' M 30 (sqs q.n q.t)); rfl; exact ⟨rfl, rfl⟩; clear M; (try clear C); intro bq w9 h_bq M; have C := M.ruleAll; simp only [Go.Proofs.Ytjdfjlgjpjgnhaa.ruleAll] at C))
  go_loopw [9] (fun i wr => ∃ k : Nat, k ≤ xs.length ∧ i = .int .i64 (k : Int) ∧ (∀ j, j < k → setOk q.n xs j = true) ∧ Mm no w wr [.box bq (sqs q.n q.t) 30]) (fun i _ => xs.length - (intOf i).toNat)
  case atStart => exact ⟨0, by omega, rfl, fun j h => by omega, M⟩
  case round =>
    obtain ⟨k, hk, rfl, hl, M9⟩ := hrel
    clear M; (try clear C)
    have M := M9
    clear M9
    have C := M.ruleAll; simp only [Go.Proofs.Ytjdfjlgjpjgnhaa.ruleAll] at C
    have HL := Hid2.mk hl
    clear hl
    by_cases hlt : k < xs.length
    · have hlt' : (k : Int) < (xs.length : Int) := by omega
      obtain ⟨g, rfl, _⟩ := F1.out _ M.below (by omega)
      have hcell : ∀ j, j < xs.length → ∀ w1, Below w.heap.size w w1 → w1.cell? ⟨g, j, none⟩ = some (.int .i64 (elI xs j)) := fun j hj w1 hb => by
        obtain ⟨g', e, hr⟩ := F1.out w1 hb (by omega)
        cases e
        exact hr.at_ j hj
      have HF := Hid2.mk (fun h => @setB_fails q.n xs k hlt h)
      have HN := Hid2.mk (show setOk q.n xs k = true → ∀ j, j < k + 1 → setOk q.n xs j = true from fun h j h1 => by
        rcases Nat.lt_or_eq_of_le (Nat.lt_succ_iff.1 h1) with h2 | rfl
        · exact HL.out j h2
        · exact h)
      have hok : setOk q.n xs k = (decide (0 ≤ elI xs k) && decide (elI xs k ≤ q.n - 1) && (decide (k = 0) || decide (elI xs (k - 1) < elI xs k))) := rfl
      have hc0 := hcell k hlt _ M.below
      have HC := Hid2.mk hcell
      clear hcell
      by_cases hin : 0 ≤ elI xs k ∧ elI xs k ≤ q.n - 1
      · have H := fun w1 => within_b (elI xs k) 0 (q.n - 1) true (by simp only [true_iff]; exact hin) w1
        by_cases hk0 : k = 0
        · subst hk0
          have HOK := Hid2.mk (show setOk q.n xs 0 = true by rw [hok]; simp [hin])
          generalize elI xs 0 = x at hc0 H
          clear hok hin
          go_wp2_with (first | (go_at_call 111; ((with_reducible refine (H _).mono ?_); rintro e w1 ⟨rfl, rfl⟩)))
          go_roundw
          case rel => exact ⟨1, by omega, by go_num, HN.out HOK.out, M⟩
          case measure => simp [intOf]; omega
        · obtain ⟨j, rfl⟩ : ∃ j, k = j + 1 := ⟨k - 1, by omega⟩
          have hc1 := HC.out j (by omega) _ M.below
          have hj1 : (j : Int) < (xs.length : Int) := by omega
          have hw1 : wrap64 (j : Int) = (j : Int) := wrap_small _ (by omega) (by omega)
          have hjp : (0 : Int) < (j : Int) + 1 := by omega
          by_cases hlt2 : elI xs j < elI xs (j + 1)
          · have HOK := Hid2.mk (show setOk q.n xs (j + 1) = true by rw [hok]; simp [hin, hlt2])
            generalize elI xs (j + 1) = x at hc0 H hlt2
            generalize elI xs j = y at hc1 hlt2
            have hd : decide (x ≤ y) = false := decide_eq_false (by omega)
            clear hok hin
            go_wp2_with (first | (go_at_call 111; ((with_reducible refine (H _).mono ?_); rintro e w1 ⟨rfl, rfl⟩)))
            exact ⟨⟨j + 1 + 1, by omega, by go_num, HN.out HOK.out, M⟩, by simp [intOf]; omega⟩
          · have HOK := Hid2.mk (HF.out (show setOk q.n xs (j + 1) = false by rw [hok]; simp [hlt2]))
            generalize elI xs (j + 1) = x at hc0 H hlt2
            generalize elI xs j = y at hc1 hlt2
            have hd : decide (x ≤ y) = true := decide_eq_true (by omega)
            clear hok hin
            go_wp2_with (first | (go_at_call 111; ((with_reducible refine (H _).mono ?_); rintro e w1 ⟨rfl, rfl⟩)))
            go_ret
            exact ⟨by rw [HOK.out]; rfl, M.below⟩
      · have hf : setOk q.n xs k = false := by
          rw [hok]
          by_cases h3 : 0 ≤ elI xs k
          · have h4 : ¬ elI xs k ≤ q.n - 1 := fun h => hin ⟨h3, h⟩
            simp [h4]
          · simp [h3]
        have H := fun w1 => within_b (elI xs k) 0 (q.n - 1) false (by simp only [Bool.false_eq_true, false_iff]; exact hin) w1
        generalize elI xs k = x at hc0 H
        clear hok hin
        have HFF := Hid2.mk (HF.out hf)
        clear hf
        go_wp2_with (first | (go_at_call 111; ((with_reducible refine (H _).mono ?_); rintro e w1 ⟨rfl, rfl⟩)))
        go_ret
        exact ⟨by rw [HFF.out]; rfl, M.below⟩
    · obtain rfl : k = xs.length := by omega
      have hge : ¬ ((xs.length : Int) < (xs.length : Int)) := by omega
      go_wp2
      go_ret
      exact ⟨by rw [setB_all HL.out]; rfl, M.below⟩

set_option maxRecDepth 100000 in
set_option maxHeartbeats 2000000 in
theorem l12Set_any (q : Sqr) (h1 : 1 ≤ q.n) (h2 : q.n ≤ 10) (xs : List Int) (hlen : xs.length ≤ 10000000) (w : World) (p : Option Addr) (cap : Nat) (hr : rdq w p xs.length (intF xs)) :
    Calls Try.prog 87 #[.agg (sqs q.n q.t), .slice p xs.length cap] w fun e w' => e = .returned (.bool (setB q.n xs)) ∧ Below w.heap.size w w' := by
  have M := Mm.start no w
  have so := sqs_order q.n q.t
  have F1 := Hid2.mk (fun w1 (hb : Below w.heap.size w w1) => hr.later hb)
  have hw := wrap_small (q.n - 1) (by omega) (by omega)
  clear hr
  go_enter Try.func87, Try.ntmps87
  go_wp2_with (first | ((with_reducible apply wpM_box' M 30 (sqs q.n q.t)); rfl; exact ⟨rfl, rfl⟩; clear M; (try clear C); intro bq w9 h_bq M; have C := M.ruleAll; simp only [Go.Proofs.Ytjdfjlgjpjgnhaa.ruleAll] at C))
  go_loopw [5] (fun i wr => ∃ k : Nat, k ≤ xs.length ∧ i = .int .i64 (k : Int) ∧ (∀ j, j < k → setOk q.n xs j = true) ∧ Mm no w wr [.box bq (sqs q.n q.t) 30]) (fun i _ => xs.length - (intOf i).toNat)
  case atStart => exact ⟨0, by omega, rfl, fun j h => by omega, M⟩
  case round =>
    obtain ⟨k, hk, rfl, hl, M9⟩ := hrel
    clear M; (try clear C)
    have M := M9
    clear M9
    have C := M.ruleAll; simp only [Go.Proofs.Ytjdfjlgjpjgnhaa.ruleAll] at C
    have HL := Hid2.mk hl
    clear hl
    by_cases hlt : k < xs.length
    · have hlt' : (k : Int) < (xs.length : Int) := by omega
      obtain ⟨g, rfl, _⟩ := F1.out _ M.below (by omega)
      have hcell : ∀ j, j < xs.length → ∀ w1, Below w.heap.size w w1 → w1.cell? ⟨g, j, none⟩ = some (.int .i64 (elI xs j)) := fun j hj w1 hb => by
        obtain ⟨g', e, hr⟩ := F1.out w1 hb (by omega)
        cases e
        exact hr.at_ j hj
      have HF := Hid2.mk (fun h => @setB_fails q.n xs k hlt h)
      have HN := Hid2.mk (show setOk q.n xs k = true → ∀ j, j < k + 1 → setOk q.n xs j = true from fun h j h1 => by
        rcases Nat.lt_or_eq_of_le (Nat.lt_succ_iff.1 h1) with h2 | rfl
        · exact HL.out j h2
        · exact h)
      have hok : setOk q.n xs k = (decide (0 ≤ elI xs k) && decide (elI xs k ≤ q.n - 1) && (decide (k = 0) || decide (elI xs (k - 1) < elI xs k))) := rfl
      have HC := Hid2.mk (fun w1 hb => hcell k hlt w1 hb)
      by_cases hin : 0 ≤ elI xs k ∧ elI xs k ≤ q.n - 1
      · have H := fun w1 => l01In_b (elI xs k) 0 (q.n - 1) true (by simp only [true_iff]; exact hin) w1
        by_cases hk0 : k = 0
        · subst hk0
          have HOK := Hid2.mk (show setOk q.n xs 0 = true by rw [hok]; simp [hin])
          generalize elI xs 0 = x at HC H
          clear hok hin hcell
          go_wp2
          apply wp_region_mm M 22 (by kernel_rfl) (by kernel_rfl)
          · simp only [List.take_succ_cons, List.take_zero]
            repeat (first | exact wpText_nil | (apply wpText_cons; (intro w2 M; have C := M.ruleAll; simp only [Go.Proofs.Ytjdfjlgjpjgnhaa.ruleAll] at C; have hc0 := HC.out _ M.below; go_wp2_with (first | (go_at_call 129; ((with_reducible refine (H _).mono ?_); rintro e w1 ⟨rfl, rfl⟩))); exact ⟨rfl, rfl, M⟩); rfl))
          clear M; (try clear C)
          intro w2 M
          simp only [List.drop_succ_cons, List.drop_zero]
          have C := M.ruleAll; simp only [Go.Proofs.Ytjdfjlgjpjgnhaa.ruleAll] at C
          go_wp2
          go_roundw
          case rel => exact ⟨1, by omega, by go_num, HN.out HOK.out, M⟩
          case measure => simp [intOf]; omega
        · obtain ⟨j, rfl⟩ : ∃ j, k = j + 1 := ⟨k - 1, by omega⟩
          have HC1 := Hid2.mk (fun w1 hb => hcell j (by omega) w1 hb)
          have hj1 : (j : Int) < (xs.length : Int) := by omega
          have hw1 : wrap64 (j : Int) = (j : Int) := wrap_small _ (by omega) (by omega)
          have hjp : (0 : Int) < (j : Int) + 1 := by omega
          by_cases hlt2 : elI xs j < elI xs (j + 1)
          · have HOK := Hid2.mk (show setOk q.n xs (j + 1) = true by rw [hok]; simp [hin, hlt2])
            generalize elI xs (j + 1) = x at HC H hlt2
            generalize elI xs j = y at HC1 hlt2
            have hd : decide (x ≤ y) = false := decide_eq_false (by omega)
            clear hok hin hcell
            go_wp2
            apply wp_region_mm M 22 (by kernel_rfl) (by kernel_rfl)
            · simp only [List.take_succ_cons, List.take_zero]
              repeat (first | exact wpText_nil | (apply wpText_cons; (intro w2 M; have C := M.ruleAll; simp only [Go.Proofs.Ytjdfjlgjpjgnhaa.ruleAll] at C; have hc0 := HC.out _ M.below; have hc1 := HC1.out _ M.below; go_wp2_with (first | (go_at_call 129; ((with_reducible refine (H _).mono ?_); rintro e w1 ⟨rfl, rfl⟩))); exact ⟨rfl, rfl, M⟩); rfl))
            clear M; (try clear C)
            intro w2 M
            simp only [List.drop_succ_cons, List.drop_zero]
            have C := M.ruleAll; simp only [Go.Proofs.Ytjdfjlgjpjgnhaa.ruleAll] at C
            go_wp2
            exact ⟨⟨j + 1 + 1, by omega, by go_num, HN.out HOK.out, M⟩, by simp [intOf]; omega⟩
          · have HOK := Hid2.mk (HF.out (show setOk q.n xs (j + 1) = false by rw [hok]; simp [hlt2]))
            generalize elI xs (j + 1) = x at HC H hlt2
            generalize elI xs j = y at HC1 hlt2
            have hd : decide (x ≤ y) = true := decide_eq_true (by omega)
            clear hok hin hcell
            go_wp2
            apply wp_region_mm M 22 (by kernel_rfl) (by kernel_rfl)
            · simp only [List.take_succ_cons, List.take_zero]
              repeat (first | exact wpText_nil | (apply wpText_cons; (intro w2 M; have C := M.ruleAll; simp only [Go.Proofs.Ytjdfjlgjpjgnhaa.ruleAll] at C; have hc0 := HC.out _ M.below; have hc1 := HC1.out _ M.below; go_wp2_with (first | (go_at_call 129; ((with_reducible refine (H _).mono ?_); rintro e w1 ⟨rfl, rfl⟩))); exact ⟨rfl, rfl, M⟩); rfl))
            clear M; (try clear C)
            intro w2 M
            simp only [List.drop_succ_cons, List.drop_zero]
            have C := M.ruleAll; simp only [Go.Proofs.Ytjdfjlgjpjgnhaa.ruleAll] at C
            go_wp2
            go_ret
            exact ⟨by rw [HOK.out]; rfl, M.below⟩
      · have hf : setOk q.n xs k = false := by
          rw [hok]
          by_cases h3 : 0 ≤ elI xs k
          · have h4 : ¬ elI xs k ≤ q.n - 1 := fun h => hin ⟨h3, h⟩
            simp [h4]
          · simp [h3]
        have H := fun w1 => l01In_b (elI xs k) 0 (q.n - 1) false (by simp only [Bool.false_eq_true, false_iff]; exact hin) w1
        generalize elI xs k = x at HC H
        clear hok hin hcell
        have HFF := Hid2.mk (HF.out hf)
        clear hf
        go_wp2
        apply wp_region_mm M 22 (by kernel_rfl) (by kernel_rfl)
        · simp only [List.take_succ_cons, List.take_zero]
          repeat (first | exact wpText_nil | (apply wpText_cons; (intro w2 M; have C := M.ruleAll; simp only [Go.Proofs.Ytjdfjlgjpjgnhaa.ruleAll] at C; have hc0 := HC.out _ M.below; go_wp2_with (first | (go_at_call 129; ((with_reducible refine (H _).mono ?_); rintro e w1 ⟨rfl, rfl⟩))); exact ⟨rfl, rfl, M⟩); rfl))
        clear M; (try clear C)
        intro w2 M
        simp only [List.drop_succ_cons, List.drop_zero]
        have C := M.ruleAll; simp only [Go.Proofs.Ytjdfjlgjpjgnhaa.ruleAll] at C
        go_wp2
        go_ret
        exact ⟨by rw [HFF.out]; rfl, M.below⟩
    · obtain rfl : k = xs.length := by omega
      have hge : ¬ ((xs.length : Int) < (xs.length : Int)) := by omega
      go_wp2
      go_ret
      exact ⟨by rw [setB_all HL.out]; rfl, M.below⟩
end Go.Proofs.Ytjdfjlgjpjgnhaa
