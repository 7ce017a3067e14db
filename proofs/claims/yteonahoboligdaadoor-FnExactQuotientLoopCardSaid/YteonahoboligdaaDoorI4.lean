/- Lists of elements that come in, for the program and for the reference: contracts. -/
import Derived.Test.YteonahoboligdaaDoorI1
import Derived.Test.YteonahoboligdaaDoorG3
import Derived.Test.YteonahoboligdaaDoorC8
import Derived.Test.YteonahoboligdaaDoorC4
import Derived.Test.YteonahoboligdaaDoorE9
namespace Go.Proofs.YteonahoboligdaaDoor
set_option linter.unusedSimpArgs false
set_option linter.unusedVariables false
open Go Go.RowKit

def setOk (n : Int) (xs : List Int) (i : Nat) : Bool := decide (0 ≤ elI xs i) && decide (elI xs i ≤ n - 1) && (decide (i = 0) || decide (elI xs (i - 1) < elI xs i))
/-- Whether a list is a strictly ascending one of elements. -/
def setB (n : Int) (xs : List Int) : Bool := (List.range xs.length).all (setOk n xs)
theorem setB_fails {n : Int} {xs : List Int} {k : Nat} (hk : k < xs.length) (h : setOk n xs k = false) : setB n xs = false := by
  unfold setB
  exact List.all_eq_false.2 ⟨k, List.mem_range.2 hk, by simp [h]⟩
theorem setB_all {n : Int} {xs : List Int} (h : ∀ i, i < xs.length → setOk n xs i = true) : setB n xs = true := List.all_eq_true.2 fun i hi => h i (List.mem_range.1 hi)

set_option maxRecDepth 100000 in
set_option maxHeartbeats 1000000 in
theorem isList_any (n : Int) (t : Nat → Nat → Nat) (h1 : 1 ≤ n) (h2 : n ≤ 10) (xs : List Int) (hlen : xs.length ≤ 10000000) (w : World) (p : Option Addr) (cap : Nat) (hr : rdq w p xs.length (intF xs)) :
    Calls Tryd.prog 41 #[.agg (sqs n t), .slice p xs.length cap] w fun e w' => e = .returned (.bool (setB n xs)) ∧ Below w.heap.size w w' := by
  have M := Mm.start no w
  have so := sqs_order n t
  have F1 := Hid2.mk (fun w1 (hb : Below w.heap.size w w1) => hr.later hb)
  have hw := wrap_small (n - 1) (by omega) (by omega)
  clear hr
  go_enter Tryd.func41, Tryd.ntmps41
  go_wp2_with (first | ((with_reducible apply wpM_box' M 32 (sqs n t)); rfl; exact ⟨rfl, rfl⟩; clear M; (try clear C); intro bq w9 h_bq M; have C := M.ruleAll; simp only [Go.Proofs.YteonahoboligdaaDoor.ruleAll] at C))
  go_loopw [9] (fun i wr => ∃ k : Nat, k ≤ xs.length ∧ i = .int .i64 (k : Int) ∧ (∀ j, j < k → setOk n xs j = true) ∧ Mm no w wr [.box bq (sqs n t) 32]) (fun i _ => xs.length - (intOf i).toNat)
  case atStart => exact ⟨0, by omega, rfl, fun j h => by omega, M⟩
  case round =>
    obtain ⟨k, hk, rfl, hl, M9⟩ := hrel
    clear M; (try clear C)
    have M := M9
    clear M9
    have C := M.ruleAll; simp only [Go.Proofs.YteonahoboligdaaDoor.ruleAll] at C
    have HL := Hid2.mk hl
    clear hl
    by_cases hlt : k < xs.length
    · have hlt' : (k : Int) < (xs.length : Int) := by omega
      obtain ⟨g, rfl, _⟩ := F1.out _ M.below (by omega)
      have hcell : ∀ j, j < xs.length → ∀ w1, Below w.heap.size w w1 → w1.cell? ⟨g, j, none⟩ = some (.int .i64 (elI xs j)) := fun j hj w1 hb => by
        obtain ⟨g', e, hr⟩ := F1.out w1 hb (by omega)
        cases e
        exact hr.at_ j hj
      have HF := Hid2.mk (fun h => @setB_fails n xs k hlt h)
      have HN := Hid2.mk (show setOk n xs k = true → ∀ j, j < k + 1 → setOk n xs j = true from fun h j h1 => by
        rcases Nat.lt_or_eq_of_le (Nat.lt_succ_iff.1 h1) with h2 | rfl
        · exact HL.out j h2
        · exact h)
      have hok : setOk n xs k = (decide (0 ≤ elI xs k) && decide (elI xs k ≤ n - 1) && (decide (k = 0) || decide (elI xs (k - 1) < elI xs k))) := rfl
      have hc0 := hcell k hlt _ M.below
      have HC := Hid2.mk hcell
      clear hcell
      by_cases hin : 0 ≤ elI xs k ∧ elI xs k ≤ n - 1
      · have H := fun w1 => within_b (elI xs k) 0 (n - 1) true (by simp only [true_iff]; exact hin) w1
        by_cases hk0 : k = 0
        · subst hk0
          have HOK := Hid2.mk (show setOk n xs 0 = true by rw [hok]; simp [hin])
          generalize elI xs 0 = x at hc0 H
          clear hok hin
          go_wp2_with (first | (go_at_call 61; ((with_reducible refine (H _).mono ?_); rintro e w1 ⟨rfl, rfl⟩)))
          go_roundw
          case rel => exact ⟨1, by omega, by go_num, HN.out HOK.out, M⟩
          case measure => simp [intOf]; omega
        · obtain ⟨j, rfl⟩ : ∃ j, k = j + 1 := ⟨k - 1, by omega⟩
          have hc1 := HC.out j (by omega) _ M.below
          have hj1 : (j : Int) < (xs.length : Int) := by omega
          have hw1 : wrap64 (j : Int) = (j : Int) := wrap_small _ (by omega) (by omega)
          have hjp : (0 : Int) < (j : Int) + 1 := by omega
          by_cases hlt2 : elI xs j < elI xs (j + 1)
          · have HOK := Hid2.mk (show setOk n xs (j + 1) = true by rw [hok]; simp [hin, hlt2])
            generalize elI xs (j + 1) = x at hc0 H hlt2
            generalize elI xs j = y at hc1 hlt2
            have hd : decide (x ≤ y) = false := decide_eq_false (by omega)
            clear hok hin
            go_wp2_with (first | (go_at_call 61; ((with_reducible refine (H _).mono ?_); rintro e w1 ⟨rfl, rfl⟩)))
            exact ⟨⟨j + 1 + 1, by omega, by go_num, HN.out HOK.out, M⟩, by simp [intOf]; omega⟩
          · have HOK := Hid2.mk (HF.out (show setOk n xs (j + 1) = false by rw [hok]; simp [hlt2]))
            generalize elI xs (j + 1) = x at hc0 H hlt2
            generalize elI xs j = y at hc1 hlt2
            have hd : decide (x ≤ y) = true := decide_eq_true (by omega)
            clear hok hin
            go_wp2_with (first | (go_at_call 61; ((with_reducible refine (H _).mono ?_); rintro e w1 ⟨rfl, rfl⟩)))
            go_ret
            exact ⟨by rw [HOK.out]; rfl, M.below⟩
      · have hf : setOk n xs k = false := by
          rw [hok]
          by_cases h3 : 0 ≤ elI xs k
          · have h4 : ¬ elI xs k ≤ n - 1 := fun h => hin ⟨h3, h⟩
            simp [h4]
          · simp [h3]
        have H := fun w1 => within_b (elI xs k) 0 (n - 1) false (by simp only [Bool.false_eq_true, false_iff]; exact hin) w1
        generalize elI xs k = x at hc0 H
        clear hok hin
        have HFF := Hid2.mk (HF.out hf)
        clear hf
        go_wp2_with (first | (go_at_call 61; ((with_reducible refine (H _).mono ?_); rintro e w1 ⟨rfl, rfl⟩)))
        go_ret
        exact ⟨by rw [HFF.out]; rfl, M.below⟩
    · obtain rfl : k = xs.length := by omega
      have hge : ¬ ((xs.length : Int) < (xs.length : Int)) := by omega
      go_wp2
      go_ret
      exact ⟨by rw [setB_all HL.out]; rfl, M.below⟩

set_option maxRecDepth 100000 in
set_option maxHeartbeats 2000000 in
theorem l05List_any (n : Int) (t : Nat → Nat → Nat) (h1 : 1 ≤ n) (h2 : n ≤ 10) (xs : List Int) (hlen : xs.length ≤ 10000000) (w : World) (p : Option Addr) (cap : Nat) (hr : rdq w p xs.length (intF xs)) :
    Calls Tryd.prog 34 #[.agg (sqs n t), .slice p xs.length cap] w fun e w' => e = .returned (.bool (setB n xs)) ∧ Below w.heap.size w w' := by
  have M := Mm.start no w
  have so := sqs_order n t
  have F1 := Hid2.mk (fun w1 (hb : Below w.heap.size w w1) => hr.later hb)
  have hw := wrap_small (n - 1) (by omega) (by omega)
  clear hr
  go_enter Tryd.func34, Tryd.ntmps34
  go_wp2_with (first | ((with_reducible apply wpM_box' M 32 (sqs n t)); rfl; exact ⟨rfl, rfl⟩; clear M; (try clear C); intro bq w9 h_bq M; have C := M.ruleAll; simp only [Go.Proofs.YteonahoboligdaaDoor.ruleAll] at C))
  go_loopw [5] (fun i wr => ∃ k : Nat, k ≤ xs.length ∧ i = .int .i64 (k : Int) ∧ (∀ j, j < k → setOk n xs j = true) ∧ Mm no w wr [.box bq (sqs n t) 32]) (fun i _ => xs.length - (intOf i).toNat)
  case atStart => exact ⟨0, by omega, rfl, fun j h => by omega, M⟩
  case round =>
    obtain ⟨k, hk, rfl, hl, M9⟩ := hrel
    clear M; (try clear C)
    have M := M9
    clear M9
    have C := M.ruleAll; simp only [Go.Proofs.YteonahoboligdaaDoor.ruleAll] at C
    have HL := Hid2.mk hl
    clear hl
    by_cases hlt : k < xs.length
    · have hlt' : (k : Int) < (xs.length : Int) := by omega
      obtain ⟨g, rfl, _⟩ := F1.out _ M.below (by omega)
      have hcell : ∀ j, j < xs.length → ∀ w1, Below w.heap.size w w1 → w1.cell? ⟨g, j, none⟩ = some (.int .i64 (elI xs j)) := fun j hj w1 hb => by
        obtain ⟨g', e, hr⟩ := F1.out w1 hb (by omega)
        cases e
        exact hr.at_ j hj
      have HF := Hid2.mk (fun h => @setB_fails n xs k hlt h)
      have HN := Hid2.mk (show setOk n xs k = true → ∀ j, j < k + 1 → setOk n xs j = true from fun h j h1 => by
        rcases Nat.lt_or_eq_of_le (Nat.lt_succ_iff.1 h1) with h2 | rfl
        · exact HL.out j h2
        · exact h)
      have hok : setOk n xs k = (decide (0 ≤ elI xs k) && decide (elI xs k ≤ n - 1) && (decide (k = 0) || decide (elI xs (k - 1) < elI xs k))) := rfl
      have HC := Hid2.mk (fun w1 hb => hcell k hlt w1 hb)
      by_cases hin : 0 ≤ elI xs k ∧ elI xs k ≤ n - 1
      · have H := fun w1 => l01In_b (elI xs k) 0 (n - 1) true (by simp only [true_iff]; exact hin) w1
        by_cases hk0 : k = 0
        · subst hk0
          have HOK := Hid2.mk (show setOk n xs 0 = true by rw [hok]; simp [hin])
          generalize elI xs 0 = x at HC H
          clear hok hin hcell
          go_wp2
          apply wp_region_mm M 22 (by kernel_rfl) (by kernel_rfl)
          · simp only [List.take_succ_cons, List.take_zero]
            repeat (first | exact wpText_nil | (apply wpText_cons; (intro w2 M; have C := M.ruleAll; simp only [Go.Proofs.YteonahoboligdaaDoor.ruleAll] at C; have hc0 := HC.out _ M.below; go_wp2_with (first | (go_at_call 49; ((with_reducible refine (H _).mono ?_); rintro e w1 ⟨rfl, rfl⟩))); exact ⟨rfl, rfl, M⟩); rfl))
          clear M; (try clear C)
          intro w2 M
          simp only [List.drop_succ_cons, List.drop_zero]
          have C := M.ruleAll; simp only [Go.Proofs.YteonahoboligdaaDoor.ruleAll] at C
          go_wp2
          go_roundw
          case rel => exact ⟨1, by omega, by go_num, HN.out HOK.out, M⟩
          case measure => simp [intOf]; omega
        · obtain ⟨j, rfl⟩ : ∃ j, k = j + 1 := ⟨k - 1, by omega⟩
          have HC1 := Hid2.mk (fun w1 hb => hcell j (by omega) w1 hb)
          have hj1 : (j : Int) < (xs.length : Int) := by omega
          have hw1 : wrap64 (j : Int) = (j : Int) := wrap_small _ (by omega) (by omega)
          have hjp : (0 : Int) < (j : Int) + 1 := by omega
          by_cases hlt2 : elI xs j < elI xs (j + 1)
          · have HOK := Hid2.mk (show setOk n xs (j + 1) = true by rw [hok]; simp [hin, hlt2])
            generalize elI xs (j + 1) = x at HC H hlt2
            generalize elI xs j = y at HC1 hlt2
            have hd : decide (x ≤ y) = false := decide_eq_false (by omega)
            clear hok hin hcell
            go_wp2
            apply wp_region_mm M 22 (by kernel_rfl) (by kernel_rfl)
            · simp only [List.take_succ_cons, List.take_zero]
              repeat (first | exact wpText_nil | (apply wpText_cons; (intro w2 M; have C := M.ruleAll; simp only [Go.Proofs.YteonahoboligdaaDoor.ruleAll] at C; have hc0 := HC.out _ M.below; have hc1 := HC1.out _ M.below; go_wp2_with (first | (go_at_call 49; ((with_reducible refine (H _).mono ?_); rintro e w1 ⟨rfl, rfl⟩))); exact ⟨rfl, rfl, M⟩); rfl))
            clear M; (try clear C)
            intro w2 M
            simp only [List.drop_succ_cons, List.drop_zero]
            have C := M.ruleAll; simp only [Go.Proofs.YteonahoboligdaaDoor.ruleAll] at C
            go_wp2
            exact ⟨⟨j + 1 + 1, by omega, by go_num, HN.out HOK.out, M⟩, by simp [intOf]; omega⟩
          · have HOK := Hid2.mk (HF.out (show setOk n xs (j + 1) = false by rw [hok]; simp [hlt2]))
            generalize elI xs (j + 1) = x at HC H hlt2
            generalize elI xs j = y at HC1 hlt2
            have hd : decide (x ≤ y) = true := decide_eq_true (by omega)
            clear hok hin hcell
            go_wp2
            apply wp_region_mm M 22 (by kernel_rfl) (by kernel_rfl)
            · simp only [List.take_succ_cons, List.take_zero]
              repeat (first | exact wpText_nil | (apply wpText_cons; (intro w2 M; have C := M.ruleAll; simp only [Go.Proofs.YteonahoboligdaaDoor.ruleAll] at C; have hc0 := HC.out _ M.below; have hc1 := HC1.out _ M.below; go_wp2_with (first | (go_at_call 49; ((with_reducible refine (H _).mono ?_); rintro e w1 ⟨rfl, rfl⟩))); exact ⟨rfl, rfl, M⟩); rfl))
            clear M; (try clear C)
            intro w2 M
            simp only [List.drop_succ_cons, List.drop_zero]
            have C := M.ruleAll; simp only [Go.Proofs.YteonahoboligdaaDoor.ruleAll] at C
            go_wp2
            go_ret
            exact ⟨by rw [HOK.out]; rfl, M.below⟩
      · have hf : setOk n xs k = false := by
          rw [hok]
          by_cases h3 : 0 ≤ elI xs k
          · have h4 : ¬ elI xs k ≤ n - 1 := fun h => hin ⟨h3, h⟩
            simp [h4]
          · simp [h3]
        have H := fun w1 => l01In_b (elI xs k) 0 (n - 1) false (by simp only [Bool.false_eq_true, false_iff]; exact hin) w1
        generalize elI xs k = x at HC H
        clear hok hin hcell
        have HFF := Hid2.mk (HF.out hf)
        clear hf
        go_wp2
        apply wp_region_mm M 22 (by kernel_rfl) (by kernel_rfl)
        · simp only [List.take_succ_cons, List.take_zero]
          repeat (first | exact wpText_nil | (apply wpText_cons; (intro w2 M; have C := M.ruleAll; simp only [Go.Proofs.YteonahoboligdaaDoor.ruleAll] at C; have hc0 := HC.out _ M.below; go_wp2_with (first | (go_at_call 49; ((with_reducible refine (H _).mono ?_); rintro e w1 ⟨rfl, rfl⟩))); exact ⟨rfl, rfl, M⟩); rfl))
        clear M; (try clear C)
        intro w2 M
        simp only [List.drop_succ_cons, List.drop_zero]
        have C := M.ruleAll; simp only [Go.Proofs.YteonahoboligdaaDoor.ruleAll] at C
        go_wp2
        go_ret
        exact ⟨by rw [HFF.out]; rfl, M.below⟩
    · obtain rfl : k = xs.length := by omega
      have hge : ¬ ((xs.length : Int) < (xs.length : Int)) := by omega
      go_wp2
      go_ret
      exact ⟨by rw [setB_all HL.out]; rfl, M.below⟩

set_option maxRecDepth 100000 in
set_option maxHeartbeats 1000000 in
theorem toInt64S_any (xs : List Int) (hn : xs.length ≤ 1048576) (w : World) (p : Option Addr) (cap : Nat) (hr : rdp w p xs.length (intF xs)) :
    Calls Tryd.prog 7 #[.slice p xs.length cap] w fun e w' => ∃ g, e = .returned (.slice (some ⟨g, 0, none⟩) xs.length xs.length) ∧ w.heap.size ≤ g ∧ ∃ cs, intC xs cs ∧ Mm no w w' [.box g cs 2] := by
  have M := (Mm.start no w).add (x := Ent.inc xs.length p (intF xs)) hr.ent fun _ h => by cases h
  clear hr
  go_enter Tryd.func7, Tryd.ntmps7
  go_wp2_with (first | ((with_reducible apply wpM_make' M 26 2 1 8 (.int .i64 0) (xs.length)); rfl; rfl; rfl; rfl; exact und_sl64; exact inf_el64; omega; omega; clear M; (try clear C); intro g w9 h_g M; have C := M.ruleAll; simp only [Go.Proofs.YteonahoboligdaaDoor.ruleAll] at C))
  go_loopw [4] (fun i wr => ∃ k : Nat, k ≤ xs.length ∧ i = .int .i64 (k : Int) ∧ ∃ cs : Array Value, cs.size = xs.length ∧ (∀ j, j < k → cs[j]? = some (intF xs j)) ∧ Mm no w wr [.box g cs 2, Ent.inc xs.length p (intF xs)]) (fun i _ => xs.length - (intOf i).toNat)
  case atStart => exact ⟨0, by omega, rfl, _, by rw [size_madeCells, Nat.mul_one], fun j h => by omega, M⟩
  case round =>
    obtain ⟨k, hk, rfl, cs, hcs, hl, M9⟩ := hrel
    clear M; (try clear C)
    have M := M9
    clear M9
    have C := M.ruleAll; simp only [Go.Proofs.YteonahoboligdaaDoor.ruleAll] at C
    have HL := Hid2.mk hl
    clear hl
    by_cases hlt : k < xs.length
    · have hlt' : (k : Int) < (xs.length : Int) := by omega
      obtain ⟨b, off, rfl, _, hc⟩ := rdp_in M 1 rfl (by omega)
      have hck := hc k hlt
      have HN := Hid2.mk (show intF xs k = .int .i64 (elI xs k) from rfl)
      rw [HN.out] at hck
      generalize elI xs k = x at hck HN
      clear hc
      go_wp2_with (first | ((with_reducible apply wpM_st' M 0 2 (k) (cs.setIfInBounds k (.int .i64 x))); rfl; rfl; rfl; (first | exact .inl (by assumption) | exact .inr rfl | exact .inr (by assumption)); exact ⟨rfl, rfl, by kernel_rfl⟩; (exact Nat.lt_of_lt_of_eq (by omega) (hcs).symm); exact rfl; clear M; (try clear C); intro w9 M; simp only [List.set_cons_zero, List.set_cons_succ, entBlk, entT, List.getElem?_cons_zero, List.getElem?_cons_succ] at M; have C := M.ruleAll; simp only [Go.Proofs.YteonahoboligdaaDoor.ruleAll] at C))
      go_roundw
      case rel => exact ⟨k + 1, by omega, by go_num, _, by rw [Array.size_setIfInBounds]; exact hcs, fun j hj => by
        rw [Array.getElem?_setIfInBounds]
        split
        · rename_i e; subst e; rw [if_pos (by omega), HN.out]
        · exact HL.out j (by omega), M⟩
      case measure => simp [intOf]; omega
    · obtain rfl : k = xs.length := by omega
      have hge : ¬ ((xs.length : Int) < (xs.length : Int)) := by omega
      go_wp2
      go_ret
      exact ⟨g, rfl, h_g, cs, ⟨hcs, HL.out⟩, M.drop 1⟩

/-! ### An ascending list is one of bits -/
theorem filt_succ {k : Nat} : ∀ {l : List Nat}, l.Pairwise (· < ·) → l.filter (fun y => decide (y < k + 1)) = l.filter (fun y => decide (y < k)) ++ (if k ∈ l then [k] else [])
  | [], _ => by simp
  | x :: l, h => by
    obtain ⟨h1, h2⟩ := List.pairwise_cons.1 h
    have ih := filt_succ (k := k) h2
    rcases Nat.lt_trichotomy x k with h3 | rfl | h3
    · rw [List.filter_cons, List.filter_cons, if_pos (decide_eq_true (by omega)), if_pos (decide_eq_true h3), ih, List.cons_append]
      congr 2
      have : (k ∈ x :: l) = (k ∈ l) := propext ⟨fun h => (List.mem_cons.1 h).elim (fun e => by omega) id, List.mem_cons_of_mem _⟩
      simp only [this]
    · have e1 : l.filter (fun y => decide (y < x + 1)) = [] := List.filter_eq_nil_iff.2 fun y hy => by have := h1 y hy; rw [decide_eq_true_iff]; omega
      have e2 : l.filter (fun y => decide (y < x)) = [] := List.filter_eq_nil_iff.2 fun y hy => by have := h1 y hy; rw [decide_eq_true_iff]; omega
      rw [List.filter_cons, List.filter_cons, if_pos (decide_eq_true (by omega)), if_neg (by rw [decide_eq_true_iff]; omega), e1, e2, if_pos (List.mem_cons_self ..)]; rfl
    · have e1 : l.filter (fun y => decide (y < k + 1)) = [] := List.filter_eq_nil_iff.2 fun y hy => by have := h1 y hy; rw [decide_eq_true_iff]; omega
      have e2 : l.filter (fun y => decide (y < k)) = [] := List.filter_eq_nil_iff.2 fun y hy => by have := h1 y hy; rw [decide_eq_true_iff]; omega
      have e3 : k ∉ x :: l := fun h => (List.mem_cons.1 h).elim (fun e => by omega) fun h => by have := h1 k h; omega
      rw [List.filter_cons, List.filter_cons, if_neg (by rw [decide_eq_true_iff]; omega), if_neg (by rw [decide_eq_true_iff]; omega), e1, e2, if_neg e3]; rfl
theorem asc_tdL {l : List Nat} (h : l.Pairwise (· < ·)) : ∀ k, tdL (fun y => decide (y ∈ l)) k = l.filter fun y => decide (y < k)
  | 0 => (List.filter_eq_nil_iff.2 fun y _ => by rw [decide_eq_true_iff]; omega).symm
  | k + 1 => by
    rw [tdL, filt_succ h, asc_tdL h k]
    by_cases e : k ∈ l
    · rw [if_pos (decide_eq_true e), if_pos e]
    · rw [if_neg (by rw [decide_eq_true_iff]; exact e), if_neg e, List.append_nil]
theorem asc_mL {l : List Nat} (h : l.Pairwise (· < ·)) (hb : ∀ x ∈ l, x < 10) : mL (lM l) = l := by
  have e : (fun y => (lM l).testBit y) = fun y => decide (y ∈ l) := by
    funext y
    rw [Bool.eq_iff_iff, lM_bit, decide_eq_true_iff]
  unfold mL
  rw [e, asc_tdL h]
  exact List.filter_eq_self.2 fun x hx => decide_eq_true (hb x hx)
/-- A list of natural numbers, as numbers. -/
def toJ (c : List Nat) : List Int := c.map fun (i : Nat) => (i : Int)
theorem toJ_len (c : List Nat) : (toJ c).length = c.length := by simp [toJ]
theorem toJ_at {c : List Nat} {j : Nat} (hj : j < c.length) : intF (toJ c) j = i64F c j := by
  unfold toJ i64F intF elI
  rw [List.getD_eq_getElem?_getD, List.getD_eq_getElem?_getD, List.getElem?_map, List.getElem?_eq_getElem hj]; rfl
theorem setB_mask {n : Int} (h2 : n ≤ 10) {xs : List Int} (h : setB n xs = true) : ∃ m, m < 1024 ∧ (∀ i : Nat, m.testBit i = true → (i : Int) < n) ∧ xs = toJ (mL m) := by
  have hok : ∀ i, i < xs.length → setOk n xs i = true := fun i hi => List.all_eq_true.1 h i (List.mem_range.2 hi)
  have hg : ∀ i (hi : i < xs.length), elI xs i = xs[i] := fun i hi => by unfold elI; rw [List.getD_eq_getElem?_getD, List.getElem?_eq_getElem hi]; rfl
  have hr : ∀ i (hi : i < xs.length), 0 ≤ xs[i] ∧ xs[i] < n := fun i hi => by
    have := hok i hi
    unfold setOk at this
    rw [hg i hi] at this
    simp only [Bool.and_eq_true, decide_eq_true_eq] at this
    exact ⟨this.1.1, by omega⟩
  have hs : ∀ i (hi : i + 1 < xs.length), xs[i] < xs[i + 1] := fun i hi => by
    have := hok (i + 1) hi
    unfold setOk at this
    rw [Nat.add_sub_cancel, hg i (by omega), hg (i + 1) hi] at this
    simp only [Bool.and_eq_true, Bool.or_eq_true, decide_eq_true_eq] at this
    rcases this.2 with h | h
    · omega
    · exact h
  have hasc : ∀ d i (hi : i + d + 1 < xs.length), xs[i] < xs[i + d + 1] := fun d => by
    induction d with
    | zero => exact fun i hi => hs i hi
    | succ d ih => exact fun i hi => Int.lt_trans (ih i (by omega)) (hs (i + d + 1) hi)
  have hxs : xs = toJ (xs.map Int.toNat) := by
    unfold toJ
    rw [List.map_map]
    conv => lhs; rw [← List.map_id xs]
    refine List.map_congr_left fun x hx => ?_
    obtain ⟨i, hi, rfl⟩ := List.mem_iff_getElem.1 hx
    have := (hr i hi).1
    show xs[i] = ((xs[i].toNat : Nat) : Int)
    omega
  have hp : (xs.map Int.toNat).Pairwise (· < ·) := by
    rw [List.pairwise_iff_getElem]
    intro i j hi hj hij
    rw [List.length_map] at hi hj
    rw [List.getElem_map, List.getElem_map]
    have h1 := hasc (j - i - 1) i (by omega)
    have e : i + (j - i - 1) + 1 = j := by omega
    simp only [e] at h1
    have := (hr i hi).1
    omega
  have hb : ∀ x ∈ xs.map Int.toNat, (x : Int) < n := fun x hx => by
    obtain ⟨y, hy, rfl⟩ := List.mem_map.1 hx
    obtain ⟨i, hi, rfl⟩ := List.mem_iff_getElem.1 hy
    have := hr i hi
    omega
  have hb10 : ∀ x ∈ xs.map Int.toNat, x < 10 := fun x hx => by have := hb x hx; omega
  refine ⟨lM (xs.map Int.toNat), lM_lt hb10, fun i hi => hb i (lM_bit.1 hi), ?_⟩
  rw [asc_mL hp hb10]; exact hxs
/-- The code of a loop and a list of elements. -/
noncomputable def lsCode (n : Int) (t : Nat → Nat → Nat) (xs : List Int) : Int := if isLp n t = true then (if setB n xs = true then 0 else 2) else 1
end Go.Proofs.YteonahoboligdaaDoor
