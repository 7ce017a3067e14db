/- Which bytes are a term, for the program and for the reference: contracts. -/
import Derived.Test.YtpmemoabkbmljaaB2
import Derived.Test.YtpmemoabkbmljaaI1
namespace Go.Proofs.Ytpmemoabkbmljaa
set_option linter.unusedSimpArgs false
set_option linter.unusedVariables false
open Go Go.RowKit

theorem neI {b : Nat} {c : Nat} (h : b ≠ c) : ((b : Int) == (c : Int)) = false := by simp; omega

set_option maxRecDepth 100000 in
theorem isLeaf_b (b : Nat) (r : Bool) (h : isLeafB b = r) (w : World) : Calls Try.prog 69 #[.int .u8 (b : Int)] w fun e w' => e = .returned (.bool r) ∧ w = w' := by
  by_cases h1 : b = 120
  · subst h1; subst h; go_enter Try.func69, Try.ntmps69; go_wp2; go_ret; exact ⟨rfl, rfl⟩
  by_cases h2 : b = 121
  · subst h2; subst h; go_enter Try.func69, Try.ntmps69; go_wp2; go_ret; exact ⟨rfl, rfl⟩
  by_cases h3 : b = 122
  · subst h3; subst h; go_enter Try.func69, Try.ntmps69; go_wp2; go_ret; exact ⟨rfl, rfl⟩
  by_cases h4 : b = 101
  · subst h4; subst h; go_enter Try.func69, Try.ntmps69; go_wp2; go_ret; exact ⟨rfl, rfl⟩
  have hr : r = false := by rw [← h]; simp [isLeafB, h1, h2, h3, h4]
  subst hr
  have e1 : ((b : Int) == 120) = false := neI h1
  have e2 : ((b : Int) == 121) = false := neI h2
  have e3 : ((b : Int) == 122) = false := neI h3
  have e4 : ((b : Int) == 101) = false := neI h4
  clear h h1 h2 h3 h4
  go_enter Try.func69, Try.ntmps69
  go_wp2
  go_ret
  exact ⟨rfl, rfl⟩

set_option maxRecDepth 100000 in
theorem isOp_b (b : Nat) (r : Bool) (h : isOpB b = r) (w : World) : Calls Try.prog 64 #[.int .u8 (b : Int)] w fun e w' => e = .returned (.bool r) ∧ w = w' := by
  by_cases h1 : b = 42
  · subst h1; subst h; go_enter Try.func64, Try.ntmps64; go_wp2; go_ret; exact ⟨rfl, rfl⟩
  by_cases h2 : b = 92
  · subst h2; subst h; go_enter Try.func64, Try.ntmps64; go_wp2; go_ret; exact ⟨rfl, rfl⟩
  by_cases h3 : b = 47
  · subst h3; subst h; go_enter Try.func64, Try.ntmps64; go_wp2; go_ret; exact ⟨rfl, rfl⟩
  have hr : r = false := by rw [← h]; simp [isOpB, h1, h2, h3]
  subst hr
  have e1 : ((b : Int) == 42) = false := neI h1
  have e2 : ((b : Int) == 92) = false := neI h2
  have e3 : ((b : Int) == 47) = false := neI h3
  clear h h1 h2 h3
  go_enter Try.func64, Try.ntmps64
  go_wp2
  go_ret
  exact ⟨rfl, rfl⟩

set_option maxRecDepth 100000 in
theorem l03Op_b (b : Nat) (r : Bool) (h : isOpB b = r) (w : World) : Calls Try.prog 61 #[.int .u8 (b : Int)] w fun e w' => e = .returned (.bool r) ∧ w = w' := by
  by_cases h1 : b = 42
  · subst h1; subst h; go_enter Try.func61, Try.ntmps61; go_wp2; go_ret; exact ⟨rfl, rfl⟩
  by_cases h2 : b = 92
  · subst h2; subst h; go_enter Try.func61, Try.ntmps61; go_wp2; go_ret; exact ⟨rfl, rfl⟩
  by_cases h3 : b = 47
  · subst h3; subst h; go_enter Try.func61, Try.ntmps61; go_wp2; go_ret; exact ⟨rfl, rfl⟩
  have hr : r = false := by rw [← h]; simp [isOpB, h1, h2, h3]
  subst hr
  have e1 : ((b : Int) == 42) = false := neI h1
  have e2 : ((b : Int) == 92) = false := neI h2
  have e3 : ((b : Int) == 47) = false := neI h3
  clear h h1 h2 h3
  go_enter Try.func61, Try.ntmps61
  go_wp2
  go_ret
  exact ⟨rfl, rfl⟩

/-- The bytes of a term as a function. -/
def bf (xs : List Nat) (j : Nat) : Nat := elB xs j
theorem tmTo_succ {f : Nat → Nat} {k v : Nat} (h : tmTo f k = some v) : tmTo f (k + 1) = tmStep (f k) v := by rw [tmTo, h]
theorem tmStep_leaf {b v : Nat} (h : isLeafB b = true) : tmStep b v = some (v + 1) := if_pos h
theorem tmStep_op {b v : Nat} (h : isLeafB b = false) (h1 : isOpB b = true) (h2 : 2 ≤ v) : tmStep b v = some (v - 1) := by simp [tmStep, h, h1, h2]
theorem tmStep_no {b v : Nat} (h : isLeafB b = false) (h1 : ¬ (isOpB b = true ∧ 2 ≤ v)) : tmStep b v = none := by simp [tmStep, h]; intro h2; exact Nat.lt_of_not_le fun h3 => h1 ⟨h2, h3⟩

set_option maxRecDepth 100000 in
set_option maxHeartbeats 2000000 in
theorem isTerm_any (xs : List Nat) (hlen : xs.length ≤ 10000000) (w : World) (p : Option Addr) (cap : Nat) (hr : rdq w p xs.length (bytF xs)) :
    Calls Try.prog 56 #[.slice p xs.length cap] w fun e w' => e = .returned (.bool (isTm (elB xs) xs.length)) ∧ Below w.heap.size w w' := by
  have M := Mm.start no w
  have F1 := Hid2.mk (fun w1 (hb : Below w.heap.size w w1) => hr.later hb)
  clear hr
  go_enter Try.func56, Try.ntmps56
  go_wp2
  go_loopw [8, 3, 5, 12, 17] (fun i v _ _ _ wr => ∃ k u : Nat, k ≤ xs.length ∧ i = .int .i64 (k : Int) ∧ v = .int .i64 (u : Int) ∧ tmTo (elB xs) k = some u ∧ Mm no w wr []) (fun i _ _ _ _ _ => xs.length - (intOf i).toNat)
  case atStart => exact ⟨0, 0, by omega, rfl, rfl, rfl, M⟩
  case round =>
    obtain ⟨k, u, hk, rfl, rfl, ht, M9⟩ := hrel
    clear M
    have M := M9
    clear M9
    have hu := tmTo_le ht
    have hw : wrap64 ((u : Int) + 1) = ((u + 1 : Nat) : Int) := by rw [wrap_small _ (by omega) (by omega)]; omega
    have HT := Hid2.mk ht
    clear ht
    by_cases hlt : k < xs.length
    · have hlt' : (k : Int) < (xs.length : Int) := by omega
      obtain ⟨g, rfl, hrr⟩ := F1.out _ M.below (by omega)
      have hc0 : wr.cell? ⟨g, k, none⟩ = some (.int .u8 (elB xs k : Nat)) := hrr.at_ k hlt
      clear hrr
      have HS := Hid2.mk (tmTo_succ HT.out)
      have HN := Hid2.mk (fun h => @isTm_none (elB xs) xs.length (k + 1) h (by omega))
      by_cases hl : isLeafB (elB xs k) = true
      · have H1 := fun w1 => isLeaf_b (elB xs k) true hl w1
        have HH := Hid2.mk (HS.out.trans (tmStep_leaf hl))
        generalize elB xs k = b at hc0 H1
        clear hl HS HN
        go_wp2_with (first | (go_at_call 69; ((with_reducible refine (H1 _).mono ?_); rintro e w1 ⟨rfl, rfl⟩)))
        go_roundw
        case rel => exact ⟨k + 1, u + 1, by omega, by go_num, by first | rfl | (congr 1; omega), HH.out, M⟩
        case measure => simp [intOf]; omega
      · have hl := Bool.eq_false_iff.2 hl
        have H1 := fun w1 => isLeaf_b (elB xs k) false hl w1
        by_cases ho : isOpB (elB xs k) = true
        · have H2 := fun w1 => isOp_b (elB xs k) true ho w1
          by_cases h2 : 2 ≤ u
          · have h2' : (2 : Int) ≤ (u : Int) := by omega
            have hw2 : wrap64 ((u : Int) - 1) = ((u - 1 : Nat) : Int) := by rw [wrap_small _ (by omega) (by omega)]; omega
            have HH := Hid2.mk (HS.out.trans (tmStep_op hl ho h2))
            generalize elB xs k = b at hc0 H1 H2
            clear hl HS HN ho
            go_wp2_with (first | (go_at_call 69; ((with_reducible refine (H1 _).mono ?_); rintro e w1 ⟨rfl, rfl⟩)) | (go_at_call 64; ((with_reducible refine (H2 _).mono ?_); rintro e w1 ⟨rfl, rfl⟩)))
            go_roundw
            case rel => exact ⟨k + 1, u - 1, by omega, by go_num, by first | rfl | (congr 1; omega), HH.out, M⟩
            case measure => simp [intOf]; omega
          · have h2' : ¬ (2 : Int) ≤ (u : Int) := by omega
            have HH := Hid2.mk (HN.out (HS.out.trans (tmStep_no hl fun h => h2 h.2)))
            generalize elB xs k = b at hc0 H1 H2
            clear hl HS HN ho
            go_wp2_with (first | (go_at_call 69; ((with_reducible refine (H1 _).mono ?_); rintro e w1 ⟨rfl, rfl⟩)) | (go_at_call 64; ((with_reducible refine (H2 _).mono ?_); rintro e w1 ⟨rfl, rfl⟩)))
            go_ret
            exact ⟨by rw [HH.out]; rfl, M.below⟩
        · have H2 := fun w1 => isOp_b (elB xs k) false (Bool.eq_false_iff.2 ho) w1
          have HH := Hid2.mk (HN.out (HS.out.trans (tmStep_no hl fun h => ho h.1)))
          generalize elB xs k = b at hc0 H1 H2
          clear hl HS HN ho
          go_wp2_with (first | (go_at_call 69; ((with_reducible refine (H1 _).mono ?_); rintro e w1 ⟨rfl, rfl⟩)) | (go_at_call 64; ((with_reducible refine (H2 _).mono ?_); rintro e w1 ⟨rfl, rfl⟩)))
          go_ret
          exact ⟨by rw [HH.out]; rfl, M.below⟩
    · obtain rfl : k = xs.length := by omega
      have hge : ¬ ((xs.length : Int) < (xs.length : Int)) := by omega
      by_cases h1 : u = 1
      · subst h1
        by_cases h4 : xs.length ≤ 40
        · have h4' : (xs.length : Int) ≤ 40 := by omega
          have HF := Hid2.mk (isTm_iff.2 ⟨HT.out, h4⟩)
          go_wp2
          go_ret
          exact ⟨by rw [HF.out]; rfl, M.below⟩
        · have h4' : ¬ (xs.length : Int) ≤ 40 := by omega
          have HF := Hid2.mk (Bool.eq_false_iff.2 fun h => h4 (@isTm_iff (elB xs) xs.length |>.1 h).2)
          go_wp2
          go_ret
          exact ⟨by rw [HF.out]; rfl, M.below⟩
      · have h1' : ((u : Int) == 1) = false := neI h1
        have HF := Hid2.mk (Bool.eq_false_iff.2 fun h => h1 (by have := HT.out.symm.trans (@isTm_iff (elB xs) xs.length |>.1 h).1; cases this; rfl))
        go_wp2
        go_ret
        exact ⟨by rw [HF.out]; rfl, M.below⟩

theorem leaf_cases {b : Nat} (h : isLeafB b = true) : b = 120 ∨ b = 121 ∨ b = 122 ∨ b = 101 := by simp [isLeafB] at h; omega
theorem leaf_none {b : Nat} (h : isLeafB b = false) : b ≠ 120 ∧ b ≠ 121 ∧ b ≠ 122 ∧ b ≠ 101 := by simp [isLeafB] at h; omega

set_option maxRecDepth 100000 in
set_option maxHeartbeats 2000000 in
theorem l03Is_any (xs : List Nat) (hlen : xs.length ≤ 10000000) (w : World) (p : Option Addr) (cap : Nat) (hr : rdq w p xs.length (bytF xs)) :
    Calls Try.prog 54 #[.slice p xs.length cap] w fun e w' => e = .returned (.bool (isTm (elB xs) xs.length)) ∧ Below w.heap.size w w' := by
  have M := Mm.start no w
  have F1 := Hid2.mk (fun w1 (hb : Below w.heap.size w w1) => hr.later hb)
  clear hr
  go_enter Try.func54, Try.ntmps54
  go_wp2
  go_loopw [4, 3, 11, 40] (fun i v _ _ wr => ∃ k u : Nat, k ≤ xs.length ∧ i = .int .i64 (k : Int) ∧ v = .int .i64 (u : Int) ∧ tmTo (elB xs) k = some u ∧ Mm no w wr []) (fun i _ _ _ _ => xs.length - (intOf i).toNat)
  case atStart => exact ⟨0, 0, by omega, rfl, rfl, rfl, M⟩
  case round =>
    obtain ⟨k, u, hk, rfl, rfl, ht, M9⟩ := hrel
    clear M
    have M := M9
    clear M9
    have hu := tmTo_le ht
    have hw : wrap64 ((u : Int) + 1) = ((u + 1 : Nat) : Int) := by rw [wrap_small _ (by omega) (by omega)]; omega
    have HT := Hid2.mk ht
    clear ht
    by_cases hlt : k < xs.length
    · have hlt' : (k : Int) < (xs.length : Int) := by omega
      obtain ⟨g, rfl, hrr⟩ := F1.out _ M.below (by omega)
      have hc0 : wr.cell? ⟨g, k, none⟩ = some (.int .u8 (elB xs k : Nat)) := hrr.at_ k hlt
      clear hrr
      have HS := Hid2.mk (tmTo_succ HT.out)
      have HN := Hid2.mk (fun h => @isTm_none (elB xs) xs.length (k + 1) h (by omega))
      by_cases hl : isLeafB (elB xs k) = true
      · have HH := Hid2.mk (HS.out.trans (tmStep_leaf hl))
        have hb := leaf_cases hl
        generalize elB xs k = b at hc0 hb
        clear hl HS HN
        rcases hb with rfl | rfl | rfl | rfl
        all_goals
          go_wp2
          go_roundw
          case rel => exact ⟨k + 1, u + 1, by omega, by go_num, by first | rfl | (congr 1; omega), HH.out, M⟩
          case measure => simp [intOf]; omega
      · have hl := Bool.eq_false_iff.2 hl
        obtain ⟨n1, n2, n3, n4⟩ := leaf_none hl
        have e1 : ((elB xs k : Int) == 120) = false := neI n1
        have e2 : ((elB xs k : Int) == 121) = false := neI n2
        have e3 : ((elB xs k : Int) == 122) = false := neI n3
        have e4 : ((elB xs k : Int) == 101) = false := neI n4
        clear n1 n2 n3 n4
        by_cases ho : isOpB (elB xs k) = true
        · have H2 := fun w1 => l03Op_b (elB xs k) true ho w1
          by_cases h2 : 2 ≤ u
          · have h2' : (2 : Int) ≤ (u : Int) := by omega
            have hw2 : wrap64 ((u : Int) - 1) = ((u - 1 : Nat) : Int) := by rw [wrap_small _ (by omega) (by omega)]; omega
            have HH := Hid2.mk (HS.out.trans (tmStep_op hl ho h2))
            generalize elB xs k = b at hc0 H2 e1 e2 e3 e4
            clear hl HS HN ho
            go_wp2_with (first | (go_at_call 61; ((with_reducible refine (H2 _).mono ?_); rintro e w1 ⟨rfl, rfl⟩)))
            go_roundw
            case rel => exact ⟨k + 1, u - 1, by omega, by go_num, by first | rfl | (congr 1; omega), HH.out, M⟩
            case measure => simp [intOf]; omega
          · have h2' : ¬ (2 : Int) ≤ (u : Int) := by omega
            have HH := Hid2.mk (HN.out (HS.out.trans (tmStep_no hl fun h => h2 h.2)))
            generalize elB xs k = b at hc0 H2 e1 e2 e3 e4
            clear hl HS HN ho
            go_wp2_with (first | (go_at_call 61; ((with_reducible refine (H2 _).mono ?_); rintro e w1 ⟨rfl, rfl⟩)))
            go_ret
            exact ⟨by rw [HH.out]; rfl, M.below⟩
        · have H2 := fun w1 => l03Op_b (elB xs k) false (Bool.eq_false_iff.2 ho) w1
          have HH := Hid2.mk (HN.out (HS.out.trans (tmStep_no hl fun h => ho h.1)))
          generalize elB xs k = b at hc0 H2 e1 e2 e3 e4
          clear hl HS HN ho
          go_wp2_with (first | (go_at_call 61; ((with_reducible refine (H2 _).mono ?_); rintro e w1 ⟨rfl, rfl⟩)))
          go_ret
          exact ⟨by rw [HH.out]; rfl, M.below⟩
    · obtain rfl : k = xs.length := by omega
      have hge : ¬ ((xs.length : Int) < (xs.length : Int)) := by omega
      by_cases h1 : u = 1
      · subst h1
        by_cases h4 : xs.length ≤ 40
        · have h4' : (xs.length : Int) ≤ 40 := by omega
          have HF := Hid2.mk (isTm_iff.2 ⟨HT.out, h4⟩)
          go_wp2
          go_ret
          exact ⟨by rw [HF.out]; rfl, M.below⟩
        · have h4' : ¬ (xs.length : Int) ≤ 40 := by omega
          have HF := Hid2.mk (Bool.eq_false_iff.2 fun h => h4 (@isTm_iff (elB xs) xs.length |>.1 h).2)
          go_wp2
          go_ret
          exact ⟨by rw [HF.out]; rfl, M.below⟩
      · have h1' : ((u : Int) == 1) = false := neI h1
        have HF := Hid2.mk (Bool.eq_false_iff.2 fun h => h1 (by have := HT.out.symm.trans (@isTm_iff (elB xs) xs.length |>.1 h).1; cases this; rfl))
        go_wp2
        go_ret
        exact ⟨by rw [HF.out]; rfl, M.below⟩
end Go.Proofs.Ytpmemoabkbmljaa
