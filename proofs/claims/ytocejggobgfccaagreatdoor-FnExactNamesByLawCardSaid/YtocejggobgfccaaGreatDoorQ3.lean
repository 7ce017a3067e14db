/- Quotients and operations of the reference: contracts. -/
import Derived.Test.YtocejggobgfccaaGreatDoorQ1
import Derived.Test.YtocejggobgfccaaGreatDoorQ2
import Derived.Laws.IdiomStrings
import Derived.Laws.Concat
import Derived.Laws.Strings
import Derived.Laws.OwnMore
import Derived.Laws.Cover3
import Derived.Shelf.Abstract
namespace Go.Proofs.YtocejggobgfccaaGreatDoor
set_option linter.unusedSimpArgs false
set_option linter.unusedVariables false
open Go Go.RowKit

theorem neJ {b : Nat} {c : Nat} (h : b ≠ c) : ((b : Int) == (c : Int)) = false := by simp; omega

set_option maxRecDepth 100000 in
set_option maxHeartbeats 1000000 in
theorem l01Left_any (n : Int) (t : Nat → Nat → Nat) (hs : IsSq n t) (x z : Nat) (hx : (x : Int) < n) (hz : (z : Int) < n) (w : World) :
    Calls Tryz.prog 92 #[.agg (sqs n t), .int .u8 (x : Int), .int .u8 (z : Int)] w fun e w' => e = .returned (.int .u8 (lq t x z : Nat)) ∧ Below w.heap.size w w' := by
  have M := Mm.start no w
  have hn := hs.hi
  obtain ⟨h1, h2, h3⟩ := lq_lt hs hx hz
  have hx10 : x < 10 := by omega
  have hx' : (x : Int) < 10 := by omega
  have H3 := Hid2.mk h3
  have H2 := Hid2.mk h2
  generalize hV : lq t x z = l at h1 H2 H3
  clear h2 h3 hV
  go_enter Tryz.func92, Tryz.ntmps92
  go_wp2_with (first | ((with_reducible apply wpM_box' M 50 (sqs n t)); rfl; exact ⟨rfl, rfl⟩; clear M; (try clear C); intro bq w9 h_bq M; have C := M.ruleAll; simp only [Go.Proofs.YtocejggobgfccaaGreatDoor.ruleAll] at C))
  go_loopw [7] (fun i wr => ∃ y : Nat, y ≤ l ∧ i = .int .u8 (y : Int) ∧ Mm no w wr [.box bq (sqs n t) 50]) (fun i _ => l - (intOf i).toNat)
  case atStart => exact ⟨0, by omega, rfl, M⟩
  case round =>
    obtain ⟨y, hy, rfl, M9⟩ := hrel
    clear M; (try clear C)
    have M := M9
    clear M9
    have hy10 : y < 10 := by omega
    have hy' : (y : Int) < 10 := by omega
    have hc := (M.box 0 rfl).cell _ _ (sqs_get (n := n) (t := t) hx10 hy10)
    by_cases e : y = l
    · subst e
      have hd : ((t x y : Int) == (z : Int)) = true := by rw [H2.out]; simp
      generalize t x y = v at hc hd
      go_wp2
      go_ret
      exact ⟨rfl, M.below⟩
    · have hd : ((t x y : Int) == (z : Int)) = false := neJ (H3.out y (by omega))
      generalize t x y = v at hc hd
      go_wp2
      go_roundw
      case rel => exact ⟨y + 1, by omega, by go_num, M⟩
      case measure => simp [intOf]; omega

set_option maxRecDepth 100000 in
set_option maxHeartbeats 1000000 in
theorem l01Right_any (n : Int) (t : Nat → Nat → Nat) (hs : IsSq n t) (z y : Nat) (hz : (z : Int) < n) (hy : (y : Int) < n) (w : World) :
    Calls Tryz.prog 91 #[.agg (sqs n t), .int .u8 (z : Int), .int .u8 (y : Int)] w fun e w' => e = .returned (.int .u8 (lq (fun x y => t y x) y z : Nat)) ∧ Below w.heap.size w w' := by
  have M := Mm.start no w
  have hn := hs.hi
  obtain ⟨h1, h2, h3⟩ := lq_lt hs.turn hy hz
  have hy10 : y < 10 := by omega
  have hy' : (y : Int) < 10 := by omega
  have H3 := Hid2.mk h3
  have H2 := Hid2.mk h2
  generalize hV : lq (fun x y => t y x) y z = l at h1 H2 H3
  clear h2 h3 hV
  go_enter Tryz.func91, Tryz.ntmps91
  go_wp2_with (first | ((with_reducible apply wpM_box' M 50 (sqs n t)); rfl; exact ⟨rfl, rfl⟩; clear M; (try clear C); intro bq w9 h_bq M; have C := M.ruleAll; simp only [Go.Proofs.YtocejggobgfccaaGreatDoor.ruleAll] at C))
  go_loopw [7] (fun i wr => ∃ x : Nat, x ≤ l ∧ i = .int .u8 (x : Int) ∧ Mm no w wr [.box bq (sqs n t) 50]) (fun i _ => l - (intOf i).toNat)
  case atStart => exact ⟨0, by omega, rfl, M⟩
  case round =>
    obtain ⟨x, hx, rfl, M9⟩ := hrel
    clear M; (try clear C)
    have M := M9
    clear M9
    have hx10 : x < 10 := by omega
    have hx' : (x : Int) < 10 := by omega
    have hc := (M.box 0 rfl).cell _ _ (sqs_get (n := n) (t := t) hx10 hy10)
    by_cases e : x = l
    · subst e
      have hd : ((t x y : Int) == (z : Int)) = true := by rw [show t x y = z from H2.out]; simp
      generalize t x y = v at hc hd
      go_wp2
      go_ret
      exact ⟨rfl, M.below⟩
    · have hd : ((t x y : Int) == (z : Int)) = false := neJ (H3.out x (by omega))
      generalize t x y = v at hc hd
      go_wp2
      go_roundw
      case rel => exact ⟨x + 1, by omega, by go_num, M⟩
      case measure => simp [intOf]; omega

theorem op_cases {b : Nat} (h : isOpB b = true) : b = 42 ∨ b = 92 ∨ b = 47 := by simp [isOpB] at h; omega

set_option maxRecDepth 100000 in
set_option maxHeartbeats 1000000 in
theorem l03Apply_any (n : Int) (t : Nat → Nat → Nat) (hs : IsSq n t) (b a c : Nat) (hb : isOpB b = true) (ha : (a : Int) < n) (hc : (c : Int) < n) (w : World) :
    Calls Tryz.prog 74 #[.agg (sqs n t), .int .u8 (b : Int), .int .u8 (a : Int), .int .u8 (c : Int)] w fun e w' => e = .returned (.int .u8 (apB t b a c : Nat)) ∧ Below w.heap.size w w' := by
  have M := Mm.start no w
  have hn := hs.hi
  have HL := fun w1 => l01Left_any n t hs a c ha hc w1
  have HR := fun w1 => l01Right_any n t hs a c ha hc w1
  have a10 : a < 10 := by omega
  have c10 : c < 10 := by omega
  have a10' : (a : Int) < 10 := by omega
  have c10' : (c : Int) < 10 := by omega
  have hg := sqs_get (n := n) (t := t) a10 c10
  have HB := op_cases hb
  clear hb
  rcases HB with rfl | rfl | rfl
  · have hA : apB t 42 a c = t a c := rfl
    rw [hA]
    generalize t a c = v at hg
    go_enter Tryz.func74, Tryz.ntmps74
    go_wp2_with (first | ((with_reducible apply wpM_box' M 50 (sqs n t)); rfl; exact ⟨rfl, rfl⟩; clear M; (try clear C); intro bq w9 h_bq M; have C := M.ruleAll; simp only [Go.Proofs.YtocejggobgfccaaGreatDoor.ruleAll] at C))
    go_ret
    exact ⟨rfl, M.below⟩
  · have hA : apB t 92 a c = lq t a c := rfl
    rw [hA]
    generalize lq t a c = v at HL
    clear hg
    go_enter Tryz.func74, Tryz.ntmps74
    go_wp2_with (first | ((with_reducible apply wpM_box' M 50 (sqs n t)); rfl; exact ⟨rfl, rfl⟩; clear M; (try clear C); intro bq w9 h_bq M; have C := M.ruleAll; simp only [Go.Proofs.YtocejggobgfccaaGreatDoor.ruleAll] at C) | ((with_reducible apply wpM_lda' M 0 50 0 (sqs n t)); rfl; rfl; rfl; exact ⟨rfl, inf_sqs.trans (congrArg some (sqs_size ..).symm), _, und_sqs, rfl⟩; exact whole_of rfl) | (go_at_call 92; ((with_reducible refine (HL _).mono ?_); rintro e w1 ⟨rfl, hb⟩; have hsz := M.size; (try (have G9 := G.later hb; clear G; have G := G9; clear G9)); have M9 := M.later hb; clear M; (try clear C); have M := M9; clear M9; have C := M.ruleAll; simp only [Go.Proofs.YtocejggobgfccaaGreatDoor.ruleAll] at C)))
    go_ret
    exact ⟨rfl, M.below⟩
  · have hA : apB t 47 a c = lq (fun x y => t y x) c a := rfl
    rw [hA]
    generalize lq (fun x y => t y x) c a = v at HR
    clear hg
    go_enter Tryz.func74, Tryz.ntmps74
    go_wp2_with (first | ((with_reducible apply wpM_box' M 50 (sqs n t)); rfl; exact ⟨rfl, rfl⟩; clear M; (try clear C); intro bq w9 h_bq M; have C := M.ruleAll; simp only [Go.Proofs.YtocejggobgfccaaGreatDoor.ruleAll] at C) | ((with_reducible apply wpM_lda' M 0 50 0 (sqs n t)); rfl; rfl; rfl; exact ⟨rfl, inf_sqs.trans (congrArg some (sqs_size ..).symm), _, und_sqs, rfl⟩; exact whole_of rfl) | (go_at_call 91; ((with_reducible refine (HR _).mono ?_); rintro e w1 ⟨rfl, hb⟩; have hsz := M.size; (try (have G9 := G.later hb; clear G; have G := G9; clear G9)); have M9 := M.later hb; clear M; (try clear C); have M := M9; clear M9; have C := M.ruleAll; simp only [Go.Proofs.YtocejggobgfccaaGreatDoor.ruleAll] at C)))
    go_ret
    exact ⟨rfl, M.below⟩
end Go.Proofs.YtocejggobgfccaaGreatDoor

/- Which bytes are a term, for the program and for the reference: contracts. -/
namespace Go.Proofs.YtocejggobgfccaaGreatDoor
set_option linter.unusedSimpArgs false
set_option linter.unusedVariables false
open Go Go.RowKit

theorem neI {b : Nat} {c : Nat} (h : b ≠ c) : ((b : Int) == (c : Int)) = false := by simp; omega

set_option maxRecDepth 100000 in
theorem isLeaf_b (b : Nat) (r : Bool) (h : isLeafB b = r) (w : World) : Calls Tryz.prog 102 #[.int .u8 (b : Int)] w fun e w' => e = .returned (.bool r) ∧ w = w' := by
  by_cases h1 : b = 120
  · subst h1; subst h; go_enter Tryz.func102, Tryz.ntmps102; go_wp2; go_ret; exact ⟨rfl, rfl⟩
  by_cases h2 : b = 121
  · subst h2; subst h; go_enter Tryz.func102, Tryz.ntmps102; go_wp2; go_ret; exact ⟨rfl, rfl⟩
  by_cases h3 : b = 122
  · subst h3; subst h; go_enter Tryz.func102, Tryz.ntmps102; go_wp2; go_ret; exact ⟨rfl, rfl⟩
  by_cases h4 : b = 101
  · subst h4; subst h; go_enter Tryz.func102, Tryz.ntmps102; go_wp2; go_ret; exact ⟨rfl, rfl⟩
  have hr : r = false := by rw [← h]; simp [isLeafB, h1, h2, h3, h4]
  subst hr
  have e1 : ((b : Int) == 120) = false := neI h1
  have e2 : ((b : Int) == 121) = false := neI h2
  have e3 : ((b : Int) == 122) = false := neI h3
  have e4 : ((b : Int) == 101) = false := neI h4
  clear h h1 h2 h3 h4
  go_enter Tryz.func102, Tryz.ntmps102
  go_wp2
  go_ret
  exact ⟨rfl, rfl⟩

set_option maxRecDepth 100000 in
theorem isOp_b (b : Nat) (r : Bool) (h : isOpB b = r) (w : World) : Calls Tryz.prog 96 #[.int .u8 (b : Int)] w fun e w' => e = .returned (.bool r) ∧ w = w' := by
  by_cases h1 : b = 42
  · subst h1; subst h; go_enter Tryz.func96, Tryz.ntmps96; go_wp2; go_ret; exact ⟨rfl, rfl⟩
  by_cases h2 : b = 92
  · subst h2; subst h; go_enter Tryz.func96, Tryz.ntmps96; go_wp2; go_ret; exact ⟨rfl, rfl⟩
  by_cases h3 : b = 47
  · subst h3; subst h; go_enter Tryz.func96, Tryz.ntmps96; go_wp2; go_ret; exact ⟨rfl, rfl⟩
  have hr : r = false := by rw [← h]; simp [isOpB, h1, h2, h3]
  subst hr
  have e1 : ((b : Int) == 42) = false := neI h1
  have e2 : ((b : Int) == 92) = false := neI h2
  have e3 : ((b : Int) == 47) = false := neI h3
  clear h h1 h2 h3
  go_enter Tryz.func96, Tryz.ntmps96
  go_wp2
  go_ret
  exact ⟨rfl, rfl⟩

set_option maxRecDepth 100000 in
theorem l03Op_b (b : Nat) (r : Bool) (h : isOpB b = r) (w : World) : Calls Tryz.prog 71 #[.int .u8 (b : Int)] w fun e w' => e = .returned (.bool r) ∧ w = w' := by
  by_cases h1 : b = 42
  · subst h1; subst h; go_enter Tryz.func71, Tryz.ntmps71; go_wp2; go_ret; exact ⟨rfl, rfl⟩
  by_cases h2 : b = 92
  · subst h2; subst h; go_enter Tryz.func71, Tryz.ntmps71; go_wp2; go_ret; exact ⟨rfl, rfl⟩
  by_cases h3 : b = 47
  · subst h3; subst h; go_enter Tryz.func71, Tryz.ntmps71; go_wp2; go_ret; exact ⟨rfl, rfl⟩
  have hr : r = false := by rw [← h]; simp [isOpB, h1, h2, h3]
  subst hr
  have e1 : ((b : Int) == 42) = false := neI h1
  have e2 : ((b : Int) == 92) = false := neI h2
  have e3 : ((b : Int) == 47) = false := neI h3
  clear h h1 h2 h3
  go_enter Tryz.func71, Tryz.ntmps71
  go_wp2
  go_ret
  exact ⟨rfl, rfl⟩

/-- The bytes of a term as a function. -/
def bf (xs : List Nat) (j : Nat) : Nat := elB xs j
theorem tmTo_succ {f : Nat → Nat} {k v : Nat} (h : tmTo f k = some v) : tmTo f (k + 1) = tmStep (f k) v := by rw [tmTo, h]
theorem tmStep_leaf {b v : Nat} (h : isLeafB b = true) : tmStep b v = some (v + 1) := if_pos h
theorem tmStep_op {b v : Nat} (h : isLeafB b = false) (h1 : isOpB b = true) (h2 : 2 ≤ v) : tmStep b v = some (v - 1) := by simp [tmStep, h, h1, h2]
theorem tmStep_no {b v : Nat} (h : isLeafB b = false) (h1 : ¬ (isOpB b = true ∧ 2 ≤ v)) : tmStep b v = none := by simp [tmStep, h]; intro h2; exact Nat.lt_of_not_le fun h3 => h1 ⟨h2, h3⟩

set_option maxRecDepth 100000 in
set_option maxHeartbeats 2000000 in
theorem isTerm_any (xs : List Nat) (hlen : xs.length ≤ 10000000) (w : World) (p : Option Addr) (cap : Nat) (hr : rdq w p xs.length (bytF xs)) :
    Calls Tryz.prog 98 #[.slice p xs.length cap] w fun e w' => e = .returned (.bool (isTm (elB xs) xs.length)) ∧ Below w.heap.size w w' := by
  have M := Mm.start no w
  have F1 := Hid2.mk (fun w1 (hb : Below w.heap.size w w1) => hr.later hb)
  clear hr
  go_enter Tryz.func98, Tryz.ntmps98
  go_wp2
  go_loopw [8, 3, 5, 12, 17] (fun i v _ _ _ wr => ∃ k u : Nat, k ≤ xs.length ∧ i = .int .i64 (k : Int) ∧ v = .int .i64 (u : Int) ∧ tmTo (elB xs) k = some u ∧ Mm no w wr []) (fun i _ _ _ _ _ => xs.length - (intOf i).toNat)
  case atStart => exact ⟨0, 0, by omega, rfl, rfl, rfl, M⟩
  case round =>
    obtain ⟨k, u, hk, rfl, rfl, ht, M9⟩ := hrel
    clear M
    have M := M9
    clear M9
    have hu := tmTo_le ht
    have hw : wrap64 ((u : Int) + 1) = ((u + 1 : Nat) : Int) := by rw [wrap_small _ (by omega) (by omega)]; omega
    have HT := Hid2.mk ht
    clear ht
    by_cases hlt : k < xs.length
    · have hlt' : (k : Int) < (xs.length : Int) := by omega
      obtain ⟨g, rfl, hrr⟩ := F1.out _ M.below (by omega)
      have hc0 : wr.cell? ⟨g, k, none⟩ = some (.int .u8 (elB xs k : Nat)) := hrr.at_ k hlt
      clear hrr
      have HS := Hid2.mk (tmTo_succ HT.out)
      have HN := Hid2.mk (fun h => @isTm_none (elB xs) xs.length (k + 1) h (by omega))
      by_cases hl : isLeafB (elB xs k) = true
      · have H1 := fun w1 => isLeaf_b (elB xs k) true hl w1
        have HH := Hid2.mk (HS.out.trans (tmStep_leaf hl))
        generalize elB xs k = b at hc0 H1
        clear hl HS HN
        go_wp2_with (first | (go_at_call 102; ((with_reducible refine (H1 _).mono ?_); rintro e w1 ⟨rfl, rfl⟩)))
        go_roundw
        case rel => exact ⟨k + 1, u + 1, by omega, by go_num, by first | rfl | (congr 1; omega), HH.out, M⟩
        case measure => simp [intOf]; omega
      · have hl := Bool.eq_false_iff.2 hl
        have H1 := fun w1 => isLeaf_b (elB xs k) false hl w1
        by_cases ho : isOpB (elB xs k) = true
        · have H2 := fun w1 => isOp_b (elB xs k) true ho w1
          by_cases h2 : 2 ≤ u
          · have h2' : (2 : Int) ≤ (u : Int) := by omega
            have hw2 : wrap64 ((u : Int) - 1) = ((u - 1 : Nat) : Int) := by rw [wrap_small _ (by omega) (by omega)]; omega
            have HH := Hid2.mk (HS.out.trans (tmStep_op hl ho h2))
            generalize elB xs k = b at hc0 H1 H2
            clear hl HS HN ho
            go_wp2_with (first | (go_at_call 102; ((with_reducible refine (H1 _).mono ?_); rintro e w1 ⟨rfl, rfl⟩)) | (go_at_call 96; ((with_reducible refine (H2 _).mono ?_); rintro e w1 ⟨rfl, rfl⟩)))
            go_roundw
            case rel => exact ⟨k + 1, u - 1, by omega, by go_num, by first | rfl | (congr 1; omega), HH.out, M⟩
            case measure => simp [intOf]; omega
          · have h2' : ¬ (2 : Int) ≤ (u : Int) := by omega
            have HH := Hid2.mk (HN.out (HS.out.trans (tmStep_no hl fun h => h2 h.2)))
            generalize elB xs k = b at hc0 H1 H2
            clear hl HS HN ho
            go_wp2_with (first | (go_at_call 102; ((with_reducible refine (H1 _).mono ?_); rintro e w1 ⟨rfl, rfl⟩)) | (go_at_call 96; ((with_reducible refine (H2 _).mono ?_); rintro e w1 ⟨rfl, rfl⟩)))
            go_ret
            exact ⟨by rw [HH.out]; rfl, M.below⟩
        · have H2 := fun w1 => isOp_b (elB xs k) false (Bool.eq_false_iff.2 ho) w1
          have HH := Hid2.mk (HN.out (HS.out.trans (tmStep_no hl fun h => ho h.1)))
          generalize elB xs k = b at hc0 H1 H2
          clear hl HS HN ho
          go_wp2_with (first | (go_at_call 102; ((with_reducible refine (H1 _).mono ?_); rintro e w1 ⟨rfl, rfl⟩)) | (go_at_call 96; ((with_reducible refine (H2 _).mono ?_); rintro e w1 ⟨rfl, rfl⟩)))
          go_ret
          exact ⟨by rw [HH.out]; rfl, M.below⟩
    · obtain rfl : k = xs.length := by omega
      have hge : ¬ ((xs.length : Int) < (xs.length : Int)) := by omega
      by_cases h1 : u = 1
      · subst h1
        by_cases h4 : xs.length ≤ 40
        · have h4' : (xs.length : Int) ≤ 40 := by omega
          have HF := Hid2.mk (isTm_iff.2 ⟨HT.out, h4⟩)
          go_wp2
          go_ret
          exact ⟨by rw [HF.out]; rfl, M.below⟩
        · have h4' : ¬ (xs.length : Int) ≤ 40 := by omega
          have HF := Hid2.mk (Bool.eq_false_iff.2 fun h => h4 (@isTm_iff (elB xs) xs.length |>.1 h).2)
          go_wp2
          go_ret
          exact ⟨by rw [HF.out]; rfl, M.below⟩
      · have h1' : ((u : Int) == 1) = false := neI h1
        have HF := Hid2.mk (Bool.eq_false_iff.2 fun h => h1 (by have := HT.out.symm.trans (@isTm_iff (elB xs) xs.length |>.1 h).1; cases this; rfl))
        go_wp2
        go_ret
        exact ⟨by rw [HF.out]; rfl, M.below⟩

theorem leaf_cases {b : Nat} (h : isLeafB b = true) : b = 120 ∨ b = 121 ∨ b = 122 ∨ b = 101 := by simp [isLeafB] at h; omega
theorem leaf_none {b : Nat} (h : isLeafB b = false) : b ≠ 120 ∧ b ≠ 121 ∧ b ≠ 122 ∧ b ≠ 101 := by simp [isLeafB] at h; omega

set_option maxRecDepth 100000 in
set_option maxHeartbeats 2000000 in
theorem l03Is_any (xs : List Nat) (hlen : xs.length ≤ 10000000) (w : World) (p : Option Addr) (cap : Nat) (hr : rdq w p xs.length (bytF xs)) :
    Calls Tryz.prog 72 #[.slice p xs.length cap] w fun e w' => e = .returned (.bool (isTm (elB xs) xs.length)) ∧ Below w.heap.size w w' := by
  have M := Mm.start no w
  have F1 := Hid2.mk (fun w1 (hb : Below w.heap.size w w1) => hr.later hb)
  clear hr
  go_enter Tryz.func72, Tryz.ntmps72
  go_wp2
  go_loopw [4, 3, 11, 40] (fun i v _ _ wr => ∃ k u : Nat, k ≤ xs.length ∧ i = .int .i64 (k : Int) ∧ v = .int .i64 (u : Int) ∧ tmTo (elB xs) k = some u ∧ Mm no w wr []) (fun i _ _ _ _ => xs.length - (intOf i).toNat)
  case atStart => exact ⟨0, 0, by omega, rfl, rfl, rfl, M⟩
  case round =>
    obtain ⟨k, u, hk, rfl, rfl, ht, M9⟩ := hrel
    clear M
    have M := M9
    clear M9
    have hu := tmTo_le ht
    have hw : wrap64 ((u : Int) + 1) = ((u + 1 : Nat) : Int) := by rw [wrap_small _ (by omega) (by omega)]; omega
    have HT := Hid2.mk ht
    clear ht
    by_cases hlt : k < xs.length
    · have hlt' : (k : Int) < (xs.length : Int) := by omega
      obtain ⟨g, rfl, hrr⟩ := F1.out _ M.below (by omega)
      have hc0 : wr.cell? ⟨g, k, none⟩ = some (.int .u8 (elB xs k : Nat)) := hrr.at_ k hlt
      clear hrr
      have HS := Hid2.mk (tmTo_succ HT.out)
      have HN := Hid2.mk (fun h => @isTm_none (elB xs) xs.length (k + 1) h (by omega))
      by_cases hl : isLeafB (elB xs k) = true
      · have HH := Hid2.mk (HS.out.trans (tmStep_leaf hl))
        have hb := leaf_cases hl
        generalize elB xs k = b at hc0 hb
        clear hl HS HN
        rcases hb with rfl | rfl | rfl | rfl
        all_goals
          go_wp2
          go_roundw
          case rel => exact ⟨k + 1, u + 1, by omega, by go_num, by first | rfl | (congr 1; omega), HH.out, M⟩
          case measure => simp [intOf]; omega
      · have hl := Bool.eq_false_iff.2 hl
        obtain ⟨n1, n2, n3, n4⟩ := leaf_none hl
        have e1 : ((elB xs k : Int) == 120) = false := neI n1
        have e2 : ((elB xs k : Int) == 121) = false := neI n2
        have e3 : ((elB xs k : Int) == 122) = false := neI n3
        have e4 : ((elB xs k : Int) == 101) = false := neI n4
        clear n1 n2 n3 n4
        by_cases ho : isOpB (elB xs k) = true
        · have H2 := fun w1 => l03Op_b (elB xs k) true ho w1
          by_cases h2 : 2 ≤ u
          · have h2' : (2 : Int) ≤ (u : Int) := by omega
            have hw2 : wrap64 ((u : Int) - 1) = ((u - 1 : Nat) : Int) := by rw [wrap_small _ (by omega) (by omega)]; omega
            have HH := Hid2.mk (HS.out.trans (tmStep_op hl ho h2))
            generalize elB xs k = b at hc0 H2 e1 e2 e3 e4
            clear hl HS HN ho
            go_wp2_with (first | (go_at_call 71; ((with_reducible refine (H2 _).mono ?_); rintro e w1 ⟨rfl, rfl⟩)))
            go_roundw
            case rel => exact ⟨k + 1, u - 1, by omega, by go_num, by first | rfl | (congr 1; omega), HH.out, M⟩
            case measure => simp [intOf]; omega
          · have h2' : ¬ (2 : Int) ≤ (u : Int) := by omega
            have HH := Hid2.mk (HN.out (HS.out.trans (tmStep_no hl fun h => h2 h.2)))
            generalize elB xs k = b at hc0 H2 e1 e2 e3 e4
            clear hl HS HN ho
            go_wp2_with (first | (go_at_call 71; ((with_reducible refine (H2 _).mono ?_); rintro e w1 ⟨rfl, rfl⟩)))
            go_ret
            exact ⟨by rw [HH.out]; rfl, M.below⟩
        · have H2 := fun w1 => l03Op_b (elB xs k) false (Bool.eq_false_iff.2 ho) w1
          have HH := Hid2.mk (HN.out (HS.out.trans (tmStep_no hl fun h => ho h.1)))
          generalize elB xs k = b at hc0 H2 e1 e2 e3 e4
          clear hl HS HN ho
          go_wp2_with (first | (go_at_call 71; ((with_reducible refine (H2 _).mono ?_); rintro e w1 ⟨rfl, rfl⟩)))
          go_ret
          exact ⟨by rw [HH.out]; rfl, M.below⟩
    · obtain rfl : k = xs.length := by omega
      have hge : ¬ ((xs.length : Int) < (xs.length : Int)) := by omega
      by_cases h1 : u = 1
      · subst h1
        by_cases h4 : xs.length ≤ 40
        · have h4' : (xs.length : Int) ≤ 40 := by omega
          have HF := Hid2.mk (isTm_iff.2 ⟨HT.out, h4⟩)
          go_wp2
          go_ret
          exact ⟨by rw [HF.out]; rfl, M.below⟩
        · have h4' : ¬ (xs.length : Int) ≤ 40 := by omega
          have HF := Hid2.mk (Bool.eq_false_iff.2 fun h => h4 (@isTm_iff (elB xs) xs.length |>.1 h).2)
          go_wp2
          go_ret
          exact ⟨by rw [HF.out]; rfl, M.below⟩
      · have h1' : ((u : Int) == 1) = false := neI h1
        have HF := Hid2.mk (Bool.eq_false_iff.2 fun h => h1 (by have := HT.out.symm.trans (@isTm_iff (elB xs) xs.length |>.1 h).1; cases this; rfl))
        go_wp2
        go_ret
        exact ⟨by rw [HF.out]; rfl, M.below⟩
end Go.Proofs.YtocejggobgfccaaGreatDoor

/- Identities: contracts. -/
namespace Go.Proofs.YtocejggobgfccaaGreatDoor
set_option linter.unusedSimpArgs false
set_option linter.unusedVariables false
open Go Go.RowKit

/-- The two sides of an identity, as cells. -/
def idV (p1 : Option Addr) (c1 : Nat) (p2 : Option Addr) (c2 n m : Nat) : Array Value := #[.slice p1 n c1, .slice p2 m c2]
theorem und_idn : Tryz.prog.underlying 43 = some (.struct (Tryz.prog.fieldsOf 43)) := by kernel_rfl
theorem inf_idn : (Tryz.prog.info? 43).map (·.size) = some 2 := by kernel_rfl
theorem idv_size (p1 : Option Addr) (c1 : Nat) (p2 : Option Addr) (c2 n m : Nat) : (idV p1 c1 p2 c2 n m).size = 2 := rfl
theorem idv_0 (p1 : Option Addr) (c1 : Nat) (p2 : Option Addr) (c2 n m : Nat) : (idV p1 c1 p2 c2 n m)[0]? = some (.slice p1 n c1) := rfl
theorem idv_1 (p1 : Option Addr) (c1 : Nat) (p2 : Option Addr) (c2 n m : Nat) : (idV p1 c1 p2 c2 n m)[1]? = some (.slice p2 m c2) := rfl
theorem zero_idn (w : World) : (zeroValue 43).run Tryz.prog w = .ok (.agg (idV none 0 none 0 0 0)) w := by kernel_rfl
theorem flat_idv (p1 : Option Addr) (c1 : Nat) (p2 : Option Addr) (c2 n m : Nat) : flat (idV p1 c1 p2 c2 n m) := fun u hu => by
  have h : u = .slice p1 n c1 ∨ u = .slice p2 m c2 := by simpa [idV] using hu
  rcases h with rfl | rfl <;> rfl
def isId (xs ys : List Nat) : Bool := isTm (elB xs) xs.length && isTm (elB ys) ys.length

set_option maxRecDepth 100000 in
set_option maxHeartbeats 1000000 in
theorem isIdentity_any (xs ys : List Nat) (h1 : xs.length ≤ 10000000) (h2 : ys.length ≤ 10000000) (w : World) (p1 p2 : Option Addr) (c1 c2 : Nat) (r1 : rdq w p1 xs.length (bytF xs)) (r2 : rdq w p2 ys.length (bytF ys)) :
    Calls Tryz.prog 84 #[.agg (idV p1 c1 p2 c2 xs.length ys.length)] w fun e w' => e = .returned (.bool (isId xs ys)) ∧ Below w.heap.size w w' := by
  have M := Mm.start no w
  have H1 := fun w1 (hb : Below w.heap.size w w1) => isTerm_any xs h1 w1 p1 c1 (r1.later hb)
  have H2 := fun w1 (hb : Below w.heap.size w w1) => isTerm_any ys h2 w1 p2 c2 (r2.later hb)
  have hI : isId xs ys = (isTm (elB xs) xs.length && isTm (elB ys) ys.length) := rfl
  have hI1 := idv_0 p1 c1 p2 c2 xs.length ys.length
  have hI2 := idv_1 p1 c1 p2 c2 xs.length ys.length
  rw [hI]
  generalize isTm (elB xs) xs.length = x at H1
  generalize isTm (elB ys) ys.length = y at H2
  clear r1 r2 hI
  generalize hV : idV p1 c1 p2 c2 xs.length ys.length = V at hI1 hI2
  clear hV
  go_enter Tryz.func84, Tryz.ntmps84
  cases x
  · go_wp2_with (first | ((with_reducible apply wpM_box' M 43 (V)); rfl; exact ⟨rfl, rfl⟩; clear M; (try clear C); intro bi w9 h_bi M; have C := M.ruleAll; simp only [Go.Proofs.YtocejggobgfccaaGreatDoor.ruleAll] at C) | (go_at_call 98; ((with_reducible refine (H1 _ M.below).mono ?_); rintro e w1 ⟨rfl, hb⟩; have hsz := M.size; (try (have G9 := G.later hb; clear G; have G := G9; clear G9)); have M9 := M.later hb; clear M; (try clear C); have M := M9; clear M9; have C := M.ruleAll; simp only [Go.Proofs.YtocejggobgfccaaGreatDoor.ruleAll] at C)))
    go_ret
    exact ⟨rfl, M.below⟩
  · go_wp2_with (first | ((with_reducible apply wpM_box' M 43 (V)); rfl; exact ⟨rfl, rfl⟩; clear M; (try clear C); intro bi w9 h_bi M; have C := M.ruleAll; simp only [Go.Proofs.YtocejggobgfccaaGreatDoor.ruleAll] at C) | (go_at_call 98; ((with_reducible refine (H1 _ M.below).mono ?_); rintro e w1 ⟨rfl, hb⟩; have hsz := M.size; (try (have G9 := G.later hb; clear G; have G := G9; clear G9)); have M9 := M.later hb; clear M; (try clear C); have M := M9; clear M9; have C := M.ruleAll; simp only [Go.Proofs.YtocejggobgfccaaGreatDoor.ruleAll] at C)) | (go_at_call 98; ((with_reducible refine (H2 _ M.below).mono ?_); rintro e w1 ⟨rfl, hb⟩; have hsz := M.size; (try (have G9 := G.later hb; clear G; have G := G9; clear G9)); have M9 := M.later hb; clear M; (try clear C); have M := M9; clear M9; have C := M.ruleAll; simp only [Go.Proofs.YtocejggobgfccaaGreatDoor.ruleAll] at C)))
    go_ret
    exact ⟨by cases y <;> rfl, M.below⟩

set_option maxRecDepth 100000 in
set_option maxHeartbeats 1000000 in
theorem l03Both_any (xs ys : List Nat) (h1 : xs.length ≤ 10000000) (h2 : ys.length ≤ 10000000) (w : World) (p1 p2 : Option Addr) (c1 c2 : Nat) (r1 : rdq w p1 xs.length (bytF xs)) (r2 : rdq w p2 ys.length (bytF ys)) :
    Calls Tryz.prog 50 #[.agg (idV p1 c1 p2 c2 xs.length ys.length)] w fun e w' => e = .returned (.bool (isId xs ys)) ∧ Below w.heap.size w w' := by
  have M := Mm.start no w
  have H1 := fun w1 (hb : Below w.heap.size w w1) => l03Is_any xs h1 w1 p1 c1 (r1.later hb)
  have H2 := fun w1 (hb : Below w.heap.size w w1) => l03Is_any ys h2 w1 p2 c2 (r2.later hb)
  have hI : isId xs ys = (isTm (elB xs) xs.length && isTm (elB ys) ys.length) := rfl
  have hI1 := idv_0 p1 c1 p2 c2 xs.length ys.length
  have hI2 := idv_1 p1 c1 p2 c2 xs.length ys.length
  rw [hI]
  generalize isTm (elB xs) xs.length = x at H1
  generalize isTm (elB ys) ys.length = y at H2
  clear r1 r2 hI
  generalize hV : idV p1 c1 p2 c2 xs.length ys.length = V at hI1 hI2
  clear hV
  go_enter Tryz.func50, Tryz.ntmps50
  cases x
  · go_wp2_with (first | ((with_reducible apply wpM_box' M 43 (V)); rfl; exact ⟨rfl, rfl⟩; clear M; (try clear C); intro bi w9 h_bi M; have C := M.ruleAll; simp only [Go.Proofs.YtocejggobgfccaaGreatDoor.ruleAll] at C) | (go_at_call 72; ((with_reducible refine (H1 _ M.below).mono ?_); rintro e w1 ⟨rfl, hb⟩; have hsz := M.size; (try (have G9 := G.later hb; clear G; have G := G9; clear G9)); have M9 := M.later hb; clear M; (try clear C); have M := M9; clear M9; have C := M.ruleAll; simp only [Go.Proofs.YtocejggobgfccaaGreatDoor.ruleAll] at C)))
    go_ret
    exact ⟨rfl, M.below⟩
  · go_wp2_with (first | ((with_reducible apply wpM_box' M 43 (V)); rfl; exact ⟨rfl, rfl⟩; clear M; (try clear C); intro bi w9 h_bi M; have C := M.ruleAll; simp only [Go.Proofs.YtocejggobgfccaaGreatDoor.ruleAll] at C) | (go_at_call 72; ((with_reducible refine (H1 _ M.below).mono ?_); rintro e w1 ⟨rfl, hb⟩; have hsz := M.size; (try (have G9 := G.later hb; clear G; have G := G9; clear G9)); have M9 := M.later hb; clear M; (try clear C); have M := M9; clear M9; have C := M.ruleAll; simp only [Go.Proofs.YtocejggobgfccaaGreatDoor.ruleAll] at C)) | (go_at_call 72; ((with_reducible refine (H2 _ M.below).mono ?_); rintro e w1 ⟨rfl, hb⟩; have hsz := M.size; (try (have G9 := G.later hb; clear G; have G := G9; clear G9)); have M9 := M.later hb; clear M; (try clear C); have M := M9; clear M9; have C := M.ruleAll; simp only [Go.Proofs.YtocejggobgfccaaGreatDoor.ruleAll] at C)))
    go_ret
    exact ⟨by cases y <;> rfl, M.below⟩
end Go.Proofs.YtocejggobgfccaaGreatDoor

/- Texts: their bytes; texts put together. -/
namespace Go.Proofs.YtocejggobgfccaaGreatDoor
set_option linter.unusedSimpArgs false
set_option linter.unusedVariables false
open Go Go.RowKit

/-- The text of some bytes. -/
def str (l : List Nat) : ByteArray := ⟨(l.map UInt8.ofNat).toArray⟩
theorem str_size (l : List Nat) : (str l).size = l.length := by simp [str, ByteArray.size]
theorem str_nil : str [] = ⟨#[]⟩ := rfl
theorem str_app (a b : List Nat) : str a ++ str b = str (a ++ b) := by
  unfold str
  rw [ByteArray.mk_append_mk, List.map_append]
def Byts (l : List Nat) : Prop := ∀ x ∈ l, x < 256
theorem str_get {l : List Nat} (hb : Byts l) {k : Nat} (hk : k < (str l).size) : ((str l)[k]'hk).toNat = l.getD k 0 := by
  have hk' : k < l.length := by rw [str_size] at hk; exact hk
  have : (str l)[k]'hk = UInt8.ofNat l[k] := by
    show (str l).data[k] = _
    simp [str]
  rw [this, List.getD_eq_getElem?_getD, List.getElem?_eq_getElem hk']
  have := hb _ (List.getElem_mem hk')
  simp
  omega
theorem str_toList (l : List Nat) : (str l).toList = l.map UInt8.ofNat := by unfold str; rw [ByteArray.toList_mk]
theorem str_eq {a b : List Nat} (ha : Byts a) (hb : Byts b) : ((str a).toList == (str b).toList) = decide (a = b) := by
  rw [str_toList, str_toList]
  by_cases h : a = b
  · subst h; simp
  · simp only [h, decide_false]
    refine beq_eq_false_iff_ne.2 fun e => h ?_
    have e2 := congrArg (List.map UInt8.toNat) e
    rw [List.map_map, List.map_map] at e2
    have key : ∀ l : List Nat, Byts l → l.map (UInt8.toNat ∘ UInt8.ofNat) = l := fun l hl => by
      conv => rhs; rw [← List.map_id l]
      refine List.map_congr_left fun x hx => ?_
      have := hl x hx
      simp
      omega
    rwa [key a ha, key b hb] at e2
/-- Each text is the text of its bytes. -/
theorem str_of (s : ByteArray) : ∃ l, Byts l ∧ s = str l ∧ l.length = s.size := by
  refine ⟨s.data.toList.map UInt8.toNat, fun x hx => ?_, ?_, by rw [List.length_map, Array.length_toList]; rfl⟩
  · obtain ⟨y, _, rfl⟩ := List.mem_map.1 hx
    exact y.toNat_lt
  · unfold str
    rw [List.map_map]
    have : (UInt8.ofNat ∘ UInt8.toNat) = id := by funext x; simp
    rw [this, List.map_id]
theorem und_str : Tryz.prog.underlying 9 = some .string := by kernel_rfl
theorem ix_str {l : List Nat} (hb : Byts l) (k : Nat) (hk : k < l.length) (w : World) : (Instr.index 9 (.string (str l)) (.int .i64 (k : Int))).run Tryz.prog w = .ok (.int .u8 (l.getD k 0 : Nat)) w := by
  have h1 : k < (str l).size := by rw [str_size]; exact hk
  rw [run_index_string (h := und_str), dif_pos ⟨by omega, by omega⟩]
  congr 2
  rw [← str_get hb h1]
  rfl

theorem add_str (a b : List Nat) (h : a.length + b.length ≤ 100000) (w : World) : (Op.stringOp .add (str a) (str b)).run Tryz.prog w = .ok (.string (str (a ++ b))) w := by
  rw [run_string_add_sum w (str a) (str b) (by rw [str_size, str_size]; omega), str_app]
theorem und_slT : Tryz.prog.underlying 41 = some (.slice 5) := by kernel_rfl
/-- The bytes of a term as text. -/
theorem conv_str {w : World} {b : Nat} {g : Nat} {cap : Nat} (hb : b < 256) (h : w.cell? ⟨g, 0, none⟩ = some (.int .u8 (b : Int))) : (convert 41 9 (.slice (some ⟨g, 0, none⟩) 1 cap)).run Tryz.prog w = .ok (.string (str [b])) w :=
  run_convert_bytes_back w 41 9 5 ⟨g, 0, none⟩ cap [UInt8.ofNat b] und_slT (by kernel_rfl) und_str fun j hj => by
    have : j = 0 := by simp at hj; exact hj
    subst this
    rw [add_none, h]
    simp
    omega

/-! ### A number as a text -/
/-- The digits of a number, none for 0. -/
def digs (k : Nat) : List Nat := if k = 0 then [] else digs (k / 10) ++ [48 + k % 10]
decreasing_by omega
theorem digs_0 : digs 0 = [] := by rw [digs]; rfl
theorem digs_pos {k : Nat} (h : 0 < k) : digs k = digs (k / 10) ++ [48 + k % 10] := by rw [digs, if_neg (by omega)]
theorem digs_len : ∀ (n k : Nat), k < 10 ^ n → (digs k).length ≤ n
  | 0, k, h => by
    obtain rfl : k = 0 := by simpa using h
    rw [digs_0]; exact Nat.le_refl _
  | n + 1, k, h => by
    by_cases h0 : k = 0
    · subst h0; rw [digs_0]; exact Nat.zero_le _
    · rw [digs_pos (by omega)]
      have := digs_len n (k / 10) (by rw [Nat.pow_succ] at h; omega)
      simp only [List.length_append, List.length_singleton]
      omega
/-- The mark of a number. -/
def mkT (k : Nat) : List Nat := if k = 0 then [109, 48] else 109 :: digs k
end Go.Proofs.YtocejggobgfccaaGreatDoor

/- Texts: their bytes; the reader's next byte; a text in parentheses. -/
namespace Go.Proofs.YtocejggobgfccaaGreatDoor
set_option linter.unusedSimpArgs false
set_option linter.unusedVariables false
open Go Go.RowKit

/-! ### The reader -/
def wdA (l : List Nat) (k : Nat) : Array Value := #[.string (str l), .int .i64 (k : Int)]
theorem wdA_0 (l : List Nat) (k : Nat) : (wdA l k)[0]? = some (.string (str l)) := rfl
theorem wdA_1 (l : List Nat) (k : Nat) : (wdA l k)[1]? = some (.int .i64 (k : Int)) := rfl
theorem wdA_size (l : List Nat) (k : Nat) : (wdA l k).size = 2 := rfl
/-- The place behind the next byte. -/
def nxK (l : List Nat) (k : Nat) : Nat := if k < l.length then k + 1 else k

set_option maxRecDepth 100000 in
set_option maxHeartbeats 1000000 in
theorem next_any (l : List Nat) (hl : l.length ≤ 1000) (hb : Byts l) (k : Nat) (hk : k ≤ l.length) (bw : Nat) (w : World) (h : blk w bw (wdA l k) 117) :
    Calls Tryz.prog 83 #[.pointer (some ⟨bw, 0, none⟩)] w fun e w' => e = .returned (.int .u8 (l.getD k 0 : Nat)) ∧ Mm (fun b => b = bw) w w' [.box bw (wdA l (nxK l k)) 117] := by
  have M := ((Mm.start no w).only (fun b => b = bw)).add (x := .box bw (wdA l k) 117) h fun _ h => by cases h
  have hsz := str_size l
  have c0 := wdA_0 l k
  have c1 := wdA_1 l k
  by_cases hlt : k < l.length
  · have hix := ix_str hb k hlt
    have hd0 := wdA_0 l (k + 1)
    have hd1 := wdA_1 l (k + 1)
    have HW := Hid2.mk (show (wdA l k).setIfInBounds 1 (.int .i64 ((k : Int) + 1)) = wdA l (k + 1) from rfl)
    have he : ((k : Int) == (l.length : Int)) = false := by simp; omega
    have hk1 : ((k : Int) + 1) - 1 = (k : Int) := by omega
    have hn : nxK l k = k + 1 := if_pos hlt
    rw [hn]
    generalize str l = s at *
    generalize (l.getD k 0 : Nat) = b at *
    have HSZ := Hid2.mk (wdA_size l k)
    generalize hA : wdA l k = A at *
    generalize hB : wdA l (k + 1) = B at *
    clear h hb hn hA hB
    have C := M.ruleAll; simp only [Go.Proofs.YtocejggobgfccaaGreatDoor.ruleAll] at C
    go_enter Tryz.func83, Tryz.ntmps83
    go_wp2
    apply wp_region_mm M 9 (by kernel_rfl) (by kernel_rfl); (simp only [List.take_succ_cons, List.take_zero]; repeat (first | exact wpText_nil | (apply wpText_cons; (intro w2 M; have C := M.ruleAll; simp only [Go.Proofs.YtocejggobgfccaaGreatDoor.ruleAll] at C; go_wp2; exact ⟨rfl, rfl, M⟩); rfl))); (clear M; (try clear C); intro w2 M; simp only [List.drop_succ_cons, List.drop_zero]; have C := M.ruleAll; simp only [Go.Proofs.YtocejggobgfccaaGreatDoor.ruleAll] at C)
    go_wp2_with (first | ((with_reducible apply wpM_st' M 0 3 (1) (B)); rfl; rfl; rfl; (first | exact .inl (by assumption) | exact .inr rfl | exact .inr (by assumption)); exact ⟨rfl, rfl, by kernel_rfl⟩; (exact Nat.lt_of_lt_of_eq (by omega) (HSZ.out).symm); exact HW.out; clear M; (try clear C); intro w9 M; simp only [List.set_cons_zero, List.set_cons_succ, entBlk, entT, List.getElem?_cons_zero, List.getElem?_cons_succ] at M; have C := M.ruleAll; simp only [Go.Proofs.YtocejggobgfccaaGreatDoor.ruleAll] at C))
    apply wp_region_mm M 9 (by kernel_rfl) (by kernel_rfl); (simp only [List.take_succ_cons, List.take_zero]; repeat (first | exact wpText_nil | (apply wpText_cons; (intro w2 M; have C := M.ruleAll; simp only [Go.Proofs.YtocejggobgfccaaGreatDoor.ruleAll] at C; go_wp2; exact ⟨rfl, rfl, M⟩); rfl))); (clear M; (try clear C); intro w2 M; simp only [List.drop_succ_cons, List.drop_zero]; have C := M.ruleAll; simp only [Go.Proofs.YtocejggobgfccaaGreatDoor.ruleAll] at C)
    go_wp2
    go_ret
    exact ⟨rfl, M⟩
  · obtain rfl : k = l.length := by omega
    have he : ((l.length : Int) == (l.length : Int)) = true := by simp
    have hn : nxK l l.length = l.length := if_neg hlt
    have hg : l.getD l.length 0 = 0 := by simp [List.getD_eq_getElem?_getD]
    rw [hn, hg]
    generalize str l = s at *
    generalize hA : wdA l l.length = A at *
    clear h hb hn hg hA
    have C := M.ruleAll; simp only [Go.Proofs.YtocejggobgfccaaGreatDoor.ruleAll] at C
    go_enter Tryz.func83, Tryz.ntmps83
    go_wp2
    apply wp_region_mm M 9 (by kernel_rfl) (by kernel_rfl); (simp only [List.take_succ_cons, List.take_zero]; repeat (first | exact wpText_nil | (apply wpText_cons; (intro w2 M; have C := M.ruleAll; simp only [Go.Proofs.YtocejggobgfccaaGreatDoor.ruleAll] at C; go_wp2; exact ⟨rfl, rfl, M⟩); rfl))); (clear M; (try clear C); intro w2 M; simp only [List.drop_succ_cons, List.drop_zero]; have C := M.ruleAll; simp only [Go.Proofs.YtocejggobgfccaaGreatDoor.ruleAll] at C)
    go_wp2
    go_ret
    exact ⟨rfl, M⟩
end Go.Proofs.YtocejggobgfccaaGreatDoor

/- One row is put behind another one; a list of bytes copied. -/
namespace Go.Proofs.YtocejggobgfccaaGreatDoor
set_option linter.unusedSimpArgs false
set_option linter.unusedVariables false
open Go Go.RowKit

/-- The bytes of a list as cells. -/
def u8s (l : List Nat) : List Value := l.map fun (b : Nat) => .int .u8 (b : Int)
theorem u8s_len (l : List Nat) : (u8s l).length = l.length := by simp [u8s]
theorem u8s_app (a b : List Nat) : u8s (a ++ b) = u8s a ++ u8s b := by simp [u8s]
theorem u8s_one (l : List Nat) : ∀ u ∈ u8s l, u.oneCell' = true := by
  intro u hu
  obtain ⟨b, _, rfl⟩ := List.mem_map.1 hu
  rfl
theorem u8s_get (l : List Nat) {j : Nat} (hj : j < l.length) : (u8s l).getD j undef = bytF l j := by
  unfold bytF elB u8s
  rw [List.getD_eq_getElem?_getD, List.getD_eq_getElem?_getD, List.getElem?_map, List.getElem?_eq_getElem hj]
  rfl
theorem u8_rdq {w : World} {B n c : Nat} {p : Option Addr} {xs : List Nat} (hn : n = xs.length) (h : w.ownsRow B 5 1 (.slice p n c) n (u8s xs)) : rdq w p xs.length (bytF xs) := by
  subst hn
  have hr := rdq_of_own h
  rw [Nat.mul_one] at hr
  exact hr.congr fun j hj => u8s_get xs hj
theorem inf_u8r : (Tryz.prog.info? 5).map (fun i => (i.zero, i.size, i.bytes)) = some (some (.int .u8 0), 1, 1) := inf_el8b

section
variable {P : Program} {D : Nat → Prop} {w0 w : World} {L : List Ent} {ops : Array Oper} {rest : List Oper} {o : Oper} {a : Act} {Q : Exit → Act → World → Prop}
/-- append(v, x...): a row behind a row. -/
theorem wpM_appr (M : Mm D w0 w L) (t i k : Nat) (B : Nat) (v : Value) (n : Nat) (xs : List Value) (e bytes : Nat) (B2 : Nat) (p2 : Option Addr) (c2 m : Nat) (ys : List Value) (ho : isApp o.op t = true) (hi : L[i]? = some (.row B v n xs e 1)) (hk : L[k]? = some (.row B2 (.slice p2 m c2) m ys e 1)) (hs : a.eval (appS o.op) = v) (hx : a.eval (appX o.op) = .slice p2 m c2)
    (hgd : o.guard = none) (hB : w0.heap.size ≤ B ∨ ∀ k, v.ownBlock = some k → D k) (hBw : B ≤ w.heap.size) (z : Value) (ht : P.underlying t = some (.slice e)) (hinfo : (P.info? e).map (fun i => (i.zero, i.size, i.bytes)) = some (some z, 1, bytes))
    (hzs : z.cells.size = 1) (h1 : ∀ u ∈ ys, u.oneCell' = true) (h63 : n + m ≤ maxLen) (hbytes : (n + m) * bytes ≤ 140737488355328)
    (h : ∀ v' w', Far v' v w0.heap.size → Mm D w0 w' (L.set i (.row B v' (n + m) (xs ++ ys) e 1)) → wpList P ops Q rest (a.put o.dst v') w') : wpList P ops Q (o :: rest) a w := by
  obtain ⟨i0, hi0, hzz⟩ := Option.map_eq_some_iff.1 hinfo
  simp only [Prod.mk.injEq] at hzz
  obtain ⟨hz0, hz1, hz2⟩ := hzz
  have hown := M.row i hi
  have hown2 := M.row k hk
  have hil : i < L.length := (List.getElem?_eq_some_iff.1 hi).1
  rcases p2 with _ | ad
  · rcases hown2.2 with ⟨he, hm⟩ | ⟨g, cap, cur, he, _⟩
    · cases he
      have hy : ys = [] := List.eq_nil_of_length_eq_zero (by have := hown2.1; omega)
      subst hy
      refine wpList_plain hgd fun K hK => ?_
      have hr := run_append_owned_none (P := P) w B t o.type e i0 1 ht hi0 v n xs hown
      have ho' := isApp_spec ho
      clear ho
      generalize appS o.op = s at ho' hs
      generalize appX o.op = x at ho' hx
      unfold Oper.wp execOp
      simp only [ho', resolve, invoke, builtin, Sem.run_bind, Sem.run_pure, Result.andThen_ok, List.map_toArray, List.map_cons, List.map_nil, hs, hx, hr]
      refine hK _ _ (h v w (.inl rfl) ?_)
      rw [List.append_nil, Nat.add_zero]
      have : L.set i (.row B v n xs e 1) = L := by
        apply List.ext_getElem?
        intro j
        rw [List.getElem?_set]
        split
        · rename_i e; subst e; first | rw [if_pos hil, hi] | exact hi.symm
        · rfl
      rw [this]; exact M
    · cases he
  · have hc : ∀ j u, ys[j]? = some u → w.cell? (ad.add j) = some u := fun j u hj => by
      rcases hown2.2 with ⟨he, hm⟩ | ⟨g, cap, cur, he, _⟩
      · cases he
      · cases he
        exact hown2.cells rfl j u hj
    exact wpList_append_own_at w hgd _ _ t (isApp_spec ho) B e i0 z 1 bytes ht hi0 hz0 hz1 hz2 hzs (by omega) v n xs hs hown ad m c2 ys hx hown2.1 hc h1 h63 hbytes hBw fun v' w' h2 h3 _ h5 => h v' w' (by
      rcases h5 with h | h
      · exact .inl h
      · exact .inr ⟨_, h, M.size⟩) (M.longer i hi hB h3 h2 (by
      rcases h5 with h | h
      · exact .inl h
      · exact .inr ⟨_, h, Nat.le_refl _⟩))
end

theorem bsl_uC0 (w : World) : (Instr.buildSlice 41 0 [].toArray).run Tryz.prog w = .ok (.slice (some ⟨w.heap.size, 0, none⟩) 0 0) (w.alloc (.cells #[] 5)) := by kernel_rfl
theorem bsl_u81 (x : Int) (w : World) : (Instr.buildSlice 41 1 #[(0, .int .u8 x)]).run Tryz.prog w = .ok (.slice (some ⟨w.heap.size, 0, none⟩) 1 1) (w.alloc (.cells #[.int .u8 x] 5)) := by kernel_rfl

theorem eql_nil8 (a : Option Addr) (l c : Nat) (w : World) : (binOp .eql 41 (.slice a l c) (.slice none 0 0)).run Tryz.prog w = .ok (.bool a.isNone) w := by
  simp [binOp, run_equal_slice_nil w 41 5 a l c und_sl8b]
/-- A list in new memory is handed back. -/
def NewB (xs : List Nat) (w : World) (e : Ending) (w' : World) : Prop := ∃ v, e = .returned v ∧ Mm no w w' [.row w.heap.size v xs.length (u8s xs) 5 1]

set_option maxRecDepth 100000 in
set_option maxHeartbeats 1000000 in
theorem clone_any (xs : List Nat) (hl : xs.length ≤ 100000) (B : Nat) (v : Value) (w : World) (h : w.ownsRow B 5 1 v xs.length (u8s xs)) : Calls Tryz.prog 97 #[v] w (NewB xs w) := by
  have M := Mm.start no w
  rcases h.2 with ⟨rfl, h0⟩ | ⟨g, cap, cur, rfl, hg, _⟩
  · have hx : xs = [] := List.eq_nil_of_length_eq_zero h0
    subst hx
    clear h
    have he := eql_nil8 none 0 0
    go_enter Tryz.func97, Tryz.ntmps97
    go_wp2
    go_ret
    exact ⟨_, rfl, M.nilRow w.heap.size 5 1⟩
  · have M9 := M.add (x := .row B (.slice (some ⟨g, 0, none⟩) xs.length cap) xs.length (u8s xs) 5 1) h fun _ h => by cases h
    clear M
    have M := M9
    clear M9 h
    have he := eql_nil8 (some ⟨g, 0, none⟩) xs.length cap
    have hl2 : 0 + xs.length ≤ maxLen := by simp only [maxLen]; omega
    go_enter Tryz.func97, Tryz.ntmps97
    go_wp2_with (first | ((with_reducible apply wpM_bsl' M 41 0 5 ([]) (#[])); rfl; rfl; rfl; exact bsl_uC0; clear M; (try clear C); intro b w9 h_b M; have C := M.ruleAll; simp only [Go.Proofs.YtocejggobgfccaaGreatDoor.ruleAll] at C) | ((have M9 := M.asRow 0 rfl w.heap.size 0 1 h_b rfl (by decide)); (simp only [List.set_cons_zero] at M9); clear M; (try clear C); (have M := M9); (clear M9); ((with_reducible apply wpM_appr M 41 0 1 (w.heap.size) (.slice (some ⟨b, 0, none⟩) 0 0) (0) ([]) 5 1 (B) (some ⟨g, 0, none⟩) (cap) (xs.length) (u8s xs)); rfl; rfl; rfl; rfl; rfl; rfl; (first | exact .inl (Nat.le_refl _) | exact .inl (by assumption) | exact .inr (by assumption) | exact .inr HDv.out); (first | exact M.size | (have hq := M.size; omega)); exact und_sl8b; exact inf_el8b; rfl; exact u8s_one xs; exact hl2; omega; clear M; (try clear C); intro v1 w9 far_v1 M; simp only [List.set_cons_zero, List.set_cons_succ, entBlk, entT, List.getElem?_cons_zero, List.getElem?_cons_succ] at M; obtain ⟨pp_v1, cap_v1, rfl⟩ := own_form (M.row 0 rfl); have C := M.ruleAll; simp only [Go.Proofs.YtocejggobgfccaaGreatDoor.ruleAll] at C)))
    go_ret
    exact ⟨_, rfl, by
      have M9 := M.sub [0] (by decide)
      simp only [Nat.zero_add, List.nil_append, List.filterMap_cons, List.filterMap_nil, List.getElem?_cons_zero] at M9
      exact M9⟩
end Go.Proofs.YtocejggobgfccaaGreatDoor

/- A drawn region, each operation under an act of its own that holds what the operation reads. -/
namespace Go.Proofs.YtocejggobgfccaaGreatDoor
set_option linter.unusedSimpArgs false
set_option linter.unusedVariables false
open Go Go.RowKit

def updD (D : Nat → Bool) (i : Nat) : Nat → Bool := fun j => if j = i then true else D j
def updG (g : Nat → Value) (i : Nat) (u : Value) : Nat → Value := fun j => if j = i then u else g j
/-- What a place holds: what the operation that writes it has given, or what was there. -/
def readV (l : List Oper) (a : Act) (g : Nat → Value) (t : Nat) : Value := match l.findIdx? (fun o => o.dst == some t) with | some j => g j | none => a.tmps.getD t undef
theorem readV_full {l : List Oper} {a0 : Act} (hB : freeB l.toArray a0.tmps.size = true) (g : Nat → Value) (t : Nat) : (fullAct l 0 a0 g).tmps.getD t undef = readV l a0 g t := by
  unfold readV
  split
  · rename_i j hj
    obtain ⟨hlt, h1, _⟩ := List.findIdx?_eq_some_iff_getElem.1 hj
    have hd : l[j].dst = some t := by simpa using h1
    have hf := freeB_spec hB (show l.toArray[j]? = some l[j] by simp [hlt])
    rw [full_new l 0 a0 g t j l[j] (List.getElem?_eq_getElem hlt) hd (hf.lt t hd) fun j' o' h' hn => hf.own t hd j' o' (by simpa using h') hn, Nat.zero_add]
  · rename_i hn
    rw [List.findIdx?_eq_none_iff] at hn
    exact full_old l 0 a0 g t fun o ho hd => by
      have := hn o ho
      simp [hd] at this
/-- THE RULE, each operation under an act of one's own that holds what the operation reads. -/
theorem wp_region_own {P : Program} {id : Nat} {Q : Exit → Act → World → Prop} {a0 : Act} {w : World} {l : List Oper} (S : (Nat → Bool) → (Nat → Value) → World → Prop) (hm : P.follows .mixedOrders = true) (hB : freeB l.toArray a0.tmps.size = true)
    (g0 : Nat → Value) (hS : S (fun _ => false) g0 w.drew)
    (hstep : ∀ i o, l[i]? = some o → ∀ D g w, D i = false → (∀ e ∈ o.after, Region.binds .any e = true → D e.on = true) → S D g w →
      ∃ A : Act, (∀ t ∈ o.looksAt l.toArray, A.tmps.getD t undef = readV l a0 g t) ∧ yield P o A w fun u w' => S (updD D i) (updG g i u) w')
    (hQ : ∀ D g w, (∀ i, i < l.length → D i = true) → S D g w → Q .normal (fullAct l 0 a0 g) w) : (Code.region id l.toArray true).wp P Q a0 w := by
  refine wp_region_free S hm hB g0 hS (fun i o hi D g w hi0 hpre hS => ?_) hQ
  obtain ⟨A, hA, hy⟩ := hstep i o hi D g w hi0 hpre hS
  have hsel : ∀ cs b, o.op ≠ .select cs b := fun cs b => by
    simp only [freeB, Bool.and_eq_true] at hB
    exact Region.noSelect_spec hB.1 i o cs b (by simpa using hi)
  have he : execOp (fullAct l 0 a0 g).eval o = execOp A.eval o := execOp_congr o hsel fun x hx => by
    cases x with
    | tmp t =>
      have ht : t ∈ o.looksAt l.toArray := List.mem_append_left _ (List.mem_filterMap.2 ⟨.tmp t, by simpa using hx, rfl⟩)
      show (fullAct l 0 a0 g).tmps.getD t undef = A.tmps.getD t undef
      rw [hA t ht, readV_full hB]
    | _ => rfl
  unfold yield at hy ⊢
  rw [he]; exact hy

theorem updD_at (D : Nat → Bool) (i : Nat) : updD D i i = true := if_pos rfl
theorem updD_ne {D : Nat → Bool} {i j : Nat} (h : j ≠ i) : updD D i j = D j := if_neg h
theorem updG_at (g : Nat → Value) (i : Nat) (u : Value) : updG g i u i = u := if_pos rfl
theorem updG_ne {g : Nat → Value} {i j : Nat} {u : Value} (h : j ≠ i) : updG g i u j = g j := if_neg h
end Go.Proofs.YtocejggobgfccaaGreatDoor

/- A drawn region whose operations make new memory and hand on values, in any order: what is known of each operation that has been done. -/
namespace Go.Proofs.YtocejggobgfccaaGreatDoor
set_option linter.unusedSimpArgs false
set_option linter.unusedVariables false
open Go Go.RowKit

def updE (E : Nat → List Ent) (i : Nat) (u : List Ent) : Nat → List Ent := fun j => if j = i then u else E j
theorem updE_at (E : Nat → List Ent) (i : Nat) (u : List Ent) : updE E i u i = u := if_pos rfl
theorem updE_ne {E : Nat → List Ent} {i j : Nat} {u : List Ent} (h : j ≠ i) : updE E i u j = E j := if_neg h
theorem flat_upd {E : Nat → List Ent} {i : Nat} {Ei : List Ent} : ∀ {l : List Nat}, l.Nodup → i ∈ l → E i = [] → (l.flatMap (updE E i Ei)).Perm (Ei ++ l.flatMap E)
  | [], _, h, _ => by cases h
  | a :: l, hn, hm, he => by
    simp only [List.flatMap_cons]
    by_cases ha : a = i
    · subst ha
      rw [updE_at, he, List.nil_append]
      have : (l.flatMap (updE E a Ei)) = l.flatMap E := by
        have hna := (List.nodup_cons.1 hn).1
        clear hm hn
        induction l with
        | nil => rfl
        | cons b l ih =>
          simp only [List.flatMap_cons]
          rw [updE_ne (fun e => hna (by rw [e]; exact List.mem_cons_self ..)), ih fun h => hna (List.mem_cons_of_mem _ h)]
      rw [this]
    · rw [updE_ne ha]
      have hm' : i ∈ l := by
        rcases List.mem_cons.1 hm with h | h
        · exact absurd h.symm ha
        · exact h
      have ih := flat_upd (E := E) (Ei := Ei) (List.nodup_cons.1 hn).2 hm' he
      have h1 : (E a ++ l.flatMap (updE E i Ei)).Perm (E a ++ (Ei ++ l.flatMap E)) := List.Perm.append_left _ ih
      have h2 : (E a ++ (Ei ++ l.flatMap E)).Perm (Ei ++ (E a ++ l.flatMap E)) := by
        rw [← List.append_assoc, ← List.append_assoc]
        exact List.Perm.append_right _ List.perm_append_comm
      exact h1.trans h2
theorem pull_list : ∀ {K l : List Nat}, K.Nodup → (∀ k ∈ K, k ∈ l) → ∃ X, l.Perm (K ++ X)
  | [], l, _, _ => ⟨l, List.Perm.refl _⟩
  | k :: K, l, hn, hm => by
    obtain ⟨X, hX⟩ := pull_list (K := K) (l := l) (List.nodup_cons.1 hn).2 fun j hj => hm j (List.mem_cons_of_mem _ hj)
    have hk : k ∈ K ++ X := hX.mem_iff.1 (hm k (List.mem_cons_self ..))
    have hk2 : k ∈ X := by
      rcases List.mem_append.1 hk with h | h
      · exact absurd h (List.nodup_cons.1 hn).1
      · exact h
    refine ⟨X.erase k, hX.trans ?_⟩
    have h1 : (K ++ X).Perm (K ++ (k :: X.erase k)) := List.Perm.append_left _ (List.perm_cons_erase hk2)
    exact h1.trans List.perm_middle
theorem flat_perm {E : Nat → List Ent} {l l' : List Nat} (h : l.Perm l') : (l.flatMap E).Perm (l'.flatMap E) := by
  induction h with
  | nil => exact .refl _
  | cons a _ ih => simp only [List.flatMap_cons]; exact List.Perm.append_left _ ih
  | swap a b l =>
    simp only [List.flatMap_cons]
    rw [← List.append_assoc, ← List.append_assoc]
    exact List.Perm.append_right _ List.perm_append_comm
  | trans _ _ h1 h2 => exact h1.trans h2

/-- n operations; post: what is known of one that has been done; R: those that must have been done ahead of it; W: those that write to what it has made. -/
structure GrS (n : Nat) (post : Nat → (Nat → Bool) → (Nat → Value) → List Ent → Prop) (R : Nat → List Nat) (w0 : World) (L : List Ent) (D : Nat → Bool) (g : Nat → Value) (w : World) : Prop where
  anc : ∀ i, D i = true → ∀ j ∈ R i, D j = true
  top : ∀ i, D i = true → i < n
  mem : ∃ E : Nat → List Ent, (∀ i, D i = true → post i D g (E i)) ∧ (∀ i, D i = false → E i = []) ∧ Mm no w0 w ((List.range n).flatMap E ++ L)
/-- What is known of an operation stays when another one is done, if it neither reads it nor is written by it. -/
def Stable (post : Nat → (Nat → Bool) → (Nat → Value) → List Ent → Prop) (R W : Nat → List Nat) : Prop := ∀ i k D g u E, k ≠ i → k ∉ R i → k ∉ W i → post i D g E → post i (updD D k) (updG g k u) E

section
variable {n : Nat} {post : Nat → (Nat → Bool) → (Nat → Value) → List Ent → Prop} {R W : Nat → List Nat} {w0 w w' : World} {L : List Ent} {D : Nat → Bool} {g : Nat → Value}
theorem GrS.start (M : Mm no w0 w L) (g : Nat → Value) : GrS n post R w0 L (fun _ => false) g w.drew :=
  ⟨(fun _ h => by cases h), (fun _ h => by cases h), fun _ => [], (fun _ h => by cases h), (fun _ _ => rfl), by
    have : (List.range n).flatMap (fun _ => ([] : List Ent)) = [] := by induction (List.range n) <;> simp_all
    rw [this]; exact M.drew⟩
theorem GrS.base (S : GrS n post R w0 L D g w) : Mm no w0 w L := by
  obtain ⟨E, _, _, M⟩ := S.mem
  exact Mm.suffix M
/-- What is known of some of those that have been done. -/
theorem GrS.get (S : GrS n post R w0 L D g w) (K : List Nat) (hK : K.Nodup) (h : ∀ k ∈ K, D k = true) : ∃ E : Nat → List Ent, (∀ k ∈ K, post k D g (E k)) ∧ Mm no w0 w (K.flatMap E ++ L) := by
  obtain ⟨E, h1, _, M⟩ := S.mem
  refine ⟨E, fun k hk => h1 k (h k hk), ?_⟩
  obtain ⟨X, hX⟩ := pull_list hK fun k hk => List.mem_range.2 (S.top k (h k hk))
  have hp := flat_perm (E := E) hX
  rw [List.flatMap_append] at hp
  have h2 : ((List.range n).flatMap E ++ L).Perm (X.flatMap E ++ (K.flatMap E ++ L)) := by
    refine (List.Perm.append_right L hp).trans ?_
    rw [← List.append_assoc]
    exact List.Perm.append_right L List.perm_append_comm
  exact Mm.suffix (M.perm h2)
theorem updD_anc (S : GrS n post R w0 L D g w) {i : Nat} (hR : ∀ j ∈ R i, D j = true) : ∀ k, updD D i k = true → ∀ j ∈ R k, updD D i j = true := fun k hk j hj => by
  by_cases e : j = i
  · subst e; exact updD_at ..
  · rw [updD_ne e]
    by_cases e2 : k = i
    · subst e2; exact hR j hj
    · rw [updD_ne e2] at hk; exact S.anc k hk j hj
theorem updD_top (S : GrS n post R w0 L D g w) {i : Nat} (hi : i < n) : ∀ k, updD D i k = true → k < n := fun k hk => by
  by_cases e : k = i
  · subst e; exact hi
  · rw [updD_ne e] at hk; exact S.top k hk
/-- An operation that makes new memory. -/
theorem GrS.add (S : GrS n post R w0 L D g w) (hst : Stable post R W) {i : Nat} {u : Value} {Ei : List Ent} (hi : i < n) (h0 : D i = false) (hR : ∀ j ∈ R i, D j = true) (hW : ∀ j, D j = true → i ∉ W j) (M' : Mm no w w' Ei) (hn : ∀ x ∈ Ei, ∀ b, x.place b → w.heap.size ≤ b) (hp : post i (updD D i) (updG g i u) Ei) :
    GrS n post R w0 L (updD D i) (updG g i u) w' := by
  obtain ⟨E, h1, h2, M⟩ := S.mem
  refine ⟨updD_anc S hR, updD_top S hi, updE E i Ei, fun k hk => ?_, fun k hk => ?_, ?_⟩
  · by_cases e : k = i
    · subst e; rw [updE_at]; exact hp
    · rw [updE_ne e]
      rw [updD_ne e] at hk
      exact hst k i D g u (E k) (fun h => e h.symm) (fun h => by have := S.anc k hk i h; rw [h0] at this; cases this) (hW k hk) (h1 k hk)
  · by_cases e : k = i
    · subst e; rw [updD_at] at hk; cases hk
    · rw [updE_ne e]; rw [updD_ne e] at hk; exact h2 k hk
  · refine (M.join M' hn).perm ?_
    rw [← List.append_assoc]
    exact (List.Perm.append_right L (flat_upd List.nodup_range (List.mem_range.2 hi) (h2 i h0))).symm
/-- An operation that makes nothing that is known. -/
theorem GrS.val (S : GrS n post R w0 L D g w) (hst : Stable post R W) {i : Nat} {u : Value} (hi : i < n) (h0 : D i = false) (hR : ∀ j ∈ R i, D j = true) (hW : ∀ j, D j = true → i ∉ W j) (hb : Below w.heap.size w w') (hp : post i (updD D i) (updG g i u) []) : GrS n post R w0 L (updD D i) (updG g i u) w' :=
  S.add hst hi h0 hR hW (Mm.after (Mm.start no w) (Kept.of_below hb no) fun _ _ h => h) (fun _ h => by cases h) hp
/-- All has been done. -/
theorem GrS.done (S : GrS n post R w0 L D g w) (h : ∀ i, i < n → D i = true) : ∃ E : Nat → List Ent, (∀ k, k < n → post k D g (E k)) ∧ Mm no w0 w ((List.range n).flatMap E ++ L) := by
  obtain ⟨E, h1, _, M⟩ := S.mem
  exact ⟨E, fun k hk => h1 k (h k hk), M⟩
/-- An operation i that writes to what t has made. -/
theorem GrS.write (S : GrS n post R w0 L D g w) (hst : Stable post R W) {i t : Nat} (hi : i < n) (h0 : D i = false) (hR : ∀ j ∈ R i, D j = true) (hW : ∀ j, D j = true → j ≠ t → i ∉ W j) (ht : D t = true) :
    ∃ (E X : List Ent), post t D g E ∧ Mm no w0 w (E ++ X) ∧ ∀ u w' Et, Mm no w0 w' (Et ++ X) → post t (updD D i) (updG g i u) Et → post i (updD D i) (updG g i u) [] → GrS n post R w0 L (updD D i) (updG g i u) w' := by
  obtain ⟨E, h1, h2, M⟩ := S.mem
  have htn := S.top t ht
  have hti : t ≠ i := fun e => by rw [e, h0] at ht; cases ht
  obtain ⟨X, hX⟩ := pull_list (K := [t]) (l := List.range n) (by simp) fun k hk => by simp at hk; subst hk; exact List.mem_range.2 htn
  have hnd : (t :: X).Nodup := (hX.nodup_iff).1 List.nodup_range
  have hXt : t ∉ X := (List.nodup_cons.1 hnd).1
  refine ⟨E t, X.flatMap E ++ L, h1 t ht, ?_, fun u w' Et M' hp1 hp2 => ?_⟩
  · have hp := flat_perm (E := E) hX
    have h3 : ((List.range n).flatMap E ++ L).Perm (E t ++ (X.flatMap E ++ L)) := by
      rw [← List.append_assoc]
      exact List.Perm.append_right L (by simpa [List.flatMap_cons] using hp)
    exact M.perm h3
  · refine ⟨updD_anc S hR, updD_top S hi, updE E t Et, fun k hk => ?_, fun k hk => ?_, ?_⟩
    · by_cases e : k = t
      · subst e; rw [updE_at]; exact hp1
      · rw [updE_ne e]
        by_cases e2 : k = i
        · subst e2; rw [h2 k h0]; exact hp2
        · rw [updD_ne e2] at hk
          exact hst k i D g u (E k) (fun h => e2 h.symm) (fun h => by have := S.anc k hk i h; rw [h0] at this; cases this) (hW k hk e) (h1 k hk)
    · by_cases e : k = t
      · subst e; rw [updD_ne hti, ht] at hk; cases hk
      · rw [updE_ne e]
        by_cases e2 : k = i
        · subst e2; exact h2 k h0
        · rw [updD_ne e2] at hk; exact h2 k hk
    · have hp := flat_perm (E := updE E t Et) hX
      have e : (X.flatMap (updE E t Et)) = X.flatMap E := by
        clear hp hX hnd M M'
        induction X with
        | nil => rfl
        | cons b X ih =>
          simp only [List.flatMap_cons]
          rw [updE_ne (fun e => hXt (by rw [e]; exact List.mem_cons_self ..)), ih fun h => hXt (List.mem_cons_of_mem _ h)]
      have hp2 : ((List.range n).flatMap (updE E t Et)).Perm (Et ++ X.flatMap E) := by
        refine hp.trans ?_
        rw [show [t] ++ X = t :: X from rfl, List.flatMap_cons, updE_at, e]
      refine M'.perm ?_
      rw [← List.append_assoc]
      exact (List.Perm.append_right L hp2).symm
end
end Go.Proofs.YtocejggobgfccaaGreatDoor

/- A drawn region in which some operations write to what was there, or to what others have made. -/
namespace Go.Proofs.YtocejggobgfccaaGreatDoor
set_option linter.unusedSimpArgs false
set_option linter.unusedVariables false
open Go Go.RowKit

/-- The place p stands for what was there: it counts as done. -/
def psD (p : Nat) (D : Nat → Bool) : Nat → Bool := fun j => (j == p) || D j
theorem psD_of {p : Nat} {D : Nat → Bool} {j : Nat} (h : D j = true) : psD p D j = true := by simp [psD, h]
theorem psD_at (p : Nat) (D : Nat → Bool) : psD p D p = true := by simp [psD]
theorem psD_ne {p : Nat} {D : Nat → Bool} {j : Nat} (h : j ≠ p) : psD p D j = D j := by simp [psD, h]
theorem psD_upd {p : Nat} {D : Nat → Bool} {i : Nat} : psD p (updD D i) = updD (psD p D) i := by
  funext j
  unfold psD updD
  by_cases h : j = i
  · simp [h]
  · simp [h]
section
variable {n : Nat} {post : Nat → (Nat → Bool) → (Nat → Value) → List Ent → Prop} {R W : Nat → List Nat} {w0 w w' : World} {L : List Ent} {D : Nat → Bool} {g : Nat → Value}
theorem GrS.start2 {p : Nat} {E0 : List Ent} (hp : p < n) (hR : R p = []) (M : Mm no w0 w (E0 ++ L)) (g : Nat → Value) (h : post p (psD p fun _ => false) g E0) : GrS n post R w0 L (psD p fun _ => false) g w.drew := by
  have hd : ∀ i, psD p (fun _ => false) i = true → i = p := fun i h => by simpa [psD] using h
  refine ⟨fun i hi j hj => ?_, fun i hi => by rw [hd i hi]; exact hp, updE (fun _ => []) p E0, fun i hi => ?_, fun i hi => ?_, ?_⟩
  · rw [hd i hi, hR] at hj; cases hj
  · obtain rfl := hd i hi
    rw [updE_at]; exact h
  · by_cases e : i = p
    · subst e; rw [psD_at] at hi; cases hi
    · rw [updE_ne e]
  · have h0 : (List.range n).flatMap (fun _ => ([] : List Ent)) = [] := by induction (List.range n) <;> simp_all
    have hp2 := flat_upd (E := fun _ => []) (Ei := E0) (List.nodup_range (n := n)) (List.mem_range.2 hp) rfl
    rw [h0, List.append_nil] at hp2
    exact (M.perm (List.Perm.append_right L hp2.symm)).drew
/-- An operation i that writes to what t has made and reads what those of K have made. -/
theorem GrS.writeK (S : GrS n post R w0 L D g w) (hst : Stable post R W) {i t : Nat} (hi : i < n) (h0 : D i = false) (hR : ∀ j ∈ R i, D j = true) (hW : ∀ j, D j = true → j ≠ t → i ∉ W j) (ht : D t = true) (K : List Nat) (hK : (t :: K).Nodup) (hKD : ∀ k ∈ K, D k = true) :
    ∃ (E : Nat → List Ent) (X : List Ent), (∀ k ∈ t :: K, post k D g (E k)) ∧ Mm no w0 w (E t ++ (K.flatMap E ++ (L ++ X))) ∧
      ∀ u w' Et, Mm no w0 w' (Et ++ (K.flatMap E ++ (L ++ X))) → post t (updD D i) (updG g i u) Et → post i (updD D i) (updG g i u) [] → GrS n post R w0 L (updD D i) (updG g i u) w' := by
  obtain ⟨E, h1, h2, M⟩ := S.mem
  have htn := S.top t ht
  have hti : t ≠ i := fun e => by rw [e, h0] at ht; cases ht
  have hall : ∀ k ∈ t :: K, D k = true := fun k hk => by
    rcases List.mem_cons.1 hk with rfl | hk
    · exact ht
    · exact hKD k hk
  obtain ⟨Y, hY⟩ := pull_list (K := t :: K) (l := List.range n) hK fun k hk => List.mem_range.2 (S.top k (hall k hk))
  have hnd : ((t :: K) ++ Y).Nodup := (hY.nodup_iff).1 List.nodup_range
  have hrest : ∀ E' : Nat → List Ent, ((List.range n).flatMap E').Perm (E' t ++ (K.flatMap E' ++ Y.flatMap E')) := fun E' => by
    have := flat_perm (E := E') hY
    rw [List.flatMap_append, List.flatMap_cons, List.append_assoc] at this
    exact this
  have hswap : ∀ A B : List Ent, (A ++ (K.flatMap E ++ B) ++ L).Perm (A ++ (K.flatMap E ++ (L ++ B))) := fun A B => by
    rw [List.append_assoc, List.append_assoc]
    exact List.Perm.append_left _ (List.Perm.append_left _ List.perm_append_comm)
  refine ⟨E, Y.flatMap E, fun k hk => h1 k (hall k hk), M.perm ((List.Perm.append_right L (hrest E)).trans (hswap _ _)), fun u w' Et M' hp1 hp2 => ?_⟩
  have htK : t ∉ K ++ Y := (List.nodup_cons.1 hnd).1
  have same : ∀ l : List Nat, t ∉ l → l.flatMap (updE E t Et) = l.flatMap E := fun l hl => by
    induction l with
    | nil => rfl
    | cons b l ih =>
      simp only [List.flatMap_cons]
      rw [updE_ne (fun e => hl (by rw [e]; exact List.mem_cons_self ..)), ih fun h => hl (List.mem_cons_of_mem _ h)]
  refine ⟨updD_anc S hR, updD_top S hi, updE E t Et, fun k hk => ?_, fun k hk => ?_, ?_⟩
  · by_cases e : k = t
    · subst e; rw [updE_at]; exact hp1
    · rw [updE_ne e]
      by_cases e2 : k = i
      · subst e2; rw [h2 k h0]; exact hp2
      · rw [updD_ne e2] at hk
        exact hst k i D g u (E k) (fun h => e2 h.symm) (fun h => by have := S.anc k hk i h; rw [h0] at this; cases this) (hW k hk e) (h1 k hk)
  · by_cases e : k = t
    · subst e; rw [updD_ne hti, ht] at hk; cases hk
    · rw [updE_ne e]
      by_cases e2 : k = i
      · subst e2; exact h2 k h0
      · rw [updD_ne e2] at hk; exact h2 k hk
  · have h3 := hrest (updE E t Et)
    rw [updE_at, same K fun h => htK (List.mem_append_left _ h), same Y fun h => htK (List.mem_append_right _ h)] at h3
    exact M'.perm ((List.Perm.append_right L h3).trans (hswap _ _)).symm
end
end Go.Proofs.YtocejggobgfccaaGreatDoor

/- Rows that calls hand back, and rows that are read. -/
namespace Go.Proofs.YtocejggobgfccaaGreatDoor
set_option linter.unusedSimpArgs false
set_option linter.unusedVariables false
open Go Go.RowKit

theorem ownsRow_weak {w : World} {B B' e size : Nat} {v : Value} {n : Nat} {xs : List Value} (h : w.ownsRow B e size v n xs) (hB : B' ≤ B) : w.ownsRow B' e size v n xs := by
  refine ⟨h.1, ?_⟩
  rcases h.2 with h | ⟨g, cap, cur, h1, h2, h3⟩
  · exact .inl h
  · exact .inr ⟨g, cap, cur, h1, by omega, h3⟩
theorem place_row {w : World} {B : Nat} {v : Value} {n : Nat} {xs : List Value} {e size : Nat} (h : w.ownsRow B e size v n xs) : ∀ b, (Ent.row B v n xs e size).place b → B ≤ b := fun b hb => (World.ownsRow.lt h b hb).1
/-- A call hands back a row in new memory. -/
theorem Mm.joinRow {D : Nat → Prop} {w0 w w' : World} {L : List Ent} {v : Value} {n : Nat} {xs : List Value} {e size : Nat} (M : Mm D w0 w L) (M' : Mm no w w' [.row w.heap.size v n xs e size]) : Mm D w0 w' (.row w0.heap.size v n xs e size :: L) := by
  have h := M'.row 0 rfl
  exact M.gain M'.below (x := .row w0.heap.size v n xs e size) (ownsRow_weak h M.size) fun b hb => place_row h b hb
/-- A call hands back a row in new memory and writes to a block that is known. -/
theorem Mm.callw {D : Nat → Prop} {w0 w w' : World} {L : List Ent} {v : Value} {n : Nat} {xs : List Value} {e size b t : Nat} {cs cs' : Array Value} (M : Mm D w0 w L) (i : Nat) (hi : L[i]? = some (.box b cs t)) (hb : w0.heap.size ≤ b ∨ D b)
    (M' : Mm (fun k => k = b) w w' [.row w.heap.size v n xs e size, .box b cs' t]) : Mm D w0 w' (.row w0.heap.size v n xs e size :: L.set i (.box b cs' t)) := by
  have h := M'.row 0 rfl
  refine (M.wrote i hi hb M'.kept.grown (M'.box 1 rfl)).add (x := .row w0.heap.size v n xs e size) (ownsRow_weak h M.size) fun y hy c h1 h2 => ?_
  have hlo := place_row h c h1
  have hlt : c < w.heap.size := by
    rcases List.mem_or_eq_of_mem_set hy with h3 | h3
    · exact Ent.lt (M.mem h3) h2
    · subst h3
      cases h2
      exact (M.box i hi).lt
  omega
/-- A row that is not empty is read from now on. -/
theorem Mm.rowRd {D : Nat → Prop} {w0 w : World} {L : List Ent} (M : Mm D w0 w L) (i : Nat) {B n e : Nat} {v : Value} {xs : List Value} (hi : L[i]? = some (.row B v n xs e 1)) (hn : 0 < n) (f : Nat → Value) (hf : ∀ j, j < n → xs.getD j undef = f j) :
    ∃ g cap, v = .slice (some ⟨g, 0, none⟩) n cap ∧ Mm D w0 w (L.set i (.rd g n f)) := by
  obtain ⟨g, cap, rfl, _, ho, hr⟩ := own_rds (M.row i hi) (by omega)
  rw [Nat.mul_one] at hr
  refine ⟨g, cap, rfl, M.set i hi (.refl no w) (fun _ h => h.elim) (fun _ _ h => h.elim) (y := .rd g n f) (show rds w g n f from ⟨hr.lt, fun j hj => by rw [hr.at_ j hj, hf j hj]⟩) fun k h => .inl ?_⟩
  cases h; exact ho
def i64F (l : List Nat) : Nat → Value := fun j => .int .i64 (l.getD j 0 : Nat)
theorem i64F_at {l : List Nat} {i x : Nat} (h : l[i]? = some x) : i64F l i = .int .i64 (x : Int) := by unfold i64F; rw [List.getD_eq_getElem?_getD, h]; rfl
end Go.Proofs.YtocejggobgfccaaGreatDoor

/- The reader of terms, for the program: contracts. -/
namespace Go.Proofs.YtocejggobgfccaaGreatDoor
set_option linter.unusedSimpArgs false
set_option linter.unusedVariables false
open Go Go.RowKit

theorem flat_u1 (x : Int) : flat #[.int .u8 x] := fun u hu => by
  have : u = .int .u8 x := by simpa using hu
  subst this; rfl
/-- A term, if parts are read by p. -/
def termOf (l : List Nat) (p : Nat → List Nat × Nat) (k : Nat) : List Nat × Nat :=
  if (p k).2 = l.length ∨ isOpB (l.getD (p k).2 0) = false then p k else ((p k).1 ++ (p ((p k).2 + 1)).1 ++ [l.getD (p k).2 0], (p ((p k).2 + 1)).2)
def partK (l : List Nat) : Nat → Nat → List Nat × Nat
  | 0, k => ([l.getD k 0], nxK l k)
  | n + 1, k =>
    if l.getD k 0 = 40 then
      (if l.getD (termOf l (partK l n) (k + 1)).2 0 = 41 then ((termOf l (partK l n) (k + 1)).1, nxK l (termOf l (partK l n) (k + 1)).2) else ([], nxK l (termOf l (partK l n) (k + 1)).2))
    else ([l.getD k 0], nxK l k)
/-- What is read is not too long, and the reader goes on. -/
structure RdB (l : List Nat) (k : Nat) (r : List Nat × Nat) : Prop where
  le : r.2 ≤ l.length
  ge : k ≤ r.2
  len : r.1.length ≤ 2 * (r.2 - k) + 1
theorem nxK_b (l : List Nat) {k : Nat} (hk : k ≤ l.length) : k ≤ nxK l k ∧ nxK l k ≤ l.length := by unfold nxK; split <;> omega
theorem getD_ltz {l : List Nat} {k : Nat} (h : l.getD k 0 ≠ 0) : k < l.length := by
  by_cases hk : k < l.length
  · exact hk
  · exact absurd (by rw [List.getD_eq_getElem?_getD, List.getElem?_eq_none (by omega)]; rfl) h
theorem opB_lt {l : List Nat} {k : Nat} (h : isOpB (l.getD k 0) = true) : k < l.length := getD_ltz fun e => by rw [e] at h; cases h
theorem termOf_b {l : List Nat} {p : Nat → List Nat × Nat} (n : Nat) (hp : ∀ k, k ≤ l.length → l.length - k ≤ n → RdB l k (p k)) {k : Nat} (hk : k ≤ l.length) (hn : l.length - k ≤ n) : RdB l k (termOf l p k) := by
  unfold termOf
  have h1 := hp k hk hn
  by_cases h : (p k).2 = l.length ∨ isOpB (l.getD (p k).2 0) = false
  · rw [if_pos h]; exact h1
  · rw [if_neg h]
    have h2 := h1.le
    have h3 := h1.ge
    have h4 := hp ((p k).2 + 1) (by omega) (by omega)
    have := h1.len
    have := h4.len
    have := h4.ge
    exact ⟨h4.le, by omega, by simp only [List.length_append, List.length_singleton]; omega⟩
theorem partK_b (l : List Nat) : ∀ (n k : Nat), k ≤ l.length → l.length - k ≤ n → RdB l k (partK l n k)
  | 0, k, hk, _ => ⟨(nxK_b l hk).2, (nxK_b l hk).1, by simp [partK]⟩
  | n + 1, k, hk, hn => by
    have hx := nxK_b l hk
    unfold partK
    by_cases h : l.getD k 0 = 40
    · rw [if_pos h]
      have hlt : k < l.length := getD_ltz (by omega)
      have ht := termOf_b n (fun k => partK_b l n k) (k := k + 1) (by omega) (by omega)
      have := ht.ge
      have := ht.len
      have hy := nxK_b l ht.le
      split
      · exact ⟨hy.2, by omega, by simp only; omega⟩
      · exact ⟨hy.2, by omega, by simp⟩
    · rw [if_neg h]; exact ⟨hx.2, hx.1, by simp⟩

/-- What a reader hands back. -/
def RdPost (l : List Nat) (r : List Nat × Nat) (bw : Nat) (w : World) (e : Ending) (w' : World) : Prop :=
  ∃ v, e = .returned v ∧ Mm (fun b => b = bw) w w' [.row w.heap.size v r.1.length (u8s r.1) 5 1, .box bw (wdA l r.2) 117]
def Rdr (f : Nat) (l : List Nat) (bw n : Nat) (p : Nat → List Nat × Nat) : Prop :=
  ∀ k w, k ≤ l.length → l.length - k ≤ n → blk w bw (wdA l k) 117 → Calls Tryz.prog f #[.pointer (some ⟨bw, 0, none⟩)] w (RdPost l (p k) bw w)

set_option maxRecDepth 100000 in
set_option maxHeartbeats 2000000 in
theorem term_of (l : List Nat) (hl : l.length ≤ 1000) (hb : Byts l) (bw n : Nat) (p : Nat → List Nat × Nat) (hp : Rdr 95 l bw n p) (hB : ∀ k, k ≤ l.length → l.length - k ≤ n → RdB l k (p k)) : Rdr 82 l bw n (termOf l p) := by
  intro k w hk hn h
  have M := ((Mm.start no w).only (fun b => b = bw)).add (x := .box bw (wdA l k) 117) h fun _ h => by cases h
  have hb1 := hB k hk hn
  have H1 := Hid2.mk (fun w1 (h1 : blk w1 bw (wdA l k) 117) => hp k w1 hk hn h1)
  have H2 := Hid2.mk (fun (hlt : (p k).2 < l.length) w1 (h1 : blk w1 bw (wdA l ((p k).2 + 1)) 117) => hp ((p k).2 + 1) w1 (by omega) (by have := hb1.ge; omega) h1)
  have HB2 := Hid2.mk (fun (hlt : (p k).2 < l.length) => hB ((p k).2 + 1) (by omega) (by have := hb1.ge; omega))
  have HT := Hid2.mk (show termOf l p k = if (p k).2 = l.length ∨ isOpB (l.getD (p k).2 0) = false then p k else ((p k).1 ++ (p ((p k).2 + 1)).1 ++ [l.getD (p k).2 0], (p ((p k).2 + 1)).2) from rfl)
  have hle := hb1.le
  have hlen := hb1.len
  generalize termOf l p k = res at HT ⊢
  generalize p ((p k).2 + 1) = r2 at H2 HB2 HT
  generalize p k = r at H1 H2 HB2 HT hle hlen
  obtain ⟨o1, k1⟩ := r
  obtain ⟨o2, k2⟩ := r2
  simp only at H1 H2 HB2 HT hle hlen
  have hsz := str_size l
  have d0 := wdA_0 l k1
  have d1 := wdA_1 l k1
  have hl1 : o1.length ≤ 3000 := by omega
  clear hlen hb1 hp hB h
  have C := M.ruleAll; simp only [Go.Proofs.YtocejggobgfccaaGreatDoor.ruleAll] at C
  go_enter Tryz.func82, Tryz.ntmps82
  go_wp2_with (first | (go_at_call 95; fail))
  refine (H1.out _ (M.box 0 rfl)).mono ?_
  rintro e w1 ⟨v, rfl, M'⟩
  have M9 := M.callw 0 rfl (.inr rfl) M'
  simp only [List.set_cons_zero] at M9
  obtain ⟨pp1, cap1, rfl⟩ := own_form (M9.row 0 rfl)
  clear M; (try clear C)
  have M := M9
  clear M9 M' H1
  have C := M.ruleAll; simp only [Go.Proofs.YtocejggobgfccaaGreatDoor.ruleAll] at C
  by_cases he : k1 = l.length
  · have he' : ((k1 : Int) == (l.length : Int)) = true := by rw [he]; simp
    have HR := Hid2.mk (show res = (o1, k1) from by rw [HT.out, if_pos (.inl he)])
    clear H2 HB2 HT he
    go_wp2
    apply wp_region_mm M 20 (by kernel_rfl) (by kernel_rfl); (simp only [List.take_succ_cons, List.take_zero]; repeat (first | exact wpText_nil | (apply wpText_cons; (intro w2 M; have C := M.ruleAll; simp only [Go.Proofs.YtocejggobgfccaaGreatDoor.ruleAll] at C; go_wp2; exact ⟨rfl, rfl, M⟩); rfl))); (clear M; (try clear C); intro w2 M; simp only [List.drop_succ_cons, List.drop_zero]; have C := M.ruleAll; simp only [Go.Proofs.YtocejggobgfccaaGreatDoor.ruleAll] at C)
    go_wp2
    go_ret
    rw [HR.out]
    exact ⟨_, rfl, M⟩
  · have hlt : k1 < l.length := by omega
    have he' : ((k1 : Int) == (l.length : Int)) = false := by simp; omega
    have hix := ix_str hb k1 hlt
    by_cases ho : isOpB (l.getD k1 0) = false
    · have HR := Hid2.mk (show res = (o1, k1) from by rw [HT.out, if_pos (.inr ho)])
      have HO := fun w1 => isOp_b (l.getD k1 0) false ho w1
      generalize l.getD k1 0 = b at hix HO
      clear H2 HB2 HT he ho
      go_wp2
      apply wp_region_mm M 20 (by kernel_rfl) (by kernel_rfl); (simp only [List.take_succ_cons, List.take_zero]; repeat (first | exact wpText_nil | (apply wpText_cons; (intro w2 M; have C := M.ruleAll; simp only [Go.Proofs.YtocejggobgfccaaGreatDoor.ruleAll] at C; go_wp2; exact ⟨rfl, rfl, M⟩); rfl))); (clear M; (try clear C); intro w2 M; simp only [List.drop_succ_cons, List.drop_zero]; have C := M.ruleAll; simp only [Go.Proofs.YtocejggobgfccaaGreatDoor.ruleAll] at C)
      go_wp2_with (first | (go_at_call 96; ((with_reducible refine (HO _).mono ?_); rintro e w1 ⟨rfl, rfl⟩)))
      go_ret
      rw [HR.out]
      exact ⟨_, rfl, M⟩
    · have HR := Hid2.mk (show res = (o1 ++ o2 ++ [l.getD k1 0], k2) from by rw [HT.out, if_neg (by rintro (h | h); exact he h; exact ho h)])
      have HO := fun w1 => isOp_b (l.getD k1 0) true (by simpa using ho) w1
      have HN := Hid2.mk (fun w1 (h1 : blk w1 bw (wdA l k1) 117) => next_any l hl hb k1 (by omega) bw w1 h1)
      have HNK := Hid2.mk (show nxK l k1 = k1 + 1 from if_pos hlt)
      have H2' := Hid2.mk (H2.out hlt)
      have hb2 := HB2.out hlt
      have hl2 : o2.length ≤ 3000 := by have := hb2.len; have := hb2.le; simp only at *; omega
      generalize l.getD k1 0 = b at hix HO HN HR
      clear H2 HB2 HT he ho hb2
      go_wp2
      apply wp_region_mm M 20 (by kernel_rfl) (by kernel_rfl); (simp only [List.take_succ_cons, List.take_zero]; repeat (first | exact wpText_nil | (apply wpText_cons; (intro w2 M; have C := M.ruleAll; simp only [Go.Proofs.YtocejggobgfccaaGreatDoor.ruleAll] at C; go_wp2; exact ⟨rfl, rfl, M⟩); rfl))); (clear M; (try clear C); intro w2 M; simp only [List.drop_succ_cons, List.drop_zero]; have C := M.ruleAll; simp only [Go.Proofs.YtocejggobgfccaaGreatDoor.ruleAll] at C)
      go_wp2_with (first | (go_at_call 96; ((with_reducible refine (HO _).mono ?_); rintro e w1 ⟨rfl, rfl⟩)) | (go_at_call 83; fail))
      refine (HN.out _ (M.box 1 rfl)).mono ?_
      rintro e w3 ⟨rfl, M'⟩
      have M9 := M.wrote 1 rfl (.inr rfl) M'.kept.grown (M'.box 0 rfl)
      rw [HNK.out] at M9
      simp only [List.set_cons_zero, List.set_cons_succ] at M9
      clear M; (try clear C)
      have M := M9
      clear M9 M' HN hix d0 d1
      have C := M.ruleAll; simp only [Go.Proofs.YtocejggobgfccaaGreatDoor.ruleAll] at C
      go_wp2_with (first | (go_at_call 97; fail))
      refine (clone_any o1 (by omega) _ _ _ (M.row 0 rfl)).mono ?_
      rintro e w4 ⟨v, rfl, M'⟩
      have M9 := M.joinRow M'
      obtain ⟨pp2, cap2, rfl⟩ := own_form (M9.row 0 rfl)
      clear M; (try clear C)
      have M := M9
      clear M9 M'
      have C := M.ruleAll; simp only [Go.Proofs.YtocejggobgfccaaGreatDoor.ruleAll] at C
      go_wp2_with (first | (go_at_call 95; fail))
      refine (H2'.out _ (M.box 2 rfl)).mono ?_
      rintro e w5 ⟨v, rfl, M'⟩
      have M9 := M.callw 2 rfl (.inr rfl) M'
      simp only [List.set_cons_zero, List.set_cons_succ] at M9
      obtain ⟨pp3, cap3, rfl⟩ := own_form (M9.row 0 rfl)
      clear M; (try clear C)
      have M := M9
      clear M9 M' H2'
      have C := M.ruleAll; simp only [Go.Proofs.YtocejggobgfccaaGreatDoor.ruleAll] at C
      have hm1 : o1.length + o2.length ≤ maxLen := by simp only [maxLen]; omega
      go_wp2_with (first | ((with_reducible apply wpM_appr M 41 1 0 (w.heap.size) (.slice pp2 o1.length cap2) (o1.length) (u8s o1) 5 1 (w.heap.size) (pp3) (cap3) (o2.length) (u8s o2)); rfl; rfl; rfl; rfl; rfl; rfl; (first | exact .inl (Nat.le_refl _) | exact .inl (by assumption) | exact .inr (by assumption) | exact .inr HDv.out); (first | exact M.size | (have hq := M.size; omega)); exact und_sl8b; exact inf_el8b; rfl; exact u8s_one o2; exact hm1; omega; clear M; (try clear C); intro v6 w9 far_v6 M; simp only [List.set_cons_zero, List.set_cons_succ, entBlk, entT, List.getElem?_cons_zero, List.getElem?_cons_succ] at M; obtain ⟨pp_v6, cap_v6, rfl⟩ := own_form (M.row 1 rfl); have C := M.ruleAll; simp only [Go.Proofs.YtocejggobgfccaaGreatDoor.ruleAll] at C) | ((with_reducible apply wpM_bsl' M 41 1 5 ([(0, .int .u8 (b : Int))]) (#[.int .u8 (b : Int)])); rfl; rfl; rfl; exact bsl_u81 _; clear M; (try clear C); intro b7 w9 h_b7 M; have C := M.ruleAll; simp only [Go.Proofs.YtocejggobgfccaaGreatDoor.ruleAll] at C) | ((with_reducible apply wpM_app' M 41 2 0 (w.heap.size) (.slice pp_v6 (o1.length + o2.length) cap_v6) (o1.length + o2.length) (u8s o1 ++ u8s o2) 5 1 1); rfl; rfl; rfl; rfl; rfl; rfl; rfl; (first | exact .inl (Nat.le_refl _) | exact .inl (by assumption) | exact .inr (by assumption) | exact .inr HDv.out); (first | exact M.size | (have hq := M.size; omega)); exact und_sl8b; exact inf_el8b; rfl; decide; decide; rfl; exact rfl; exact flat_u1 _; omega; clear M; (try clear C); intro v8 w9 far_v8 M; simp only [List.set_cons_zero, List.set_cons_succ, entBlk, entT, List.getElem?_cons_zero, List.getElem?_cons_succ] at M; obtain ⟨pp_v8, cap_v8, rfl⟩ := own_form (M.row 2 rfl); have C := M.ruleAll; simp only [Go.Proofs.YtocejggobgfccaaGreatDoor.ruleAll] at C))
      go_ret
      rw [HR.out]
      refine ⟨_, rfl, ?_⟩
      have M9 := M.sub [2, 4] (by decide)
      simp only [List.filterMap_cons, List.filterMap_nil, List.getElem?_cons_succ, List.getElem?_cons_zero] at M9
      refine M9.eq ?_
      rw [u8s_app, u8s_app]
      simp only [List.length_append, List.length_singleton]
      rfl

set_option maxRecDepth 100000 in
set_option maxHeartbeats 2000000 in
theorem part_leaf (l : List Nat) (hl : l.length ≤ 1000) (hb : Byts l) (bw k : Nat) (hk : k ≤ l.length) (w : World) (h : blk w bw (wdA l k) 117) (hne : l.getD k 0 ≠ 40) :
    Calls Tryz.prog 95 #[.pointer (some ⟨bw, 0, none⟩)] w (RdPost l ([l.getD k 0], nxK l k) bw w) := by
  have M := ((Mm.start no w).only (fun b => b = bw)).add (x := .box bw (wdA l k) 117) h fun _ h => by cases h
  have HN := Hid2.mk (fun w1 (h1 : blk w1 bw (wdA l k) 117) => next_any l hl hb k hk bw w1 h1)
  have e2 : (((l.getD k 0 : Nat) : Int) == (40 : Nat)) = false := neI hne
  have e1 : ((l.getD k 0 : Nat) : Int) ≠ 40 := by have := hne; omega
  have HR := Hid2.mk (rfl : ([l.getD k 0], nxK l k) = ([l.getD k 0], nxK l k))
  generalize l.getD k 0 = b at HN e1 e2 HR ⊢
  generalize nxK l k = k1 at HN HR ⊢
  clear h hne
  have C := M.ruleAll; simp only [Go.Proofs.YtocejggobgfccaaGreatDoor.ruleAll] at C
  go_enter Tryz.func95, Tryz.ntmps95
  go_wp2_with (first | (go_at_call 83; fail))
  refine (HN.out _ (M.box 0 rfl)).mono ?_
  rintro e w1 ⟨rfl, M'⟩
  have M9 := M.wrote 0 rfl (.inr rfl) M'.kept.grown (M'.box 0 rfl)
  simp only [List.set_cons_zero] at M9
  clear M; (try clear C)
  have M := M9
  clear M9 M' HN
  have C := M.ruleAll; simp only [Go.Proofs.YtocejggobgfccaaGreatDoor.ruleAll] at C
  go_wp2_with (first | ((with_reducible apply wpM_bsl' M 41 1 5 ([(0, .int .u8 (b : Int))]) (#[.int .u8 (b : Int)])); rfl; rfl; rfl; exact bsl_u81 _; clear M; (try clear C); intro b7 w9 h_b7 M; have C := M.ruleAll; simp only [Go.Proofs.YtocejggobgfccaaGreatDoor.ruleAll] at C))
  go_ret
  refine ⟨_, rfl, ?_⟩
  have M9 := M.asRow 0 rfl w.heap.size 1 1 (by assumption) rfl (by decide)
  simp only [List.set_cons_zero] at M9
  exact M9

set_option maxRecDepth 100000 in
set_option maxHeartbeats 2000000 in
theorem part_par (l : List Nat) (hl : l.length ≤ 1000) (hb : Byts l) (bw n k : Nat) (hk : k < l.length) (hn : l.length - (k + 1) ≤ n) (r : List Nat × Nat) (hr : RdB l (k + 1) r) (w : World) (h : blk w bw (wdA l k) 117) (h40 : l.getD k 0 = 40)
    (hT : ∀ w, blk w bw (wdA l (k + 1)) 117 → Calls Tryz.prog 82 #[.pointer (some ⟨bw, 0, none⟩)] w (RdPost l r bw w)) :
    Calls Tryz.prog 95 #[.pointer (some ⟨bw, 0, none⟩)] w (RdPost l (if l.getD r.2 0 = 41 then (r.1, nxK l r.2) else ([], nxK l r.2)) bw w) := by
  have M := ((Mm.start no w).only (fun b => b = bw)).add (x := .box bw (wdA l k) 117) h fun _ h => by cases h
  have HN := Hid2.mk (fun w1 (h1 : blk w1 bw (wdA l k) 117) => next_any l hl hb k (by omega) bw w1 h1)
  have HN2 := Hid2.mk (fun w1 (h1 : blk w1 bw (wdA l r.2) 117) => next_any l hl hb r.2 hr.le bw w1 h1)
  have HNK := Hid2.mk (show nxK l k = k + 1 from if_pos hk)
  have HT := Hid2.mk hT
  rw [h40] at HN
  obtain ⟨out, k2⟩ := r
  simp only at HN2 HT hr ⊢
  have hlen := hr.len
  generalize hq : (if l.getD k2 0 = 41 then (out, nxK l k2) else ([], nxK l k2)) = res
  have HR := Hid2.mk hq
  clear hT h hr h40 hq
  have C := M.ruleAll; simp only [Go.Proofs.YtocejggobgfccaaGreatDoor.ruleAll] at C
  go_enter Tryz.func95, Tryz.ntmps95
  go_wp2_with (first | (go_at_call 83; fail))
  refine (HN.out _ (M.box 0 rfl)).mono ?_
  rintro e w1 ⟨rfl, M'⟩
  have M9 := M.wrote 0 rfl (.inr rfl) M'.kept.grown (M'.box 0 rfl)
  rw [HNK.out] at M9
  simp only [List.set_cons_zero] at M9
  clear M; (try clear C)
  have M := M9
  clear M9 M' HN
  have C := M.ruleAll; simp only [Go.Proofs.YtocejggobgfccaaGreatDoor.ruleAll] at C
  go_wp2_with (first | (go_at_call 82; fail))
  refine (HT.out _ (M.box 0 rfl)).mono ?_
  rintro e w2 ⟨v, rfl, M'⟩
  have M9 := M.callw 0 rfl (.inr rfl) M'
  simp only [List.set_cons_zero] at M9
  obtain ⟨pp1, cap1, rfl⟩ := own_form (M9.row 0 rfl)
  clear M; (try clear C)
  have M := M9
  clear M9 M' HT
  have C := M.ruleAll; simp only [Go.Proofs.YtocejggobgfccaaGreatDoor.ruleAll] at C
  go_wp2_with (first | (go_at_call 83; fail))
  refine (HN2.out _ (M.box 1 rfl)).mono ?_
  rintro e w3 ⟨rfl, M'⟩
  have M9 := M.wrote 1 rfl (.inr rfl) M'.kept.grown (M'.box 0 rfl)
  simp only [List.set_cons_zero, List.set_cons_succ] at M9
  clear M; (try clear C)
  have M := M9
  clear M9 M' HN2
  by_cases hc : l.getD k2 0 = 41
  · have HR2 := HR.out
    rw [if_pos hc] at HR2
    subst HR2
    rw [hc]
    clear hc HR
    go_wp2
    go_ret
    exact ⟨_, rfl, M⟩
  · have HR2 := HR.out
    rw [if_neg hc] at HR2
    subst HR2
    clear HR
    have e2 : (((l.getD k2 0 : Nat) : Int) == (41 : Nat)) = false := neI hc
    have e1 : ((l.getD k2 0 : Nat) : Int) ≠ 41 := by have := hc; omega
    generalize l.getD k2 0 = b at e1 e2 ⊢
    clear hc
    go_wp2
    go_ret
    exact ⟨_, rfl, (M.drop 0).nilRow w.heap.size 5 1⟩

theorem part_any (l : List Nat) (hl : l.length ≤ 1000) (hb : Byts l) (bw : Nat) : ∀ n, Rdr 95 l bw n (partK l n)
  | 0 => fun k w hk hn h => by
    have h0 : l.getD k 0 ≠ 40 := fun e => by
      have := getD_ltz (l := l) (k := k) (by omega)
      omega
    exact part_leaf l hl hb bw k hk w h h0
  | n + 1 => fun k w hk hn h => by
    show Calls _ _ _ _ (RdPost l (if l.getD k 0 = 40 then _ else _) bw w)
    by_cases h40 : l.getD k 0 = 40
    · rw [if_pos h40]
      have hlt : k < l.length := getD_ltz (by omega)
      exact part_par l hl hb bw n k hlt (by omega) _ (termOf_b n (fun k => partK_b l n k) (by omega) (by omega)) w h h40 fun w1 h1 => term_of l hl hb bw n _ (part_any l hl hb bw n) (fun k => partK_b l n k) (k + 1) w1 (by omega) (by omega) h1
    · rw [if_neg h40]; exact part_leaf l hl hb bw k hk w h h40
/-- A term is read. -/
theorem term_any (l : List Nat) (hl : l.length ≤ 1000) (hb : Byts l) (bw k : Nat) (hk : k ≤ l.length) (w : World) (h : blk w bw (wdA l k) 117) :
    Calls Tryz.prog 82 #[.pointer (some ⟨bw, 0, none⟩)] w (RdPost l (termOf l (partK l l.length) k) bw w) :=
  term_of l hl hb bw l.length _ (part_any l hl hb bw l.length) (fun k => partK_b l l.length k) k w hk (by omega) h
end Go.Proofs.YtocejggobgfccaaGreatDoor

/- The texts of terms as plain lists; texts put together; contracts of the small functions. -/
namespace Go.Proofs.YtocejggobgfccaaGreatDoor
set_option linter.unusedSimpArgs false
set_option linter.unusedVariables false
open Go Go.RowKit

def parT (s : List Nat) : List Nat := if 1 < s.length then 40 :: (s ++ [41]) else s
def txStep (b : Nat) (st : List (List Nat)) : List (List Nat) :=
  if isLeafB b = true then [b] :: st else match st with | c :: a :: r => (parT a ++ [b] ++ parT c) :: r | _ => []
def txTo (f : Nat → Nat) : Nat → List (List Nat)
  | 0 => []
  | k + 1 => txStep (f k) (txTo f k)
def txB (f : Nat → Nat) (n : Nat) : List Nat := (txTo f n).headD []
theorem txTo_succ (f : Nat → Nat) (k : Nat) : txTo f (k + 1) = txStep (f k) (txTo f k) := rfl
theorem txStep_leaf {b : Nat} (h : isLeafB b = true) (st : List (List Nat)) : txStep b st = [b] :: st := if_pos h
theorem txStep_op {b : Nat} (h : isLeafB b = false) (c a : List Nat) (r : List (List Nat)) : txStep b (c :: a :: r) = (parT a ++ [b] ++ parT c) :: r := by rw [txStep, if_neg (by rw [h]; exact Bool.false_ne_true)]
theorem parT_len (s : List Nat) : (parT s).length ≤ s.length + 2 ∧ s.length ≤ (parT s).length := by
  unfold parT
  split
  · simp only [List.length_cons, List.length_append, List.length_nil]; omega
  · omega
def sumL (st : List (List Nat)) : Nat := (st.map List.length).sum
theorem mem_sumL {st : List (List Nat)} {s : List Nat} (h : s ∈ st) : s.length ≤ sumL st := by
  induction st with
  | nil => cases h
  | cons a st ih =>
    simp only [sumL, List.map_cons, List.sum_cons]
    rcases List.mem_cons.1 h with rfl | h
    · omega
    · have := ih h; unfold sumL at this; omega
theorem txTo_length {f : Nat → Nat} : ∀ {k v : Nat}, tmTo f k = some v → (txTo f k).length = v
  | 0, v, h => by cases h; rfl
  | k + 1, v, h => by
    rw [tmTo] at h
    split at h
    · rename_i u hu
      have ih := txTo_length hu
      rw [txTo]
      simp only [tmStep] at h
      simp only [txStep]
      split at h
      · rename_i hl; cases h; rw [if_pos hl]; simp [ih]
      · rename_i hl
        rw [if_neg hl]
        split at h
        · rename_i ho
          cases h
          revert ih
          rcases txTo f k with _ | ⟨c, _ | ⟨a, r⟩⟩
          · intro ih; simp at ih; omega
          · intro ih; simp at ih; omega
          · intro ih; simp at ih ⊢; omega
        · cases h
    · cases h
/-- The texts are not too long, nor empty, and made of bytes. -/
theorem txTo_ok {f : Nat → Nat} : ∀ {k v : Nat}, tmTo f k = some v → sumL (txTo f k) ≤ 5 * k ∧ ∀ s ∈ txTo f k, 1 ≤ s.length ∧ Byts s
  | 0, v, h => ⟨Nat.le_refl _, fun s hs => by cases hs⟩
  | k + 1, v, h => by
    rw [tmTo] at h
    split at h
    · rename_i u hu
      obtain ⟨i1, i2⟩ := txTo_ok hu
      rw [txTo]
      simp only [tmStep] at h
      simp only [txStep]
      split at h
      · rename_i hl
        rw [if_pos hl]
        refine ⟨by simp only [sumL, List.map_cons, List.sum_cons, List.length_singleton] at i1 ⊢; omega, fun s hs => ?_⟩
        rcases List.mem_cons.1 hs with rfl | hs
        · refine ⟨Nat.le_refl _, fun x hx => ?_⟩
          simp only [List.mem_singleton] at hx
          subst hx
          have := leaf_cases hl
          omega
        · exact i2 s hs
      · rename_i hl
        rw [if_neg hl]
        split at h
        · rename_i ho
          revert i1 i2
          rcases txTo f k with _ | ⟨c, _ | ⟨a, r⟩⟩
          · intro i1 i2; exact ⟨Nat.zero_le _, fun s hs => by cases hs⟩
          · intro i1 i2; exact ⟨Nat.zero_le _, fun s hs => by cases hs⟩
          · intro i1 i2
            have pa := parT_len a
            have pc := parT_len c
            have ha := i2 a (by simp)
            have hc := i2 c (by simp)
            refine ⟨by simp only [sumL, List.map_cons, List.sum_cons, List.length_append, List.length_singleton] at i1 ⊢; omega, fun s hs => ?_⟩
            rcases List.mem_cons.1 hs with rfl | hs
            · refine ⟨by simp only [List.length_append, List.length_singleton]; omega, fun x hx => ?_⟩
              have hp : ∀ t, Byts t → ∀ x ∈ parT t, x < 256 := fun t ht x hx => by
                unfold parT at hx
                split at hx
                · simp only [List.mem_cons, List.mem_append, List.not_mem_nil, or_false] at hx
                  rcases hx with rfl | hx | rfl
                  · omega
                  · exact ht x hx
                  · omega
                · exact ht x hx
              simp only [List.mem_append, List.mem_singleton] at hx
              rcases hx with (hx | rfl) | hx
              · exact hp a ha.2 x hx
              · have ho1 := ho.1
                simp [isOpB] at ho1
                omega
              · exact hp c hc.2 x hx
            · exact i2 s (by simp [hs])
        · cases h
    · cases h

/-! ### Texts put together -/
theorem cv_leaf {b : Nat} (h : isLeafB b = true) (w : World) : (convert 5 9 (.int .u8 (b : Int))).run Tryz.prog w = .ok (.string (str [b])) w := by
  rcases leaf_cases h with rfl | rfl | rfl | rfl <;> kernel_rfl
theorem cv_op {b : Nat} (h : isOpB b = true) (w : World) : (convert 5 9 (.int .u8 (b : Int))).run Tryz.prog w = .ok (.string (str [b])) w := by
  rcases op_cases h with rfl | rfl | rfl <;> kernel_rfl

set_option maxRecDepth 100000 in
theorem implPart_any (s : List Nat) (hs : s.length ≤ 10000) (w : World) : Calls Tryz.prog 106 #[.string (str s)] w fun e w' => e = .returned (.string (str (parT s))) ∧ w = w' := by
  have hsz := str_size s
  by_cases h : 1 < s.length
  · have hp : parT s = 40 :: (s ++ [41]) := if_pos h
    have h1 : (1 : Int) < (s.length : Int) := by omega
    have a1 : ∀ w, (Op.stringOp .add (⟨#[40]⟩ : ByteArray) (str s)).run Tryz.prog w = .ok (.string (str (40 :: s))) w := add_str [40] s (by simp; omega)
    have a2 : ∀ w, (Op.stringOp .add (str (40 :: s)) (⟨#[41]⟩ : ByteArray)).run Tryz.prog w = .ok (.string (str (40 :: (s ++ [41])))) w := add_str (40 :: s) [41] (by simp; omega)
    rw [hp]
    generalize str (40 :: s) = s1 at a1 a2
    generalize str (40 :: (s ++ [41])) = s2 at a2 ⊢
    generalize str s = s0 at *
    go_enter Tryz.func106, Tryz.ntmps106
    go_wp2
    go_ret
    exact ⟨rfl, rfl⟩
  · have hp : parT s = s := if_neg h
    have h1 : ¬ (1 : Int) < (s.length : Int) := by omega
    rw [hp]
    generalize str s = s0 at *
    go_enter Tryz.func106, Tryz.ntmps106
    go_wp2
    go_ret
    exact ⟨rfl, rfl⟩
set_option maxRecDepth 100000 in
theorem specPart_any (s : List Nat) (h0 : 1 ≤ s.length) (hs : s.length ≤ 10000) (w : World) : Calls Tryz.prog 90 #[.string (str s)] w fun e w' => e = .returned (.string (str (parT s))) ∧ w = w' := by
  have hsz := str_size s
  by_cases h : 1 < s.length
  · have hp : parT s = 40 :: (s ++ [41]) := if_pos h
    have h1 : ((s.length : Int) == 1) = false := by simp; omega
    have a1 : ∀ w, (Op.stringOp .add (⟨#[40]⟩ : ByteArray) (str s)).run Tryz.prog w = .ok (.string (str (40 :: s))) w := add_str [40] s (by simp; omega)
    have a2 : ∀ w, (Op.stringOp .add (str (40 :: s)) (⟨#[41]⟩ : ByteArray)).run Tryz.prog w = .ok (.string (str (40 :: (s ++ [41])))) w := add_str (40 :: s) [41] (by simp; omega)
    rw [hp]
    generalize str (40 :: s) = s1 at a1 a2
    generalize str (40 :: (s ++ [41])) = s2 at a2 ⊢
    generalize str s = s0 at *
    go_enter Tryz.func90, Tryz.ntmps90
    go_wp2
    go_ret
    exact ⟨rfl, rfl⟩
  · have hp : parT s = s := if_neg h
    have h1 : ((s.length : Int) == 1) = true := by simp; omega
    rw [hp]
    generalize str s = s0 at *
    go_enter Tryz.func90, Tryz.ntmps90
    go_wp2
    go_ret
    exact ⟨rfl, rfl⟩
set_option maxRecDepth 100000 in
theorem tx1_any (b : Nat) (h : isLeafB b = true) (w : World) : Calls Tryz.prog 104 #[.int .u8 (b : Int)] w fun e w' => e = .returned (.string (str [b])) ∧ w = w' := by
  have hc := cv_leaf h
  generalize str [b] = s at *
  clear h
  go_enter Tryz.func104, Tryz.ntmps104
  go_wp2
  go_ret
  exact ⟨rfl, rfl⟩
set_option maxRecDepth 100000 in
theorem tx2_any (b : Nat) (h : isOpB b = true) (a c : List Nat) (ha : a.length ≤ 10000) (hc : c.length ≤ 10000) (w : World) : Calls Tryz.prog 105 #[.int .u8 (b : Int), .string (str a), .string (str c)] w fun e w' => e = .returned (.string (str (parT a ++ [b] ++ parT c))) ∧ w = w' := by
  have hv := cv_op h
  have pa := parT_len a
  have pc := parT_len c
  have P1 := fun w1 => implPart_any a ha w1
  have P2 := fun w1 => implPart_any c hc w1
  have a1 := add_str (parT a) [b] (by simp only [List.length_singleton]; omega)
  have a2 := add_str (parT a ++ [b]) (parT c) (by simp only [List.length_append, List.length_singleton]; omega)
  generalize str (parT a ++ [b] ++ parT c) = s3 at *
  generalize str (parT a ++ [b]) = s2 at *
  generalize str (parT a) = s1 at *
  generalize str (parT c) = s4 at *
  generalize str [b] = sb at *
  generalize str a = sa at *
  generalize str c = sc at *
  clear pa pc ha hc h
  go_enter Tryz.func105, Tryz.ntmps105
  go_wp2_with (first | (go_at_call 106; ((with_reducible refine (P1 _).mono ?_); rintro e w1 ⟨rfl, rfl⟩)) | (go_at_call 106; ((with_reducible refine (P2 _).mono ?_); rintro e w1 ⟨rfl, rfl⟩)))
  go_ret
  exact ⟨rfl, rfl⟩
end Go.Proofs.YtocejggobgfccaaGreatDoor

/- The value of a term, for the program: a contract. -/
namespace Go.Proofs.YtocejggobgfccaaGreatDoor
set_option linter.unusedSimpArgs false
set_option linter.unusedVariables false
open Go Go.RowKit

/-- Forty bytes; three bytes. -/
def b40 (f : Nat → Nat) : Array Value := tab 40 fun i => .int .u8 (f i)
theorem b40_size (f : Nat → Nat) : (b40 f).size = 40 := tab_size _ _
theorem flat_b40 (f : Nat → Nat) : flat (b40 f) := flat_tab fun _ _ => rfl
theorem und_b40 : Tryz.prog.underlying 130 = some (.array 40 5) := by kernel_rfl
theorem inf_b40 : (Tryz.prog.info? 130).map (·.size) = some 40 := by kernel_rfl
theorem zero_b40 (w : World) : (zeroValue 130).run Tryz.prog w = .ok (.agg (b40 fun _ => 0)) w := by kernel_rfl
def by3 (x y z : Nat) : Array Value := #[.int .u8 (x : Int), .int .u8 (y : Int), .int .u8 (z : Int)]
theorem by3_size (x y z : Nat) : (by3 x y z).size = 3 := rfl
theorem und_by3 : Tryz.prog.underlying 97 = some (.array 3 5) := by kernel_rfl
theorem inf_by3 : (Tryz.prog.info? 97).map (·.size) = some 3 := by kernel_rfl

/-- The products and the quotients of a square, as cells. -/
structure VlC (n : Int) (t : Nat → Nat → Nat) (cs : Array Value) : Prop where
  size : cs.size = 300
  mul : ∀ a c : Nat, (a : Int) < n → (c : Int) < n → cs[a * 10 + c]? = some (.int .u8 (t a c : Nat))
  lft : ∀ a c : Nat, (a : Int) < n → (c : Int) < n → cs[100 + a * 10 + c]? = some (.int .u8 (lq t a c : Nat))
  rgt : ∀ a c : Nat, (a : Int) < n → (c : Int) < n → cs[200 + a * 10 + c]? = some (.int .u8 (lq (fun x y => t y x) c a : Nat))

/-- A stack of values, the last one first, in forty cells. -/
structure StkC (s : List Nat) (cs : Array Value) : Prop where
  size : cs.size = 40
  get : ∀ j, j < s.length → cs[j]? = some (.int .u8 (s.reverse.getD j 0 : Nat))
theorem StkC.push {s : List Nat} {cs : Array Value} (h : StkC s cs) (hl : s.length < 40) (v : Nat) : StkC (v :: s) (cs.setIfInBounds s.length (.int .u8 (v : Int))) := by
  refine ⟨by rw [Array.size_setIfInBounds]; exact h.size, fun j hj => ?_⟩
  rw [Array.getElem?_setIfInBounds, List.reverse_cons, List.getD_eq_getElem?_getD]
  split
  · rename_i e; subst e
    rw [if_pos (by rw [h.size]; exact hl), List.getElem?_append_right (by simp)]; simp
  · rename_i e
    have hj' : j < s.length := by simp at hj; omega
    rw [h.get j hj', List.getElem?_append_left (by simpa using hj'), List.getD_eq_getElem?_getD]
theorem StkC.at1 {c a : Nat} {r : List Nat} {cs : Array Value} (h : StkC (c :: a :: r) cs) : cs[r.length]? = some (.int .u8 (a : Int)) := by
  rw [h.get r.length (by simp; omega)]
  simp [List.getD_eq_getElem?_getD]
theorem StkC.at2 {c a : Nat} {r : List Nat} {cs : Array Value} (h : StkC (c :: a :: r) cs) : cs[r.length + 1]? = some (.int .u8 (c : Int)) := by
  rw [h.get (r.length + 1) (by simp)]
  simp [List.getD_eq_getElem?_getD]
theorem StkC.pop2 {c a : Nat} {r : List Nat} {cs : Array Value} (h : StkC (c :: a :: r) cs) (hl : r.length < 40) (v : Nat) : StkC (v :: r) (cs.setIfInBounds r.length (.int .u8 (v : Int))) :=
  StkC.push ⟨h.size, fun j hj => by
    rw [h.get j (by simp; omega)]
    simp only [List.reverse_cons, List.append_assoc, List.getD_eq_getElem?_getD]
    rw [List.getElem?_append_left (by simpa using hj)]⟩ hl v
theorem StkC.zero : StkC [] (b40 fun _ => 0) := ⟨b40_size _, fun j h => by cases h⟩
theorem evTo_succ (t : Nat → Nat → Nat) (x y z : Nat) (f : Nat → Nat) (k : Nat) : evTo t x y z f (k + 1) = evStep t x y z (f k) (evTo t x y z f k) := rfl
theorem evStep_leaf (t : Nat → Nat → Nat) (x y z : Nat) {b : Nat} (h : isLeafB b = true) (s : List Nat) : evStep t x y z b s = lfB x y z b :: s := if_pos h
theorem evStep_op (t : Nat → Nat → Nat) (x y z : Nat) {b : Nat} (h : isLeafB b = false) (c a : Nat) (r : List Nat) : evStep t x y z b (c :: a :: r) = apB t b a c :: r := by rw [evStep, if_neg (by rw [h]; exact Bool.false_ne_true)]
/-- What a byte of a term is. -/
theorem tm_byte {f : Nat → Nat} {n k u : Nat} (h : isTm f n = true) (hk : k < n) (hu : tmTo f k = some u) : (isLeafB (f k) = true ∧ tmTo f (k + 1) = some (u + 1)) ∨ (isLeafB (f k) = false ∧ isOpB (f k) = true ∧ 2 ≤ u ∧ tmTo f (k + 1) = some (u - 1)) := by
  obtain ⟨v, hv⟩ := tmTo_some (isTm_iff.1 h).1 (k := k + 1) (by omega)
  have hs := tmTo_succ hu
  rw [hv] at hs
  cases hl : isLeafB (f k) with
  | true => exact .inl ⟨rfl, by rw [hv, hs, tmStep_leaf hl]⟩
  | false =>
    by_cases h2 : isOpB (f k) = true ∧ 2 ≤ u
    · exact .inr ⟨rfl, h2.1, h2.2, by rw [hv, hs, tmStep_op hl h2.1 h2.2]⟩
    · rw [tmStep_no hl h2] at hs; cases hs

set_option maxRecDepth 100000 in
set_option maxHeartbeats 2000000 in
theorem of_any (n : Int) (t : Nat → Nat → Nat) (hs : IsSq n t) (x y z : Nat) (hx : (x : Int) < n) (hy : (y : Int) < n) (hz : (z : Int) < n) (xs : List Nat) (hT : isTm (elB xs) xs.length = true) (vcs : Array Value) (hv : VlC n t vcs) (bv : Nat)
    (w : World) (p : Option Addr) (cap : Nat) (hr : rdq w p xs.length (bytF xs)) (hb : blk w bv vcs 112) :
    Calls Tryz.prog 81 #[.pointer (some ⟨bv, 0, none⟩), .slice p xs.length cap, .agg (by3 x y z)] w fun e w' => e = .returned (.int .u8 (evB t x y z (elB xs) xs.length : Nat)) ∧ Below w.heap.size w w' := by
  have M := (Mm.start no w).add (x := .box bv vcs 112) hb fun _ h => by cases h
  have F1 := Hid2.mk (fun w1 (hb : Below w.heap.size w w1) => hr.later hb)
  have hz40 := zero_b40
  have hn := hs.hi
  have h40 : xs.length ≤ 40 := (isTm_iff.1 hT).2
  have ha0 : (by3 x y z)[0]? = some (.int .u8 (x : Int)) := rfl
  have ha1 : (by3 x y z)[1]? = some (.int .u8 (y : Int)) := rfl
  have ha2 : (by3 x y z)[2]? = some (.int .u8 (z : Int)) := rfl
  have HV := Hid2.mk hv
  have HS0 := Hid2.mk StkC.zero
  have HZF := Hid2.mk (flat_b40 fun _ => 0)
  have HTM := Hid2.mk hT
  have HLT := Hid2.mk (fun k => evTo_lt hs hx hy hz (f := elB xs) k)
  have HLE := Hid2.mk (fun {k v} => @evTo_length t x y z (elB xs) k v)
  have HEV := Hid2.mk (evTo_succ t x y z (elB xs))
  have HE0 := Hid2.mk (show evTo t x y z (elB xs) 0 = [] from rfl)
  have HEB := Hid2.mk (show evB t x y z (elB xs) xs.length = (evTo t x y z (elB xs) xs.length).headD 0 from rfl)
  have hl0 : lfB x y z 101 = 0 := rfl
  have hl1 : lfB x y z 120 = x := rfl
  have hl2 : lfB x y z 121 = y := rfl
  have hl3 : lfB x y z 122 = z := rfl
  have HL := Hid2.mk (fun {b} h s => @evStep_leaf t x y z b h s)
  have HO := Hid2.mk (fun {b} h c a r => @evStep_op t x y z b h c a r)
  generalize evB t x y z (elB xs) xs.length = res at HEB ⊢
  generalize evTo t x y z (elB xs) = ev at HLT HLE HEV HE0 HEB
  generalize evStep t x y z = st at HEV HL HO
  generalize lfB x y z = lf at hl0 hl1 hl2 hl3 HL
  generalize by3 x y z = A at ha0 ha1 ha2 ⊢
  generalize (b40 fun _ => 0) = Z at hz40 HS0 HZF
  clear hr hb hv hT hs hx hy hz
  have C := M.ruleAll; simp only [Go.Proofs.YtocejggobgfccaaGreatDoor.ruleAll] at C
  go_enter Tryz.func81, Tryz.ntmps81
  go_wp2_with (first | ((with_reducible apply wpM_box' M 97 (A)); rfl; exact ⟨rfl, rfl⟩; clear M; (try clear C); intro ba w9 h_ba M; have C := M.ruleAll; simp only [Go.Proofs.YtocejggobgfccaaGreatDoor.ruleAll] at C) | ((with_reducible apply wpM_alloc' M 130 (Z)); rfl; exact ⟨rfl, _, hz40 _, rfl⟩; clear M; (try clear C); intro bs w9 h_bs M; have C := M.ruleAll; simp only [Go.Proofs.YtocejggobgfccaaGreatDoor.ruleAll] at C) | ((with_reducible apply wpM_sta' M 0 130 (Z)); rfl; rfl; rfl; rfl; exact .inl (by assumption); exact ⟨rfl, by rw [HS0.out.size]; exact inf_b40, HZF.out⟩; (simp only [entCells, List.getElem?_cons_zero]); (clear M; (try clear C); intro w9 M; simp only [List.set_cons_zero, List.set_cons_succ, entBlk, entT, List.getElem?_cons_zero, List.getElem?_cons_succ] at M; have C := M.ruleAll; simp only [Go.Proofs.YtocejggobgfccaaGreatDoor.ruleAll] at C)))
  go_loopw [15, 8, 10, 11, 21, 23, 43, 49] (fun i v _ _ _ _ _ _ wr => ∃ k u : Nat, k ≤ xs.length ∧ i = .int .i64 (k : Int) ∧ v = .int .i64 ((u : Int) - 1) ∧ tmTo (elB xs) k = some u ∧ ∃ cs, StkC (ev k) cs ∧ Mm no w wr [.box bs cs 130, .box ba A 97, .box bv vcs 112]) (fun i _ _ _ _ _ _ _ _ => xs.length - (intOf i).toNat)
  case atStart => exact ⟨0, 0, by omega, rfl, rfl, rfl, _, by rw [HE0.out]; exact HS0.out, M⟩
  case round =>
    obtain ⟨k, u, hk, rfl, rfl, ht, cs, hcs, M9⟩ := hrel
    clear M; (try clear C)
    have M := M9
    clear M9
    have C := M.ruleAll; simp only [Go.Proofs.YtocejggobgfccaaGreatDoor.ruleAll] at C
    have hu := tmTo_le ht
    have HT := Hid2.mk ht
    have HCS := Hid2.mk hcs
    have hlen := HLE.out ht
    clear ht hcs
    by_cases hlt : k < xs.length
    · have hlt' : (k : Int) < (xs.length : Int) := by omega
      obtain ⟨g, rfl, hrr⟩ := F1.out _ M.below (by omega)
      have hc0 : wr.cell? ⟨g, k, none⟩ = some (.int .u8 (elB xs k : Nat)) := hrr.at_ k hlt
      clear hrr
      have hst := HEV.out k
      rcases tm_byte HTM.out hlt HT.out with ⟨hl, hnx⟩ | ⟨hl, ho, h2, hnx⟩
      · have hu40 : (u : Int) < 40 := by omega
        have hp40 : (ev k).length < 40 := by omega
        obtain ⟨T, hTe⟩ : ∃ T : Int, (u : Int) - 1 = T := ⟨_, rfl⟩
        rw [hTe]
        have hw : wrap64 (T + 1) = (u : Int) := by rw [wrap_small _ (by omega) (by omega)]; omega
        clear hTe
        rw [HL.out hl] at hst
        have HST := Hid2.mk hst
        have HNX := Hid2.mk hnx
        have hb := leaf_cases hl
        have HP := Hid2.mk (HCS.out.push hp40)
        rw [hlen] at HP
        clear hlen hp40
        generalize elB xs k = b at hc0 hb HST
        clear hl hst hnx
        rcases hb with rfl | rfl | rfl | rfl
        · go_wp2_with (first | ((with_reducible apply wpM_st' M 0 5 (u) (cs.setIfInBounds u (.int .u8 (x : Int)))); rfl; rfl; rfl; (first | exact .inl (by assumption) | exact .inr rfl | exact .inr (by assumption)); exact ⟨rfl, rfl, by kernel_rfl⟩; (exact Nat.lt_of_lt_of_eq (by omega) (HCS.out.size).symm); exact rfl; clear M; (try clear C); intro w9 M; simp only [List.set_cons_zero, List.set_cons_succ, entBlk, entT, List.getElem?_cons_zero, List.getElem?_cons_succ] at M; have C := M.ruleAll; simp only [Go.Proofs.YtocejggobgfccaaGreatDoor.ruleAll] at C))
          go_roundw
          case rel => exact ⟨k + 1, u + 1, by omega, by go_num, by first | rfl | (congr 1; omega), HNX.out, _, by rw [HST.out, hl1]; exact HP.out x, M⟩
          case measure => simp [intOf]; omega
        · go_wp2_with (first | ((with_reducible apply wpM_st' M 0 5 (u) (cs.setIfInBounds u (.int .u8 (y : Int)))); rfl; rfl; rfl; (first | exact .inl (by assumption) | exact .inr rfl | exact .inr (by assumption)); exact ⟨rfl, rfl, by kernel_rfl⟩; (exact Nat.lt_of_lt_of_eq (by omega) (HCS.out.size).symm); exact rfl; clear M; (try clear C); intro w9 M; simp only [List.set_cons_zero, List.set_cons_succ, entBlk, entT, List.getElem?_cons_zero, List.getElem?_cons_succ] at M; have C := M.ruleAll; simp only [Go.Proofs.YtocejggobgfccaaGreatDoor.ruleAll] at C))
          go_roundw
          case rel => exact ⟨k + 1, u + 1, by omega, by go_num, by first | rfl | (congr 1; omega), HNX.out, _, by rw [HST.out, hl2]; exact HP.out y, M⟩
          case measure => simp [intOf]; omega
        · go_wp2_with (first | ((with_reducible apply wpM_st' M 0 5 (u) (cs.setIfInBounds u (.int .u8 (z : Int)))); rfl; rfl; rfl; (first | exact .inl (by assumption) | exact .inr rfl | exact .inr (by assumption)); exact ⟨rfl, rfl, by kernel_rfl⟩; (exact Nat.lt_of_lt_of_eq (by omega) (HCS.out.size).symm); exact rfl; clear M; (try clear C); intro w9 M; simp only [List.set_cons_zero, List.set_cons_succ, entBlk, entT, List.getElem?_cons_zero, List.getElem?_cons_succ] at M; have C := M.ruleAll; simp only [Go.Proofs.YtocejggobgfccaaGreatDoor.ruleAll] at C))
          go_roundw
          case rel => exact ⟨k + 1, u + 1, by omega, by go_num, by first | rfl | (congr 1; omega), HNX.out, _, by rw [HST.out, hl3]; exact HP.out z, M⟩
          case measure => simp [intOf]; omega
        · go_wp2_with (first | ((with_reducible apply wpM_st' M 0 5 (u) (cs.setIfInBounds u (.int .u8 0))); rfl; rfl; rfl; (first | exact .inl (by assumption) | exact .inr rfl | exact .inr (by assumption)); exact ⟨rfl, rfl, by kernel_rfl⟩; (exact Nat.lt_of_lt_of_eq (by omega) (HCS.out.size).symm); exact rfl; clear M; (try clear C); intro w9 M; simp only [List.set_cons_zero, List.set_cons_succ, entBlk, entT, List.getElem?_cons_zero, List.getElem?_cons_succ] at M; have C := M.ruleAll; simp only [Go.Proofs.YtocejggobgfccaaGreatDoor.ruleAll] at C))
          go_roundw
          case rel => exact ⟨k + 1, u + 1, by omega, by go_num, by first | rfl | (congr 1; omega), HNX.out, _, by rw [HST.out, hl0]; exact HP.out 0, M⟩
          case measure => simp [intOf]; omega
      · obtain ⟨m, rfl⟩ : ∃ m, u = m + 2 := ⟨u - 2, by omega⟩
        obtain ⟨c, a, r, hr⟩ : ∃ c a r, ev k = c :: a :: r := by
          revert hlen
          rcases ev k with _ | ⟨c, _ | ⟨a, r⟩⟩
          · intro h; simp at h
          · intro h; simp at h
          · intro _; exact ⟨c, a, r, rfl⟩
        have hrl : r.length = m := by rw [hr] at hlen; simpa using hlen
        have hm40 : (m : Int) + 1 < 40 := by omega
        have hm40' : (m : Int) < 40 := by omega
        have hcn := HLT.out k c (by rw [hr]; simp)
        have han := HLT.out k a (by rw [hr]; simp)
        have a10 : a < 10 := by omega
        have c10 : c < 10 := by omega
        have a10' : (a : Int) < 10 := by omega
        have c10' : (c : Int) < 10 := by omega
        have hp40 : r.length < 40 := by omega
        obtain ⟨T, hTe⟩ : ∃ T : Int, ((m + 2 : Nat) : Int) - 1 = T := ⟨_, rfl⟩
        rw [hTe]
        have hw : wrap64 (T - 1) = (m : Int) := by rw [wrap_small _ (by omega) (by omega)]; omega
        clear hTe
        rw [hr, HO.out hl] at hst
        rw [hr] at HCS
        have e1 := HCS.out.at1
        have e2 := HCS.out.at2
        rw [hrl] at e1 e2
        have HP := Hid2.mk (HCS.out.pop2 hp40)
        rw [hrl] at HP
        clear hp40 hrl
        have v0 := HV.out.mul a c han hcn
        have v1 := HV.out.lft a c han hcn
        have v2 := HV.out.rgt a c han hcn
        have HST := Hid2.mk hst
        have HNX := Hid2.mk hnx
        have hb := op_cases ho
        generalize elB xs k = b at hc0 hb HST
        clear hl ho h2 hst hnx hr hlen hcn han
        rcases hb with rfl | rfl | rfl
        · have hA : apB t 42 a c = t a c := rfl
          rw [hA] at HST
          generalize t a c = val at v0 HST
          clear hA
          go_wp2
          simp only [hw]
          clear hw
          apply wp_region_mm M 16 (by kernel_rfl) (by kernel_rfl); (simp only [List.take_succ_cons, List.take_zero]; repeat (first | exact wpText_nil | (apply wpText_cons; (intro w2 M; have C := M.ruleAll; simp only [Go.Proofs.YtocejggobgfccaaGreatDoor.ruleAll] at C; go_wp2; exact ⟨rfl, rfl, M⟩); rfl))); (clear M; (try clear C); intro w2 M; simp only [List.drop_succ_cons, List.drop_zero]; have C := M.ruleAll; simp only [Go.Proofs.YtocejggobgfccaaGreatDoor.ruleAll] at C)
          go_wp2_with (first | ((with_reducible apply wpM_st' M 0 5 (m) (cs.setIfInBounds m (.int .u8 (val : Int)))); rfl; rfl; rfl; (first | exact .inl (by assumption) | exact .inr rfl | exact .inr (by assumption)); exact ⟨rfl, rfl, by kernel_rfl⟩; (exact Nat.lt_of_lt_of_eq (by omega) (HCS.out.size).symm); exact rfl; clear M; (try clear C); intro w9 M; simp only [List.set_cons_zero, List.set_cons_succ, entBlk, entT, List.getElem?_cons_zero, List.getElem?_cons_succ] at M; have C := M.ruleAll; simp only [Go.Proofs.YtocejggobgfccaaGreatDoor.ruleAll] at C))
          go_roundw
          case rel => exact ⟨k + 1, m + 1, by omega, by go_num, by first | rfl | (congr 1; omega), HNX.out, _, by rw [HST.out]; exact HP.out val, M⟩
          case measure => simp [intOf]; omega
        · have hA : apB t 92 a c = lq t a c := rfl
          rw [hA] at HST
          generalize lq t a c = val at v1 HST
          clear hA
          go_wp2
          simp only [hw]
          clear hw
          apply wp_region_mm M 16 (by kernel_rfl) (by kernel_rfl); (simp only [List.take_succ_cons, List.take_zero]; repeat (first | exact wpText_nil | (apply wpText_cons; (intro w2 M; have C := M.ruleAll; simp only [Go.Proofs.YtocejggobgfccaaGreatDoor.ruleAll] at C; go_wp2; exact ⟨rfl, rfl, M⟩); rfl))); (clear M; (try clear C); intro w2 M; simp only [List.drop_succ_cons, List.drop_zero]; have C := M.ruleAll; simp only [Go.Proofs.YtocejggobgfccaaGreatDoor.ruleAll] at C)
          go_wp2_with (first | ((with_reducible apply wpM_st' M 0 5 (m) (cs.setIfInBounds m (.int .u8 (val : Int)))); rfl; rfl; rfl; (first | exact .inl (by assumption) | exact .inr rfl | exact .inr (by assumption)); exact ⟨rfl, rfl, by kernel_rfl⟩; (exact Nat.lt_of_lt_of_eq (by omega) (HCS.out.size).symm); exact rfl; clear M; (try clear C); intro w9 M; simp only [List.set_cons_zero, List.set_cons_succ, entBlk, entT, List.getElem?_cons_zero, List.getElem?_cons_succ] at M; have C := M.ruleAll; simp only [Go.Proofs.YtocejggobgfccaaGreatDoor.ruleAll] at C))
          go_roundw
          case rel => exact ⟨k + 1, m + 1, by omega, by go_num, by first | rfl | (congr 1; omega), HNX.out, _, by rw [HST.out]; exact HP.out val, M⟩
          case measure => simp [intOf]; omega
        · have hA : apB t 47 a c = lq (fun x y => t y x) c a := rfl
          rw [hA] at HST
          generalize lq (fun x y => t y x) c a = val at v2 HST
          clear hA
          go_wp2
          simp only [hw]
          clear hw
          apply wp_region_mm M 16 (by kernel_rfl) (by kernel_rfl); (simp only [List.take_succ_cons, List.take_zero]; repeat (first | exact wpText_nil | (apply wpText_cons; (intro w2 M; have C := M.ruleAll; simp only [Go.Proofs.YtocejggobgfccaaGreatDoor.ruleAll] at C; go_wp2; exact ⟨rfl, rfl, M⟩); rfl))); (clear M; (try clear C); intro w2 M; simp only [List.drop_succ_cons, List.drop_zero]; have C := M.ruleAll; simp only [Go.Proofs.YtocejggobgfccaaGreatDoor.ruleAll] at C)
          go_wp2_with (first | ((with_reducible apply wpM_st' M 0 5 (m) (cs.setIfInBounds m (.int .u8 (val : Int)))); rfl; rfl; rfl; (first | exact .inl (by assumption) | exact .inr rfl | exact .inr (by assumption)); exact ⟨rfl, rfl, by kernel_rfl⟩; (exact Nat.lt_of_lt_of_eq (by omega) (HCS.out.size).symm); exact rfl; clear M; (try clear C); intro w9 M; simp only [List.set_cons_zero, List.set_cons_succ, entBlk, entT, List.getElem?_cons_zero, List.getElem?_cons_succ] at M; have C := M.ruleAll; simp only [Go.Proofs.YtocejggobgfccaaGreatDoor.ruleAll] at C))
          go_roundw
          case rel => exact ⟨k + 1, m + 1, by omega, by go_num, by first | rfl | (congr 1; omega), HNX.out, _, by rw [HST.out]; exact HP.out val, M⟩
          case measure => simp [intOf]; omega
    · obtain rfl : k = xs.length := by omega
      have hge : ¬ ((xs.length : Int) < (xs.length : Int)) := by omega
      obtain rfl : u = 1 := by
        have h1 := (isTm_iff.1 HTM.out).1.symm.trans HT.out
        cases h1; rfl
      obtain ⟨v, hv⟩ : ∃ v, ev xs.length = [v] := List.length_eq_one_iff.1 hlen
      rw [hv] at HCS HEB
      have e1 : cs[0]? = some (.int .u8 (v : Int)) := HCS.out.get 0 (by simp)
      have hres : res = v := HEB.out
      subst hres
      clear hlen hv
      go_wp2
      go_ret
      exact ⟨rfl, M.below⟩
end Go.Proofs.YtocejggobgfccaaGreatDoor

/- Lists of numbers handed back with a code; rows that are marked. -/
namespace Go.Proofs.YtocejggobgfccaaGreatDoor
set_option linter.unusedSimpArgs false
set_option linter.unusedVariables false
open Go Go.RowKit

def i64s (l : List Int) : List Value := l.map fun i => .int .i64 i
def FaPost (out : List Int) (code : Int) (w : World) (e : Ending) (w' : World) : Prop :=
  ∃ v, e = .returned (.tuple #[v, .int .i64 code]) ∧ Mm no w w' [.row w.heap.size v out.length (i64s out) 2 1]

theorem FaPost.nil {w w' : World} {L : List Ent} (M : Mm no w w' L) (c : Int) : FaPost [] c w (.returned (.tuple #[.slice none 0 0, .int .i64 c])) w' :=
  ⟨_, rfl, (M.sub [] (by decide)).nilRow w.heap.size 2 1⟩
theorem FaPost.three {w w' : World} {g x y z : Nat} (M : Mm no w w' [.box g #[.int .i64 (x : Int), .int .i64 (y : Int), .int .i64 (z : Int)] 2]) (hg : w.heap.size ≤ g) : FaPost [(x : Int), (y : Int), (z : Int)] 0 w (.returned (.tuple #[.slice (some ⟨g, 0, none⟩) 3 3, .int .i64 0])) w' :=
  ⟨_, rfl, M.asRow 0 rfl w.heap.size 3 1 hg rfl (by decide)⟩

theorem i64s_len (l : List Int) : (i64s l).length = l.length := by simp [i64s]
theorem i64s_get (l : List Int) {j : Nat} (hj : j < l.length) : (i64s l).getD j undef = intF l j := by
  unfold intF elI i64s
  rw [List.getD_eq_getElem?_getD, List.getD_eq_getElem?_getD, List.getElem?_map, List.getElem?_eq_getElem hj]
  rfl
/-- A list that a slice with a row of its own holds, read. -/
theorem fa_read {w : World} {B : Nat} {v : Value} {out : List Int} (h : w.ownsRow B 2 1 v out.length (i64s out)) : ∃ p c, v = .slice p out.length c ∧ rdq w p out.length (intF out) := by
  obtain ⟨p, c, rfl⟩ := own_form h
  have hr := rdq_of_own h
  rw [Nat.mul_one] at hr
  exact ⟨p, c, rfl, hr.congr fun j hj => i64s_get out hj⟩
theorem FaPost.nil2 {w w' : World} (hb : Below w.heap.size w w') (c : Int) : FaPost [] c w (.returned (.tuple #[.slice none 0 0, .int .i64 c])) w' :=
  ⟨_, rfl, ((Mm.start no w).later hb).nilRow w.heap.size 2 1⟩

theorem i64s_app (a b : List Int) : i64s (a ++ b) = i64s a ++ i64s b := by simp [i64s]
theorem new_row {w w' : World} {v : Value} {n : Nat} {xs : List Value} {e size : Nat} (M : Mm no w w' [.row w.heap.size v n xs e size]) : ∀ x ∈ [Ent.row w.heap.size v n xs e size], ∀ b, x.place b → w.heap.size ≤ b := fun x hx b hb => by
  simp only [List.mem_singleton] at hx; subst hx
  exact (World.ownsRow.lt (M.row 0 rfl) b hb).1
/-- Two new boxes that a call has written to are no longer told of. -/
theorem Mm.lose2 {w0 w w' : World} {g1 g2 t1 t2 : Nat} {cs1 cs2 : Array Value} {L : List Ent} (M : Mm no w0 w (.box g1 cs1 t1 :: .box g2 cs2 t2 :: L)) (h1 : w0.heap.size ≤ g1) (h2 : w0.heap.size ≤ g2) (hk : Kept (fun b => b = g1 ∨ b = g2) w w') : Mm no w0 w' L := by
  refine (Mm.suffix (Lg := [_, _]) M).go hk (fun k hk hE => ?_) fun x hx b hb hE => ?_
  · rcases hE with rfl | rfl <;> omega
  · obtain ⟨i, hi⟩ := List.getElem?_of_mem hx
    rcases hE with rfl | rfl
    · exact M.dist 0 (i + 2) _ x rfl (by simpa using hi) (by omega) b rfl hb
    · exact M.dist 1 (i + 2) _ x rfl (by simpa using hi) (by omega) b rfl hb
/-- A row that is ours is written by a call. -/
theorem Mm.rowmark {w0 w w' : World} {L : List Ent} (M : Mm no w0 w L) (i : Nat) {B : Nat} {v : Value} {n : Nat} {xs ys : List Value} {e size : Nat} (hi : L[i]? = some (.row B v n xs e size)) (hB : w0.heap.size ≤ B) (hk : Kept (fun b => v.ownBlock = some b) w w') (h : w'.ownsRow B e size v n ys) : Mm no w0 w' (L.set i (.row B v n ys e size)) :=
  M.set i hi hk (fun _ h => h) (fun k hk h => by have := (World.ownsRow.lt (M.row i hi) k h).1; omega) h fun _ h => .inl h
theorem fa_rdq {w : World} {B n c : Nat} {p : Option Addr} {out : List Int} (hn : n = out.length) (h : w.ownsRow B 2 1 (.slice p n c) n (i64s out)) : rdq w p out.length (intF out) := by
  subst hn
  obtain ⟨p', c', e, hr⟩ := fa_read h
  cases e
  exact hr
theorem mk_rdq {w : World} {B n c : Nat} {p : Option Addr} {k : Int} (h : w.ownsRow B 2 1 (.slice p n c) n (mkV k n)) : rdq w p n (fun j => .int .i64 (k + (j : Int))) := by
  have hr := rdq_of_own h
  rw [Nat.mul_one] at hr
  exact hr.congr fun j hj => by rw [List.getD_eq_getElem?_getD, mkV_get hj]; rfl
/-- A row is cut short. -/
theorem own_cut {w : World} {B e g n cap : Nat} {xs : List Value} (h : w.ownsRow B e 1 (.slice (some ⟨g, 0, none⟩) n cap) n xs) {m : Nat} (hm : m ≤ n) : w.ownsRow B e 1 (.slice (some ⟨g, 0, none⟩) m cap) m (xs.take m) := by
  obtain ⟨hl, h | ⟨g', cap', cur, e1, hB, hb, hn, hc, hs, ht⟩⟩ := h
  · cases h.1
  · cases e1
    refine ⟨by rw [List.length_take]; omega, .inr ⟨g, cap, cur, rfl, hB, hb, by omega, hc, hs, ?_⟩⟩
    rw [← ht, List.take_take]
    congr 1; omega
theorem own_cap {w : World} {B e g n cap size : Nat} {xs : List Value} (h : w.ownsRow B e size (.slice (some ⟨g, 0, none⟩) n cap) n xs) : n ≤ cap ∧ cap ≤ maxLen := by
  obtain ⟨_, h | ⟨g', cap', cur, e1, _, _, hn, hc, _⟩⟩ := h
  · cases h.1
  · cases e1; exact ⟨hn, hc⟩
theorem Mm.cutRow {D : Nat → Prop} {w0 w : World} {L : List Ent} (M : Mm D w0 w L) (i : Nat) {B g n cap e : Nat} {xs : List Value} (hi : L[i]? = some (.row B (.slice (some ⟨g, 0, none⟩) n cap) n xs e 1)) {m : Nat} (hm : m ≤ n) : Mm D w0 w (L.set i (.row B (.slice (some ⟨g, 0, none⟩) m cap) m (xs.take m) e 1)) :=
  M.set i hi (.refl no w) (fun _ h => h.elim) (fun _ _ h => h.elim) (own_cut (M.row i hi) hm) fun k h => .inl h
end Go.Proofs.YtocejggobgfccaaGreatDoor

/- The text of a term, for the program: a contract. -/
namespace Go.Proofs.YtocejggobgfccaaGreatDoor
set_option linter.unusedSimpArgs false
set_option linter.unusedVariables false
open Go Go.RowKit

theorem bsl_s0 (w : World) : (Instr.buildSlice 22 0 [].toArray).run Tryz.prog w = .ok (.slice (some ⟨w.heap.size, 0, none⟩) 0 0) (w.alloc (.cells #[] 9)) := by kernel_rfl
theorem bsl_s1 (s : ByteArray) (w : World) : (Instr.buildSlice 22 1 [(0, Value.string s)].toArray).run Tryz.prog w = .ok (.slice (some ⟨w.heap.size, 0, none⟩) 1 1) (w.alloc (.cells #[.string s] 9)) := by kernel_rfl
theorem flat_s1 (s : ByteArray) : flat #[.string s] := fun u hu => by
  have : u = .string s := by simpa using hu
  subst this; rfl
/-- A stack of texts, the last one first, as a row. -/
def stkS (st : List (List Nat)) : List Value := st.reverse.map fun s => .string (str s)
theorem stkS_len (s : List (List Nat)) : (stkS s).length = s.length := by simp [stkS]
theorem stkS_push (v : List Nat) (s : List (List Nat)) : stkS (v :: s) = stkS s ++ [.string (str v)] := by simp [stkS]
theorem stkS_at1 (c a : List Nat) (r : List (List Nat)) : (stkS (c :: a :: r))[r.length]? = some (.string (str a)) := by
  rw [stkS_push, stkS_push, List.append_assoc, List.getElem?_append_right (by rw [stkS_len]; exact Nat.le_refl _), stkS_len]; simp
theorem stkS_at2 (c a : List Nat) (r : List (List Nat)) : (stkS (c :: a :: r))[r.length + 1]? = some (.string (str c)) := by
  rw [stkS_push, stkS_push, List.append_assoc, List.getElem?_append_right (by rw [stkS_len]; omega), stkS_len]; simp
theorem stkS_cut (c a : List Nat) (r : List (List Nat)) : (stkS (c :: a :: r)).take r.length = stkS r := by
  rw [stkS_push, stkS_push, List.append_assoc, ← stkS_len r, List.take_left']
  rfl

set_option maxRecDepth 100000 in
set_option maxHeartbeats 4000000 in
theorem folded_any (xs : List Nat) (hT : isTm (elB xs) xs.length = true) (w : World) (p : Option Addr) (cap : Nat) (hr : rdq w p xs.length (bytF xs)) :
    Calls Tryz.prog 103 #[.slice p xs.length cap, .func (.func 104) #[] #[], .func (.func 105) #[] #[]] w fun e w' => e = .returned (.string (str (txB (elB xs) xs.length))) ∧ Below w.heap.size w w' := by
  have M := Mm.start no w
  have F1 := Hid2.mk (fun w1 (hb : Below w.heap.size w w1) => hr.later hb)
  have h40 : xs.length ≤ 40 := (isTm_iff.1 hT).2
  have HTM := Hid2.mk hT
  have HLE := Hid2.mk (fun {k v} => @txTo_length (elB xs) k v)
  have HOK := Hid2.mk (fun {k v} => @txTo_ok (elB xs) k v)
  have HEV := Hid2.mk (txTo_succ (elB xs))
  have HE0 := Hid2.mk (show stkS (txTo (elB xs) 0) = [] from rfl)
  have HEB := Hid2.mk (show txB (elB xs) xs.length = (txTo (elB xs) xs.length).headD [] from rfl)
  have he1 := enters_of (P := Tryz.prog) (f := 104) (by exact Tryz.func104) (by kernel_rfl) rfl
  have he2 := enters_of (P := Tryz.prog) (f := 105) (by exact Tryz.func105) (by kernel_rfl) rfl
  generalize txB (elB xs) xs.length = res at HEB ⊢
  generalize txTo (elB xs) = ev at HLE HOK HEV HE0 HEB
  clear hr hT
  go_enter Tryz.func103, Tryz.ntmps103
  go_wp2_with (first | ((with_reducible apply wpM_bsl' M 22 0 9 ([]) (#[])); rfl; rfl; rfl; exact bsl_s0; clear M; (try clear C); intro bo w9 h_bo M; have C := M.ruleAll; simp only [Go.Proofs.YtocejggobgfccaaGreatDoor.ruleAll] at C))
  have M9 := M.asRow 0 rfl w.heap.size 0 1 h_bo rfl (Nat.zero_le _)
  clear M; (try clear C)
  have M : Mm no w w9 [.row w.heap.size (.slice (some ⟨bo, 0, none⟩) 0 0) 0 [] 9 1] := M9
  clear M9
  have C := M.ruleAll; simp only [Go.Proofs.YtocejggobgfccaaGreatDoor.ruleAll] at C
  go_wp2
  go_loopw [14, 7, 9, 10] (fun i v _ _ wr => ∃ k u : Nat, k ≤ xs.length ∧ i = .int .i64 (k : Int) ∧ tmTo (elB xs) k = some u ∧ ∃ g cv, v = .slice (some ⟨g, 0, none⟩) u cv ∧ Mm no w wr [.row w.heap.size (.slice (some ⟨g, 0, none⟩) u cv) u (stkS (ev k)) 9 1]) (fun i _ _ _ _ => xs.length - (intOf i).toNat)
  case atStart => exact ⟨0, 0, by omega, rfl, rfl, bo, 0, rfl, by rw [HE0.out]; exact M⟩
  case round =>
    obtain ⟨k, u, hk, rfl, ht, g, cv, rfl, M9⟩ := hrel
    clear M; (try clear C)
    have M := M9
    clear M9
    have C := M.ruleAll; simp only [Go.Proofs.YtocejggobgfccaaGreatDoor.ruleAll] at C
    have hu := tmTo_le ht
    have HT := Hid2.mk ht
    have hlen := HLE.out ht
    have hok := HOK.out ht
    clear ht
    obtain ⟨hcv, hcm⟩ := own_cap (M.row 0 rfl)
    by_cases hlt : k < xs.length
    · have hlt' : (k : Int) < (xs.length : Int) := by omega
      obtain ⟨gx, rfl, hrr⟩ := F1.out _ M.below (by omega)
      have hcx : ∀ w1, Below w.heap.size w w1 → w1.cell? ⟨gx, k, none⟩ = some (.int .u8 (elB xs k : Nat)) := fun w1 hb => by
        obtain ⟨g', e, hr⟩ := F1.out w1 hb (by omega)
        cases e
        exact hr.at_ k hlt
      clear hrr
      have hst := HEV.out k
      have hc0 := hcx _ M.below
      rcases tm_byte HTM.out hlt HT.out with ⟨hl, hnx⟩ | ⟨hl, ho, h2, hnx⟩
      · rw [txStep_leaf hl] at hst
        have HST := Hid2.mk hst
        have HNX := Hid2.mk hnx
        have HL := fun w1 => isLeaf_b (elB xs k) true hl w1
        have H1 := fun w1 => tx1_any (elB xs k) hl w1
        generalize elB xs k = b at hc0 HST HL H1
        generalize hsb : str [b] = sb at H1
        have HSB := Hid2.mk hsb
        clear hl hst hnx hcx hsb hlen hok
        go_wp2_with (first | (go_at_call 102; ((with_reducible refine (HL _).mono ?_); rintro e w1 ⟨rfl, rfl⟩)) | (go_at_call 104; ((with_reducible refine (H1 _).mono ?_); rintro e w1 ⟨rfl, rfl⟩)) | ((with_reducible apply wpM_bsl' M 22 1 9 ([(0, .string sb)]) (#[.string sb])); rfl; rfl; rfl; exact bsl_s1 _; clear M; (try clear C); intro bi w9 h_bi M; have C := M.ruleAll; simp only [Go.Proofs.YtocejggobgfccaaGreatDoor.ruleAll] at C) | ((with_reducible apply wpM_app' M 22 1 0 (w.heap.size) (.slice (some ⟨g, 0, none⟩) u cv) (u) (stkS (ev k)) 9 1 16); rfl; rfl; rfl; rfl; rfl; rfl; rfl; (first | exact .inl (Nat.le_refl _) | exact .inl (by assumption) | exact .inr (by assumption) | exact .inr HDv.out); (first | exact M.size | (have hq := M.size; omega)); exact und_sls; exact inf_els; rfl; decide; decide; rfl; exact rfl; exact flat_s1 _; omega; clear M; (try clear C); intro v2 w9 far_v2 M; simp only [List.set_cons_zero, List.set_cons_succ, entBlk, entT, List.getElem?_cons_zero, List.getElem?_cons_succ] at M; obtain ⟨pp_v2, cap_v2, rfl⟩ := own_form (M.row 1 rfl); have C := M.ruleAll; simp only [Go.Proofs.YtocejggobgfccaaGreatDoor.ruleAll] at C))
        obtain ⟨go, cq, he9, _, _, _⟩ := own_rds (M.row 1 rfl) (by omega)
        cases he9
        go_roundw
        case rel => exact ⟨k + 1, u + 1, by omega, by go_num, HNX.out, go, _, rfl, by rw [HST.out, stkS_push, HSB.out]; exact M.drop 0⟩
        case measure => simp [intOf]; omega
      · obtain ⟨m, hm⟩ : ∃ m, u = m + 2 := ⟨u - 2, by omega⟩
        obtain ⟨c, a, r, hr⟩ : ∃ c a r, ev k = c :: a :: r := by
          revert hlen
          rcases ev k with _ | ⟨c, _ | ⟨a, r⟩⟩
          · intro h; simp at h; omega
          · intro h; simp at h; omega
          · intro _; exact ⟨c, a, r, rfl⟩
        have hrl : r.length = m := by rw [hr] at hlen; simp at hlen; omega
        have hla : a.length ≤ 10000 := by have := mem_sumL (st := ev k) (s := a) (by rw [hr]; simp); have := hok.1; omega
        have hlc : c.length ≤ 10000 := by have := mem_sumL (st := ev k) (s := c) (by rw [hr]; simp); have := hok.1; omega
        have hcut : (stkS (ev k)).take m = stkS r := by rw [hr, ← hrl]; exact stkS_cut c a r
        have HC := Hid2.mk (show ∀ w2, Mm no w w2 [.row w.heap.size (.slice (some ⟨g, 0, none⟩) u cv) u (stkS (ev k)) 9 1] → w2.cell? ⟨g, m, none⟩ = some (.string (str a)) ∧ w2.cell? ⟨g, m + 1, none⟩ = some (.string (str c)) from fun w2 M => by
          have hown := M.row 0 rfl
          rw [hr] at hown
          have h1 := stkS_at1 c a r
          have h2 := stkS_at2 c a r
          rw [hrl] at h1 h2
          exact ⟨(World.ownsRow.cellAt hown m (by omega)).trans h1, (World.ownsRow.cellAt hown (m + 1) (by omega)).trans h2⟩)
        rw [hr, txStep_op hl] at hst
        have HST := Hid2.mk hst
        have HNX := Hid2.mk (show tmTo (elB xs) (k + 1) = some (m + 1) by rw [hnx]; congr 1; omega)
        have HL := fun w1 => isLeaf_b (elB xs k) false hl w1
        have H2 := Hid2.mk (fun w1 => tx2_any (elB xs k) ho a c hla hlc w1)
        have HCUT := Hid2.mk hcut
        have hu1 : (u : Int) - 1 = (m : Int) + 1 := by omega
        have hu2 : (u : Int) - 2 = (m : Int) := by omega
        have hmu : (m : Int) < (u : Int) := by omega
        have hmu1 : (m : Int) + 1 < (u : Int) := by omega
        have hmc : (m : Int) ≤ (cv : Int) := by omega
        have hm40 : (m : Int) + 1 < 40 := by omega
        have hmle : m ≤ u := by omega
        generalize elB xs k = b at hc0 HL H2 HST
        generalize hs3 : str (parT a ++ [b] ++ parT c) = s3 at H2
        have HS3 := Hid2.mk hs3
        clear hl ho h2 hst hnx hr hrl hcut hcx hm hlen hok hs3 hla hlc
        go_wp2_with (first | (go_at_call 102; ((with_reducible refine (HL _).mono ?_); rintro e w1 ⟨rfl, rfl⟩)))
        apply wp_region_mmb M [0, 1, 2, 3, 4, 5, 6, 7, 8, 9, 10, 11, 12, 13, 14] 15 16 _ 22 1 9 ([(0, .string s3)]) (#[.string s3]) (by kernel_rfl) (by kernel_rfl) rfl rfl rfl
        case ht => (repeat (first | exact wpTextG_nil | (apply wpTextG_cons; (intro g9 w2 hG; obtain ⟨Lg9, hSt9, G⟩ := hG; have M := G.suffix; have C := M.ruleAll; simp only [Go.Proofs.YtocejggobgfccaaGreatDoor.ruleAll] at C; have hd1 := (HC.out _ M).1; have hd2 := (HC.out _ M).2; go_wp2_with (first | (go_at_call 105; ((with_reducible refine (H2.out _).mono ?_); rintro e w1 ⟨rfl, rfl⟩))); exact ⟨rfl, rfl, Lg9, hSt9, G⟩); rfl)))
        rfl
        exact bsl_s1 _
        clear M; (try clear C)
        intro bi w2 h_bi M
        simp only [List.drop_succ_cons, List.drop_zero]
        have M7 := M.cutRow 1 rfl hmle
        simp only [List.set_cons_zero, List.set_cons_succ] at M7
        rw [HCUT.out] at M7
        clear M
        have M := M7
        clear M7
        have C := M.ruleAll; simp only [Go.Proofs.YtocejggobgfccaaGreatDoor.ruleAll] at C
        go_wp2_with (first | ((with_reducible apply wpM_app' M 22 1 0 (w.heap.size) (.slice (some ⟨g, 0, none⟩) m cv) (m) (stkS r) 9 1 16); rfl; rfl; rfl; rfl; rfl; rfl; rfl; (first | exact .inl (Nat.le_refl _) | exact .inl (by assumption) | exact .inr (by assumption) | exact .inr HDv.out); (first | exact M.size | (have hq := M.size; omega)); exact und_sls; exact inf_els; rfl; decide; decide; rfl; exact rfl; exact flat_s1 _; omega; clear M; (try clear C); intro v2 w9 far_v2 M; simp only [List.set_cons_zero, List.set_cons_succ, entBlk, entT, List.getElem?_cons_zero, List.getElem?_cons_succ] at M; obtain ⟨pp_v2, cap_v2, rfl⟩ := own_form (M.row 1 rfl); have C := M.ruleAll; simp only [Go.Proofs.YtocejggobgfccaaGreatDoor.ruleAll] at C))
        obtain ⟨go, cq, he9, _, _, _⟩ := own_rds (M.row 1 rfl) (by omega)
        cases he9
        go_roundw
        case rel => exact ⟨k + 1, m + 1, by omega, by go_num, HNX.out, go, _, rfl, by rw [HST.out, stkS_push, HS3.out]; exact M.drop 0⟩
        case measure => simp [intOf]; omega
    · obtain rfl : k = xs.length := by omega
      have hge : ¬ ((xs.length : Int) < (xs.length : Int)) := by omega
      obtain rfl : u = 1 := by
        have h1 := (isTm_iff.1 HTM.out).1.symm.trans HT.out
        cases h1; rfl
      obtain ⟨v, hv⟩ : ∃ v, ev xs.length = [v] := List.length_eq_one_iff.1 hlen
      have hown := M.row 0 rfl
      rw [hv] at hown HEB
      have e1 : wr.cell? ⟨g, 0, none⟩ = some (.string (str v)) := World.ownsRow.cellAt hown 0 (by omega)
      have hres : res = v := HEB.out
      subst hres
      clear hlen hv hown hok
      go_wp2
      go_ret
      exact ⟨rfl, M.below⟩
end Go.Proofs.YtocejggobgfccaaGreatDoor

/- The text of a term for the reference, the text of an identity on both sides: contracts. -/
namespace Go.Proofs.YtocejggobgfccaaGreatDoor
set_option linter.unusedSimpArgs false
set_option linter.unusedVariables false
open Go Go.RowKit

theorem txB_ok {xs : List Nat} (hT : isTm (elB xs) xs.length = true) : (txB (elB xs) xs.length).length ≤ 200 ∧ Byts (txB (elB xs) xs.length) := by
  obtain ⟨h1, h2⟩ := isTm_iff.1 hT
  obtain ⟨o1, o2⟩ := txTo_ok h1
  obtain ⟨v, hv⟩ : ∃ v, txTo (elB xs) xs.length = [v] := List.length_eq_one_iff.1 (txTo_length h1)
  have hb : txB (elB xs) xs.length = v := by unfold txB; rw [hv]; rfl
  rw [hb]
  rw [hv] at o1 o2
  exact ⟨by have := mem_sumL (st := [v]) (s := v) (by simp); omega, (o2 v (by simp)).2⟩

set_option maxRecDepth 100000 in
theorem termText_any (xs : List Nat) (hT : isTm (elB xs) xs.length = true) (w : World) (p : Option Addr) (cap : Nat) (hr : rdq w p xs.length (bytF xs)) :
    Calls Tryz.prog 99 #[.slice p xs.length cap] w fun e w' => e = .returned (.string (str (txB (elB xs) xs.length))) ∧ Below w.heap.size w w' := by
  have M := Mm.start no w
  have H := folded_any xs hT w p cap hr
  generalize str (txB (elB xs) xs.length) = s at *
  clear hT hr
  go_enter Tryz.func99, Tryz.ntmps99
  go_wp2_with (first | (go_at_call 103; ((with_reducible refine (H).mono ?_); rintro e w1 ⟨rfl, hb⟩; have hsz := M.size; (try (have G9 := G.later hb; clear G; have G := G9; clear G9)); have M9 := M.later hb; clear M; (try clear C); have M := M9; clear M9; have C := M.ruleAll; simp only [Go.Proofs.YtocejggobgfccaaGreatDoor.ruleAll] at C)))
  go_ret
  exact ⟨rfl, M.below⟩

theorem tm_lt {f : Nat → Nat} {n k u : Nat} (h : isTm f n = true) (hk : k < n) (hu : tmTo f k = some u) : f k < 256 := by
  rcases tm_byte h hk hu with ⟨hl, _⟩ | ⟨_, ho, _, _⟩
  · have := leaf_cases hl; omega
  · have := op_cases ho; omega

/-- One byte in a new slice, and its text. -/
def StCv (w0 : World) (b : Int) (s : ByteArray) : List Value → List Ent → Prop
  | [], Lg => Lg = []
  | [v], Lg => ∃ bi, v = .slice (some ⟨bi, 0, none⟩) 1 1 ∧ w0.heap.size ≤ bi ∧ Lg = [.box bi #[.int .u8 b] 5]
  | _ :: u :: _, Lg => u = .string s ∧ ∃ bi, Lg = [.box bi #[.int .u8 b] 5]
set_option maxRecDepth 100000 in
set_option maxHeartbeats 4000000 in
theorem l03Text_any (xs : List Nat) (hT : isTm (elB xs) xs.length = true) (w : World) (p : Option Addr) (cap : Nat) (hr : rdq w p xs.length (bytF xs)) :
    Calls Tryz.prog 73 #[.slice p xs.length cap] w fun e w' => e = .returned (.string (str (txB (elB xs) xs.length))) ∧ Below w.heap.size w w' := by
  have M := Mm.start no w
  have F1 := Hid2.mk (fun w1 (hb : Below w.heap.size w w1) => hr.later hb)
  have h40 : xs.length ≤ 40 := (isTm_iff.1 hT).2
  have HTM := Hid2.mk hT
  have HLE := Hid2.mk (fun {k v} => @txTo_length (elB xs) k v)
  have HOK := Hid2.mk (fun {k v} => @txTo_ok (elB xs) k v)
  have HEV := Hid2.mk (txTo_succ (elB xs))
  have HE0 := Hid2.mk (show stkS (txTo (elB xs) 0) = [] from rfl)
  have HEB := Hid2.mk (show txB (elB xs) xs.length = (txTo (elB xs) xs.length).headD [] from rfl)
  generalize txB (elB xs) xs.length = res at HEB ⊢
  generalize txTo (elB xs) = ev at HLE HOK HEV HE0 HEB
  clear hr hT
  go_enter Tryz.func73, Tryz.ntmps73
  go_wp2_with (first | ((with_reducible apply wpM_bsl' M 22 0 9 ([]) (#[])); rfl; rfl; rfl; exact bsl_s0; clear M; (try clear C); intro bo w9 h_bo M; have C := M.ruleAll; simp only [Go.Proofs.YtocejggobgfccaaGreatDoor.ruleAll] at C))
  have M9 := M.asRow 0 rfl w.heap.size 0 1 h_bo rfl (Nat.zero_le _)
  clear M; (try clear C)
  have M : Mm no w w9 [.row w.heap.size (.slice (some ⟨bo, 0, none⟩) 0 0) 0 [] 9 1] := M9
  clear M9
  have C := M.ruleAll; simp only [Go.Proofs.YtocejggobgfccaaGreatDoor.ruleAll] at C
  go_wp2
  go_loopw [4, 3, 5, 6, 7] (fun i v _ _ _ wr => ∃ k u : Nat, k ≤ xs.length ∧ i = .int .i64 (k : Int) ∧ tmTo (elB xs) k = some u ∧ ∃ g cv, v = .slice (some ⟨g, 0, none⟩) u cv ∧ Mm no w wr [.row w.heap.size (.slice (some ⟨g, 0, none⟩) u cv) u (stkS (ev k)) 9 1]) (fun i _ _ _ _ _ => xs.length - (intOf i).toNat)
  case atStart => exact ⟨0, 0, by omega, rfl, rfl, bo, 0, rfl, by rw [HE0.out]; exact M⟩
  case round =>
    obtain ⟨k, u, hk, rfl, ht, g, cv, rfl, M9⟩ := hrel
    clear M; (try clear C)
    have M := M9
    clear M9
    have C := M.ruleAll; simp only [Go.Proofs.YtocejggobgfccaaGreatDoor.ruleAll] at C
    have hu := tmTo_le ht
    have HT := Hid2.mk ht
    have hlen := HLE.out ht
    have hok := HOK.out ht
    clear ht
    obtain ⟨hcv, hcm⟩ := own_cap (M.row 0 rfl)
    by_cases hlt : k < xs.length
    · have hlt' : (k : Int) < (xs.length : Int) := by omega
      obtain ⟨gx, rfl, hrr⟩ := F1.out _ M.below (by omega)
      have HCX := Hid2.mk (show ∀ w1, Below w.heap.size w w1 → w1.cell? ⟨gx, k, none⟩ = some (.int .u8 (elB xs k : Nat)) from fun w1 hb => by
        obtain ⟨g', e, hr⟩ := F1.out w1 hb (by omega)
        cases e
        exact hr.at_ k hlt)
      clear hrr
      have hst := HEV.out k
      have hc0 := HCX.out _ M.below
      have HV := Hid2.mk (fun w1 g2 cap2 h => @conv_str w1 (elB xs k) g2 cap2 (tm_lt HTM.out hlt HT.out) h)
      generalize hsb : str [elB xs k] = sb at HV
      rcases tm_byte HTM.out hlt HT.out with ⟨hl, hnx⟩ | ⟨hl, ho, h2, hnx⟩
      · rw [txStep_leaf hl] at hst
        have HST := Hid2.mk hst
        have HNX := Hid2.mk hnx
        have hop : isOpB (elB xs k) = false := by rcases leaf_cases hl with h | h | h | h <;> rw [h] <;> rfl
        have HL := fun w1 => l03Op_b (elB xs k) false hop w1
        generalize elB xs k = b at HCX hc0 HST HL HV hsb
        have HSB := Hid2.mk hsb
        clear hl hst hnx hsb hlen hok hop
        go_wp2
        apply wp_region_mmf2 M [0, 1, 2, 3, 4, 5, 8] 6 7 9 _ _ (StCv w b sb) (by kernel_rfl) (by kernel_rfl) rfl rfl rfl rfl rfl
        case ht => (repeat (first | exact wpTextG_nil | (apply wpTextG_cons; (intro g9 w2 hG; obtain ⟨Lg9, hSt9, G⟩ := hG; have M := G.suffix; have hc0 := HCX.out _ M.below; go_wp2; exact ⟨rfl, rfl, Lg9, hSt9, G⟩); rfl)))
        case hA =>
          intro Lg w2 h M
          obtain rfl : Lg = [] := h
          refine yield_walk (ops := #[]) rfl rfl (by simp [Act.put]) ?_
          simp only [List.nil_append] at M
          go_wp2_with (first | ((with_reducible apply wpM_bsl' M 41 1 5 ([(0, .int .u8 (b : Int))]) (#[.int .u8 (b : Int)])); rfl; rfl; rfl; exact bsl_u81 _; clear M; (try clear C); intro bi w9 h_bi M; have C := M.ruleAll; simp only [Go.Proofs.YtocejggobgfccaaGreatDoor.ruleAll] at C))
          exact ⟨_, ⟨bi, rfl, by assumption, rfl⟩, M⟩
        case hA2 =>
          intro v Lg w2 h M
          obtain ⟨bi, rfl, hbi, rfl⟩ := h
          refine yield_walk (ops := #[]) rfl rfl (by simp [Act.put]) ?_
          have hv2 := HV.out w2 bi 1 ((M.box 0 rfl).cell _ _ rfl)
          go_wp2
          exact ⟨_, ⟨rfl, bi, rfl⟩, M⟩
        clear M; (try clear C)
        clear hc0
        intro v u2 Lg w2 h M
        obtain ⟨rfl, bi, rfl⟩ := h
        simp only [List.drop_succ_cons, List.drop_zero]
        have M9 := M.drop 0
        simp only [List.cons_append, List.nil_append, List.eraseIdx_cons_zero] at M9
        clear M
        have M := M9
        clear M9
        have C := M.ruleAll; simp only [Go.Proofs.YtocejggobgfccaaGreatDoor.ruleAll] at C
        have hc0 := HCX.out _ M.below
        go_wp2_with (first | (go_at_call 71; ((with_reducible refine (HL _).mono ?_); rintro e w1 ⟨rfl, rfl⟩)) | ((with_reducible apply wpM_bsl' M 22 1 9 ([(0, .string sb)]) (#[.string sb])); rfl; rfl; rfl; exact bsl_s1 _; clear M; (try clear C); intro bs w9 h_bs M; have C := M.ruleAll; simp only [Go.Proofs.YtocejggobgfccaaGreatDoor.ruleAll] at C) | ((with_reducible apply wpM_app' M 22 1 0 (w.heap.size) (.slice (some ⟨g, 0, none⟩) u cv) (u) (stkS (ev k)) 9 1 16); rfl; rfl; rfl; rfl; rfl; rfl; rfl; (first | exact .inl (Nat.le_refl _) | exact .inl (by assumption) | exact .inr (by assumption) | exact .inr HDv.out); (first | exact M.size | (have hq := M.size; omega)); exact und_sls; exact inf_els; rfl; decide; decide; rfl; exact rfl; exact flat_s1 _; omega; clear M; (try clear C); intro v2 w9 far_v2 M; simp only [List.set_cons_zero, List.set_cons_succ, entBlk, entT, List.getElem?_cons_zero, List.getElem?_cons_succ] at M; obtain ⟨pp_v2, cap_v2, rfl⟩ := own_form (M.row 1 rfl); have C := M.ruleAll; simp only [Go.Proofs.YtocejggobgfccaaGreatDoor.ruleAll] at C))
        obtain ⟨go, cq, he9, _, _, _⟩ := own_rds (M.row 1 rfl) (by omega)
        cases he9
        go_roundw
        case rel => exact ⟨k + 1, u + 1, by omega, by go_num, HNX.out, go, _, rfl, by rw [HST.out, stkS_push, HSB.out]; exact M.drop 0⟩
        case measure => simp [intOf]; omega
      · obtain ⟨m, hm⟩ : ∃ m, u = m + 2 := ⟨u - 2, by omega⟩
        obtain ⟨c, a, r, hr⟩ : ∃ c a r, ev k = c :: a :: r := by
          revert hlen
          rcases ev k with _ | ⟨c, _ | ⟨a, r⟩⟩
          · intro h; simp at h; omega
          · intro h; simp at h; omega
          · intro _; exact ⟨c, a, r, rfl⟩
        have hrl : r.length = m := by rw [hr] at hlen; simp at hlen; omega
        have hla : a.length ≤ 10000 := by have := mem_sumL (st := ev k) (s := a) (by rw [hr]; simp); have := hok.1; omega
        have hlc : c.length ≤ 10000 := by have := mem_sumL (st := ev k) (s := c) (by rw [hr]; simp); have := hok.1; omega
        have hla1 := (hok.2 a (by rw [hr]; simp)).1
        have hlc1 := (hok.2 c (by rw [hr]; simp)).1
        have hcut : (stkS (ev k)).take m = stkS r := by rw [hr, ← hrl]; exact stkS_cut c a r
        have HC := Hid2.mk (show ∀ w2, Mm no w w2 [.row w.heap.size (.slice (some ⟨g, 0, none⟩) u cv) u (stkS (ev k)) 9 1] → w2.cell? ⟨g, m, none⟩ = some (.string (str a)) ∧ w2.cell? ⟨g, m + 1, none⟩ = some (.string (str c)) from fun w2 M => by
          have hown := M.row 0 rfl
          rw [hr] at hown
          have h1 := stkS_at1 c a r
          have h2 := stkS_at2 c a r
          rw [hrl] at h1 h2
          exact ⟨(World.ownsRow.cellAt hown m (by omega)).trans h1, (World.ownsRow.cellAt hown (m + 1) (by omega)).trans h2⟩)
        rw [hr, txStep_op hl] at hst
        have HST := Hid2.mk hst
        have HNX := Hid2.mk (show tmTo (elB xs) (k + 1) = some (m + 1) by rw [hnx]; congr 1; omega)
        have HL := fun w1 => l03Op_b (elB xs k) true ho w1
        have P1 := fun w1 => specPart_any a hla1 hla w1
        have P2 := fun w1 => specPart_any c hlc1 hlc w1
        have pa := parT_len a
        have pc := parT_len c
        have a1 := add_str (parT a) [elB xs k] (by simp only [List.length_singleton]; omega)
        have a2 := add_str (parT a ++ [elB xs k]) (parT c) (by simp only [List.length_append, List.length_singleton]; omega)
        rw [hsb] at a1
        have HCUT := Hid2.mk hcut
        have hu1 : (u : Int) - 1 = (m : Int) + 1 := by omega
        have hu2 : (u : Int) - 2 = (m : Int) := by omega
        have hmu : (m : Int) < (u : Int) := by omega
        have hmu1 : (m : Int) + 1 < (u : Int) := by omega
        have hmc : (m : Int) ≤ (cv : Int) := by omega
        have hm40 : (m : Int) + 1 < 40 := by omega
        have hmle : m ≤ u := by omega
        generalize elB xs k = b at HCX hc0 HL HST HV hsb a1 a2
        have HSB := Hid2.mk hsb
        generalize hs3 : str (parT a ++ [b] ++ parT c) = s3 at a2
        have HS3 := Hid2.mk hs3
        generalize str (parT a ++ [b]) = s2 at a1 a2
        generalize str (parT a) = s1 at a1 P1
        generalize str (parT c) = s4 at a2 P2
        clear hl ho h2 hst hnx hr hrl hcut hm hlen hok hs3 hla hlc hla1 hlc1 pa pc hsb
        go_wp2
        apply wp_region_mmf2 M [0, 1, 2, 3, 4, 5, 8] 6 7 9 _ _ (StCv w b sb) (by kernel_rfl) (by kernel_rfl) rfl rfl rfl rfl rfl
        case ht => (repeat (first | exact wpTextG_nil | (apply wpTextG_cons; (intro g9 w2 hG; obtain ⟨Lg9, hSt9, G⟩ := hG; have M := G.suffix; have hc0 := HCX.out _ M.below; go_wp2; exact ⟨rfl, rfl, Lg9, hSt9, G⟩); rfl)))
        case hA =>
          intro Lg w2 h M
          obtain rfl : Lg = [] := h
          refine yield_walk (ops := #[]) rfl rfl (by simp [Act.put]) ?_
          simp only [List.nil_append] at M
          go_wp2_with (first | ((with_reducible apply wpM_bsl' M 41 1 5 ([(0, .int .u8 (b : Int))]) (#[.int .u8 (b : Int)])); rfl; rfl; rfl; exact bsl_u81 _; clear M; (try clear C); intro bi w9 h_bi M; have C := M.ruleAll; simp only [Go.Proofs.YtocejggobgfccaaGreatDoor.ruleAll] at C))
          exact ⟨_, ⟨bi, rfl, by assumption, rfl⟩, M⟩
        case hA2 =>
          intro v Lg w2 h M
          obtain ⟨bi, rfl, hbi, rfl⟩ := h
          refine yield_walk (ops := #[]) rfl rfl (by simp [Act.put]) ?_
          have hv2 := HV.out w2 bi 1 ((M.box 0 rfl).cell _ _ rfl)
          go_wp2
          exact ⟨_, ⟨rfl, bi, rfl⟩, M⟩
        clear M; (try clear C)
        clear hc0
        intro v u2 Lg w2 h M
        obtain ⟨rfl, bi, rfl⟩ := h
        simp only [List.drop_succ_cons, List.drop_zero]
        have M9 := M.drop 0
        simp only [List.cons_append, List.nil_append, List.eraseIdx_cons_zero] at M9
        clear M
        have M := M9
        clear M9
        have C := M.ruleAll; simp only [Go.Proofs.YtocejggobgfccaaGreatDoor.ruleAll] at C
        have hc0 := HCX.out _ M.below
        go_wp2_with (first | (go_at_call 71; ((with_reducible refine (HL _).mono ?_); rintro e w1 ⟨rfl, rfl⟩)))
        apply wp_region_mm M 15 (by kernel_rfl) (by kernel_rfl)
        · simp only [List.take_succ_cons, List.take_zero]
          repeat (first | exact wpText_nil | (apply wpText_cons; (intro w2 M; have C := M.ruleAll; simp only [Go.Proofs.YtocejggobgfccaaGreatDoor.ruleAll] at C; have hd1 := (HC.out _ M).1; have hd2 := (HC.out _ M).2; go_wp2_with (first | (go_at_call 90; ((with_reducible refine (P1 _).mono ?_); rintro e w1 ⟨rfl, rfl⟩)) | (go_at_call 90; ((with_reducible refine (P2 _).mono ?_); rintro e w1 ⟨rfl, rfl⟩))); exact ⟨rfl, rfl, M⟩); rfl))
        clear M; (try clear C)
        intro w2 M
        simp only [List.drop_succ_cons, List.drop_zero]
        have M7 := M.cutRow 0 rfl hmle
        simp only [List.set_cons_zero] at M7
        rw [HCUT.out] at M7
        clear M
        have M := M7
        clear M7
        have C := M.ruleAll; simp only [Go.Proofs.YtocejggobgfccaaGreatDoor.ruleAll] at C
        go_wp2_with (first | ((with_reducible apply wpM_bsl' M 22 1 9 ([(0, .string s3)]) (#[.string s3])); rfl; rfl; rfl; exact bsl_s1 _; clear M; (try clear C); intro bs w9 h_bs M; have C := M.ruleAll; simp only [Go.Proofs.YtocejggobgfccaaGreatDoor.ruleAll] at C) | ((with_reducible apply wpM_app' M 22 1 0 (w.heap.size) (.slice (some ⟨g, 0, none⟩) m cv) (m) (stkS r) 9 1 16); rfl; rfl; rfl; rfl; rfl; rfl; rfl; (first | exact .inl (Nat.le_refl _) | exact .inl (by assumption) | exact .inr (by assumption) | exact .inr HDv.out); (first | exact M.size | (have hq := M.size; omega)); exact und_sls; exact inf_els; rfl; decide; decide; rfl; exact rfl; exact flat_s1 _; omega; clear M; (try clear C); intro v2 w9 far_v2 M; simp only [List.set_cons_zero, List.set_cons_succ, entBlk, entT, List.getElem?_cons_zero, List.getElem?_cons_succ] at M; obtain ⟨pp_v2, cap_v2, rfl⟩ := own_form (M.row 1 rfl); have C := M.ruleAll; simp only [Go.Proofs.YtocejggobgfccaaGreatDoor.ruleAll] at C))
        obtain ⟨go, cq, he9, _, _, _⟩ := own_rds (M.row 1 rfl) (by omega)
        cases he9
        go_roundw
        case rel => exact ⟨k + 1, m + 1, by omega, by go_num, HNX.out, go, _, rfl, by rw [HST.out, stkS_push, HS3.out]; exact M.drop 0⟩
        case measure => simp [intOf]; omega
    · obtain rfl : k = xs.length := by omega
      have hge : ¬ ((xs.length : Int) < (xs.length : Int)) := by omega
      obtain rfl : u = 1 := by
        have h1 := (isTm_iff.1 HTM.out).1.symm.trans HT.out
        cases h1; rfl
      obtain ⟨v, hv⟩ : ∃ v, ev xs.length = [v] := List.length_eq_one_iff.1 hlen
      have hown := M.row 0 rfl
      rw [hv] at hown HEB
      have e1 : wr.cell? ⟨g, 0, none⟩ = some (.string (str v)) := World.ownsRow.cellAt hown 0 (by omega)
      have hres : res = v := HEB.out
      subst hres
      clear hlen hv hown hok
      go_wp2
      go_ret
      exact ⟨rfl, M.below⟩

/-- The text of an identity. -/
def idT (xs ys : List Nat) : List Nat := txB (elB xs) xs.length ++ [61] ++ txB (elB ys) ys.length
set_option maxRecDepth 100000 in
set_option maxHeartbeats 1000000 in
theorem identityText_any (xs ys : List Nat) (hX : isTm (elB xs) xs.length = true) (hY : isTm (elB ys) ys.length = true) (w : World) (p1 p2 : Option Addr) (c1 c2 : Nat) (r1 : rdq w p1 xs.length (bytF xs)) (r2 : rdq w p2 ys.length (bytF ys)) :
    Calls Tryz.prog 85 #[.agg (idV p1 c1 p2 c2 xs.length ys.length)] w fun e w' => e = .returned (.string (str (idT xs ys))) ∧ Below w.heap.size w w' := by
  have M := Mm.start no w
  have hI1 := idv_0 p1 c1 p2 c2 xs.length ys.length
  have hI2 := idv_1 p1 c1 p2 c2 xs.length ys.length
  have H1 := fun w1 (hb : Below w.heap.size w w1) => termText_any xs hX w1 p1 c1 (r1.later hb)
  have H2 := fun w1 (hb : Below w.heap.size w w1) => termText_any ys hY w1 p2 c2 (r2.later hb)
  have t1 := txB_ok hX
  have t2 := txB_ok hY
  have a1 : ∀ w, (Op.stringOp .add (str (txB (elB xs) xs.length)) (⟨#[61]⟩ : ByteArray)).run Tryz.prog w = .ok (.string (str (txB (elB xs) xs.length ++ [61]))) w := add_str _ [61] (by simp only [List.length_singleton]; omega)
  have a2 : ∀ w, (Op.stringOp .add (str (txB (elB xs) xs.length ++ [61])) (str (txB (elB ys) ys.length))).run Tryz.prog w = .ok (.string (str (idT xs ys))) w := add_str _ _ (by simp only [List.length_append, List.length_singleton]; omega)
  generalize str (idT xs ys) = s3 at *
  generalize str (txB (elB xs) xs.length ++ [61]) = s2 at *
  generalize str (txB (elB xs) xs.length) = s1 at *
  generalize str (txB (elB ys) ys.length) = s4 at *
  clear hX hY r1 r2 t1 t2
  go_enter Tryz.func85, Tryz.ntmps85
  go_wp2_with (first | ((with_reducible apply wpM_box' M 43 (idV p1 c1 p2 c2 xs.length ys.length)); rfl; exact ⟨rfl, rfl⟩; clear M; (try clear C); intro bi w9 h_bi M; have C := M.ruleAll; simp only [Go.Proofs.YtocejggobgfccaaGreatDoor.ruleAll] at C))
  apply wp_region_mm M 8 (by kernel_rfl) (by kernel_rfl); (simp only [List.take_succ_cons, List.take_zero]; repeat (first | exact wpText_nil | (apply wpText_cons; (intro w2 M; have C := M.ruleAll; simp only [Go.Proofs.YtocejggobgfccaaGreatDoor.ruleAll] at C; go_wp2_with (first | (go_at_call 99; ((with_reducible refine (H1 _ M.below).mono ?_); rintro e w1 ⟨rfl, hb⟩; have hsz := M.size; (try (have G9 := G.later hb; clear G; have G := G9; clear G9)); have M9 := M.later hb; clear M; (try clear C); have M := M9; clear M9; have C := M.ruleAll; simp only [Go.Proofs.YtocejggobgfccaaGreatDoor.ruleAll] at C)) | (go_at_call 99; ((with_reducible refine (H2 _ M.below).mono ?_); rintro e w1 ⟨rfl, hb⟩; have hsz := M.size; (try (have G9 := G.later hb; clear G; have G := G9; clear G9)); have M9 := M.later hb; clear M; (try clear C); have M := M9; clear M9; have C := M.ruleAll; simp only [Go.Proofs.YtocejggobgfccaaGreatDoor.ruleAll] at C))); exact ⟨rfl, rfl, M⟩); rfl))); (clear M; (try clear C); intro w2 M; simp only [List.drop_succ_cons, List.drop_zero]; have C := M.ruleAll; simp only [Go.Proofs.YtocejggobgfccaaGreatDoor.ruleAll] at C)
  go_wp2
  go_ret
  exact ⟨rfl, M.below⟩
set_option maxRecDepth 100000 in
set_option maxHeartbeats 1000000 in
theorem l03Shown_any (xs ys : List Nat) (hX : isTm (elB xs) xs.length = true) (hY : isTm (elB ys) ys.length = true) (w : World) (p1 p2 : Option Addr) (c1 c2 : Nat) (r1 : rdq w p1 xs.length (bytF xs)) (r2 : rdq w p2 ys.length (bytF ys)) :
    Calls Tryz.prog 51 #[.agg (idV p1 c1 p2 c2 xs.length ys.length)] w fun e w' => e = .returned (.string (str (idT xs ys))) ∧ Below w.heap.size w w' := by
  have M := Mm.start no w
  have hI1 := idv_0 p1 c1 p2 c2 xs.length ys.length
  have hI2 := idv_1 p1 c1 p2 c2 xs.length ys.length
  have H1 := fun w1 (hb : Below w.heap.size w w1) => l03Text_any xs hX w1 p1 c1 (r1.later hb)
  have H2 := fun w1 (hb : Below w.heap.size w w1) => l03Text_any ys hY w1 p2 c2 (r2.later hb)
  have t1 := txB_ok hX
  have t2 := txB_ok hY
  have a1 : ∀ w, (Op.stringOp .add (str (txB (elB xs) xs.length)) (⟨#[61]⟩ : ByteArray)).run Tryz.prog w = .ok (.string (str (txB (elB xs) xs.length ++ [61]))) w := add_str _ [61] (by simp only [List.length_singleton]; omega)
  have a2 : ∀ w, (Op.stringOp .add (str (txB (elB xs) xs.length ++ [61])) (str (txB (elB ys) ys.length))).run Tryz.prog w = .ok (.string (str (idT xs ys))) w := add_str _ _ (by simp only [List.length_append, List.length_singleton]; omega)
  generalize str (idT xs ys) = s3 at *
  generalize str (txB (elB xs) xs.length ++ [61]) = s2 at *
  generalize str (txB (elB xs) xs.length) = s1 at *
  generalize str (txB (elB ys) ys.length) = s4 at *
  clear hX hY r1 r2 t1 t2
  go_enter Tryz.func51, Tryz.ntmps51
  go_wp2_with (first | ((with_reducible apply wpM_box' M 43 (idV p1 c1 p2 c2 xs.length ys.length)); rfl; exact ⟨rfl, rfl⟩; clear M; (try clear C); intro bi w9 h_bi M; have C := M.ruleAll; simp only [Go.Proofs.YtocejggobgfccaaGreatDoor.ruleAll] at C))
  apply wp_region_mm M 8 (by kernel_rfl) (by kernel_rfl); (simp only [List.take_succ_cons, List.take_zero]; repeat (first | exact wpText_nil | (apply wpText_cons; (intro w2 M; have C := M.ruleAll; simp only [Go.Proofs.YtocejggobgfccaaGreatDoor.ruleAll] at C; go_wp2_with (first | (go_at_call 73; ((with_reducible refine (H1 _ M.below).mono ?_); rintro e w1 ⟨rfl, hb⟩; have hsz := M.size; (try (have G9 := G.later hb; clear G; have G := G9; clear G9)); have M9 := M.later hb; clear M; (try clear C); have M := M9; clear M9; have C := M.ruleAll; simp only [Go.Proofs.YtocejggobgfccaaGreatDoor.ruleAll] at C)) | (go_at_call 73; ((with_reducible refine (H2 _ M.below).mono ?_); rintro e w1 ⟨rfl, hb⟩; have hsz := M.size; (try (have G9 := G.later hb; clear G; have G := G9; clear G9)); have M9 := M.later hb; clear M; (try clear C); have M := M9; clear M9; have C := M.ruleAll; simp only [Go.Proofs.YtocejggobgfccaaGreatDoor.ruleAll] at C))); exact ⟨rfl, rfl, M⟩); rfl))); (clear M; (try clear C); intro w2 M; simp only [List.drop_succ_cons, List.drop_zero]; have C := M.ruleAll; simp only [Go.Proofs.YtocejggobgfccaaGreatDoor.ruleAll] at C)
  go_wp2
  go_ret
  exact ⟨rfl, M.below⟩
end Go.Proofs.YtocejggobgfccaaGreatDoor

