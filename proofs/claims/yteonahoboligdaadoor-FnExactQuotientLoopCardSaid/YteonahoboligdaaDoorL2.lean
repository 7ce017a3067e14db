/- Quotients and operations of the reference: contracts. -/
import Derived.Test.YteonahoboligdaaDoorB2
import Derived.Test.YteonahoboligdaaDoorK9
import Derived.Test.YteonahoboligdaaDoorC6
namespace Go.Proofs.YteonahoboligdaaDoor
set_option linter.unusedSimpArgs false
set_option linter.unusedVariables false
open Go Go.RowKit

theorem neJ {b : Nat} {c : Nat} (h : b ≠ c) : ((b : Int) == (c : Int)) = false := by simp; omega

set_option maxRecDepth 100000 in
set_option maxHeartbeats 1000000 in
theorem l01Left_any (n : Int) (t : Nat → Nat → Nat) (hs : IsSq n t) (x z : Nat) (hx : (x : Int) < n) (hz : (z : Int) < n) (w : World) :
    Calls Tryd.prog 76 #[.agg (sqs n t), .int .u8 (x : Int), .int .u8 (z : Int)] w fun e w' => e = .returned (.int .u8 (lq t x z : Nat)) ∧ Below w.heap.size w w' := by
  have M := Mm.start no w
  have hn := hs.hi
  obtain ⟨h1, h2, h3⟩ := lq_lt hs hx hz
  have hx10 : x < 10 := by omega
  have hx' : (x : Int) < 10 := by omega
  have H3 := Hid2.mk h3
  have H2 := Hid2.mk h2
  generalize hV : lq t x z = l at h1 H2 H3
  clear h2 h3 hV
  go_enter Tryd.func76, Tryd.ntmps76
  go_wp2_with (first | ((with_reducible apply wpM_box' M 32 (sqs n t)); rfl; exact ⟨rfl, rfl⟩; clear M; (try clear C); intro bq w9 h_bq M; have C := M.ruleAll; simp only [Go.Proofs.YteonahoboligdaaDoor.ruleAll] at C))
  go_loopw [7] (fun i wr => ∃ y : Nat, y ≤ l ∧ i = .int .u8 (y : Int) ∧ Mm no w wr [.box bq (sqs n t) 32]) (fun i _ => l - (intOf i).toNat)
  case atStart => exact ⟨0, by omega, rfl, M⟩
  case round =>
    obtain ⟨y, hy, rfl, M9⟩ := hrel
    clear M; (try clear C)
    have M := M9
    clear M9
    have hy10 : y < 10 := by omega
    have hy' : (y : Int) < 10 := by omega
    have hc := (M.box 0 rfl).cell _ _ (sqs_get (n := n) (t := t) hx10 hy10)
    by_cases e : y = l
    · subst e
      have hd : ((t x y : Int) == (z : Int)) = true := by rw [H2.out]; simp
      generalize t x y = v at hc hd
      go_wp2
      go_ret
      exact ⟨rfl, M.below⟩
    · have hd : ((t x y : Int) == (z : Int)) = false := neJ (H3.out y (by omega))
      generalize t x y = v at hc hd
      go_wp2
      go_roundw
      case rel => exact ⟨y + 1, by omega, by go_num, M⟩
      case measure => simp [intOf]; omega

set_option maxRecDepth 100000 in
set_option maxHeartbeats 1000000 in
theorem l01Right_any (n : Int) (t : Nat → Nat → Nat) (hs : IsSq n t) (z y : Nat) (hz : (z : Int) < n) (hy : (y : Int) < n) (w : World) :
    Calls Tryd.prog 75 #[.agg (sqs n t), .int .u8 (z : Int), .int .u8 (y : Int)] w fun e w' => e = .returned (.int .u8 (lq (fun x y => t y x) y z : Nat)) ∧ Below w.heap.size w w' := by
  have M := Mm.start no w
  have hn := hs.hi
  obtain ⟨h1, h2, h3⟩ := lq_lt hs.turn hy hz
  have hy10 : y < 10 := by omega
  have hy' : (y : Int) < 10 := by omega
  have H3 := Hid2.mk h3
  have H2 := Hid2.mk h2
  generalize hV : lq (fun x y => t y x) y z = l at h1 H2 H3
  clear h2 h3 hV
  go_enter Tryd.func75, Tryd.ntmps75
  go_wp2_with (first | ((with_reducible apply wpM_box' M 32 (sqs n t)); rfl; exact ⟨rfl, rfl⟩; clear M; (try clear C); intro bq w9 h_bq M; have C := M.ruleAll; simp only [Go.Proofs.YteonahoboligdaaDoor.ruleAll] at C))
  go_loopw [7] (fun i wr => ∃ x : Nat, x ≤ l ∧ i = .int .u8 (x : Int) ∧ Mm no w wr [.box bq (sqs n t) 32]) (fun i _ => l - (intOf i).toNat)
  case atStart => exact ⟨0, by omega, rfl, M⟩
  case round =>
    obtain ⟨x, hx, rfl, M9⟩ := hrel
    clear M; (try clear C)
    have M := M9
    clear M9
    have hx10 : x < 10 := by omega
    have hx' : (x : Int) < 10 := by omega
    have hc := (M.box 0 rfl).cell _ _ (sqs_get (n := n) (t := t) hx10 hy10)
    by_cases e : x = l
    · subst e
      have hd : ((t x y : Int) == (z : Int)) = true := by rw [show t x y = z from H2.out]; simp
      generalize t x y = v at hc hd
      go_wp2
      go_ret
      exact ⟨rfl, M.below⟩
    · have hd : ((t x y : Int) == (z : Int)) = false := neJ (H3.out x (by omega))
      generalize t x y = v at hc hd
      go_wp2
      go_roundw
      case rel => exact ⟨x + 1, by omega, by go_num, M⟩
      case measure => simp [intOf]; omega

theorem op_cases {b : Nat} (h : isOpB b = true) : b = 42 ∨ b = 92 ∨ b = 47 := by simp [isOpB] at h; omega

set_option maxRecDepth 100000 in
set_option maxHeartbeats 1000000 in
theorem l03Apply_any (n : Int) (t : Nat → Nat → Nat) (hs : IsSq n t) (b a c : Nat) (hb : isOpB b = true) (ha : (a : Int) < n) (hc : (c : Int) < n) (w : World) :
    Calls Tryd.prog 58 #[.agg (sqs n t), .int .u8 (b : Int), .int .u8 (a : Int), .int .u8 (c : Int)] w fun e w' => e = .returned (.int .u8 (apB t b a c : Nat)) ∧ Below w.heap.size w w' := by
  have M := Mm.start no w
  have hn := hs.hi
  have HL := fun w1 => l01Left_any n t hs a c ha hc w1
  have HR := fun w1 => l01Right_any n t hs a c ha hc w1
  have a10 : a < 10 := by omega
  have c10 : c < 10 := by omega
  have a10' : (a : Int) < 10 := by omega
  have c10' : (c : Int) < 10 := by omega
  have hg := sqs_get (n := n) (t := t) a10 c10
  have HB := op_cases hb
  clear hb
  rcases HB with rfl | rfl | rfl
  · have hA : apB t 42 a c = t a c := rfl
    rw [hA]
    generalize t a c = v at hg
    go_enter Tryd.func58, Tryd.ntmps58
    go_wp2_with (first | ((with_reducible apply wpM_box' M 32 (sqs n t)); rfl; exact ⟨rfl, rfl⟩; clear M; (try clear C); intro bq w9 h_bq M; have C := M.ruleAll; simp only [Go.Proofs.YteonahoboligdaaDoor.ruleAll] at C))
    go_ret
    exact ⟨rfl, M.below⟩
  · have hA : apB t 92 a c = lq t a c := rfl
    rw [hA]
    generalize lq t a c = v at HL
    clear hg
    go_enter Tryd.func58, Tryd.ntmps58
    go_wp2_with (first | ((with_reducible apply wpM_box' M 32 (sqs n t)); rfl; exact ⟨rfl, rfl⟩; clear M; (try clear C); intro bq w9 h_bq M; have C := M.ruleAll; simp only [Go.Proofs.YteonahoboligdaaDoor.ruleAll] at C) | ((with_reducible apply wpM_lda' M 0 32 0 (sqs n t)); rfl; rfl; rfl; exact ⟨rfl, inf_sqs.trans (congrArg some (sqs_size ..).symm), _, und_sqs, rfl⟩; exact whole_of rfl) | (go_at_call 76; ((with_reducible refine (HL _).mono ?_); rintro e w1 ⟨rfl, hb⟩; have hsz := M.size; (try (have G9 := G.later hb; clear G; have G := G9; clear G9)); have M9 := M.later hb; clear M; (try clear C); have M := M9; clear M9; have C := M.ruleAll; simp only [Go.Proofs.YteonahoboligdaaDoor.ruleAll] at C)))
    go_ret
    exact ⟨rfl, M.below⟩
  · have hA : apB t 47 a c = lq (fun x y => t y x) c a := rfl
    rw [hA]
    generalize lq (fun x y => t y x) c a = v at HR
    clear hg
    go_enter Tryd.func58, Tryd.ntmps58
    go_wp2_with (first | ((with_reducible apply wpM_box' M 32 (sqs n t)); rfl; exact ⟨rfl, rfl⟩; clear M; (try clear C); intro bq w9 h_bq M; have C := M.ruleAll; simp only [Go.Proofs.YteonahoboligdaaDoor.ruleAll] at C) | ((with_reducible apply wpM_lda' M 0 32 0 (sqs n t)); rfl; rfl; rfl; exact ⟨rfl, inf_sqs.trans (congrArg some (sqs_size ..).symm), _, und_sqs, rfl⟩; exact whole_of rfl) | (go_at_call 75; ((with_reducible refine (HR _).mono ?_); rintro e w1 ⟨rfl, hb⟩; have hsz := M.size; (try (have G9 := G.later hb; clear G; have G := G9; clear G9)); have M9 := M.later hb; clear M; (try clear C); have M := M9; clear M9; have C := M.ruleAll; simp only [Go.Proofs.YteonahoboligdaaDoor.ruleAll] at C)))
    go_ret
    exact ⟨rfl, M.below⟩
end Go.Proofs.YteonahoboligdaaDoor
