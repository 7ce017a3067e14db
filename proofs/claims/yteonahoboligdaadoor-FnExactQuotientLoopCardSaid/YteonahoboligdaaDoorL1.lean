/- Quotients of the program: contracts. (C97 holds the same two: never import both.) -/
import Derived.Test.YteonahoboligdaaDoorB2
import Derived.Test.YteonahoboligdaaDoorK9
import Derived.Test.YteonahoboligdaaDoorC6
namespace Go.Proofs.YteonahoboligdaaDoor
set_option linter.unusedSimpArgs false
set_option linter.unusedVariables false
open Go Go.RowKit

theorem neqI {b : Nat} {c : Nat} (h : b ≠ c) : ((b : Int) == (c : Int)) = false := by simp; omega

set_option maxRecDepth 100000 in
set_option maxHeartbeats 1000000 in
theorem left_any (n : Int) (t : Nat → Nat → Nat) (hs : IsSq n t) (x z : Nat) (hx : (x : Int) < n) (hz : (z : Int) < n) (w : World) :
    Calls Tryd.prog 63 #[.agg (sqs n t), .int .u8 (x : Int), .int .u8 (z : Int)] w fun e w' => e = .returned (.int .u8 (lq t x z : Nat)) ∧ Below w.heap.size w w' := by
  have M := Mm.start no w
  have hn := hs.hi
  obtain ⟨h1, h2, h3⟩ := lq_lt hs hx hz
  have hx10 : x < 10 := by omega
  have hx' : (x : Int) < 10 := by omega
  have H3 := Hid2.mk h3
  have H2 := Hid2.mk h2
  generalize hV : lq t x z = l at h1 H2 H3
  clear h2 h3 hV
  go_enter Tryd.func63, Tryd.ntmps63
  go_wp2_with (first | ((with_reducible apply wpM_box' M 32 (sqs n t)); rfl; exact ⟨rfl, rfl⟩; clear M; (try clear C); intro bq w9 h_bq M; have C := M.ruleAll; simp only [Go.Proofs.YteonahoboligdaaDoor.ruleAll] at C))
  go_loopw [7] (fun i wr => ∃ y : Nat, y ≤ l ∧ i = .int .u8 (y : Int) ∧ Mm no w wr [.box bq (sqs n t) 32]) (fun i _ => l - (intOf i).toNat)
  case atStart => exact ⟨0, by omega, rfl, M⟩
  case round =>
    obtain ⟨y, hy, rfl, M9⟩ := hrel
    clear M; (try clear C)
    have M := M9
    clear M9
    have hy10 : y < 10 := by omega
    have hy' : (y : Int) < 10 := by omega
    have hc := (M.box 0 rfl).cell _ _ (sqs_get (n := n) (t := t) hx10 hy10)
    by_cases e : y = l
    · subst e
      have hd : ((t x y : Int) == (z : Int)) = true := by rw [H2.out]; simp
      have hd2 : ((t x y : Int) != (z : Int)) = false := by rw [bne, hd]; rfl
      generalize t x y = v at hc hd hd2
      go_wp2
      go_ret
      exact ⟨rfl, M.below⟩
    · have hd : ((t x y : Int) == (z : Int)) = false := neqI (H3.out y (by omega))
      have hd2 : ((t x y : Int) != (z : Int)) = true := by rw [bne, hd]; rfl
      generalize t x y = v at hc hd hd2
      go_wp2
      go_roundw
      case rel => exact ⟨y + 1, by omega, by go_num, M⟩
      case measure => simp [intOf]; omega
set_option maxRecDepth 100000 in
set_option maxHeartbeats 1000000 in
theorem right_any (n : Int) (t : Nat → Nat → Nat) (hs : IsSq n t) (z y : Nat) (hz : (z : Int) < n) (hy : (y : Int) < n) (w : World) :
    Calls Tryd.prog 64 #[.agg (sqs n t), .int .u8 (z : Int), .int .u8 (y : Int)] w fun e w' => e = .returned (.int .u8 (lq (fun x y => t y x) y z : Nat)) ∧ Below w.heap.size w w' := by
  have M := Mm.start no w
  have hn := hs.hi
  obtain ⟨h1, h2, h3⟩ := lq_lt hs.turn hy hz
  have hy10 : y < 10 := by omega
  have hy' : (y : Int) < 10 := by omega
  have H3 := Hid2.mk h3
  have H2 := Hid2.mk h2
  generalize hV : lq (fun x y => t y x) y z = l at h1 H2 H3
  clear h2 h3 hV
  go_enter Tryd.func64, Tryd.ntmps64
  go_wp2_with (first | ((with_reducible apply wpM_box' M 32 (sqs n t)); rfl; exact ⟨rfl, rfl⟩; clear M; (try clear C); intro bq w9 h_bq M; have C := M.ruleAll; simp only [Go.Proofs.YteonahoboligdaaDoor.ruleAll] at C))
  go_loopw [7] (fun i wr => ∃ x : Nat, x ≤ l ∧ i = .int .u8 (x : Int) ∧ Mm no w wr [.box bq (sqs n t) 32]) (fun i _ => l - (intOf i).toNat)
  case atStart => exact ⟨0, by omega, rfl, M⟩
  case round =>
    obtain ⟨x, hx, rfl, M9⟩ := hrel
    clear M; (try clear C)
    have M := M9
    clear M9
    have hx10 : x < 10 := by omega
    have hx' : (x : Int) < 10 := by omega
    have hc := (M.box 0 rfl).cell _ _ (sqs_get (n := n) (t := t) hx10 hy10)
    by_cases e : x = l
    · subst e
      have hd : ((t x y : Int) == (z : Int)) = true := by rw [show t x y = z from H2.out]; simp
      have hd2 : ((t x y : Int) != (z : Int)) = false := by rw [bne, hd]; rfl
      generalize t x y = v at hc hd hd2
      go_wp2
      go_ret
      exact ⟨rfl, M.below⟩
    · have hd : ((t x y : Int) == (z : Int)) = false := neqI (H3.out x (by omega))
      have hd2 : ((t x y : Int) != (z : Int)) = true := by rw [bne, hd]; rfl
      generalize t x y = v at hc hd hd2
      go_wp2
      go_roundw
      case rel => exact ⟨x + 1, by omega, by go_num, M⟩
      case measure => simp [intOf]; omega
end Go.Proofs.YteonahoboligdaaDoor
