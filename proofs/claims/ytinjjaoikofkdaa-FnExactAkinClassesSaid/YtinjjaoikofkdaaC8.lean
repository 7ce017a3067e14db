/- The program's check of loops: a contract. -/
import Derived.Test.YtinjjaoikofkdaaC7
namespace Go.Proofs.Ytinjjaoikofkdaa
set_option linter.unusedSimpArgs false
set_option linter.unusedVariables false
open Go.RowKit

theorem unit_isLp {n : Int} {t : Nat → Nat → Nat} (h : IsSq n t) : isLp n t = unitB n t 0 := by
  cases hu : unitB n t 0 with
  | true =>
    have := unitB_true.1 hu
    exact isLp_true.2 ⟨h, fun x _ hx => (this x hx).1, fun x _ hx => (this x hx).2⟩
  | false =>
    refine isLp_false.2 fun hl => unitB_false.1 hu fun x hx => ?_
    have := h.hi
    exact ⟨hl.left x (by omega) hx, hl.right x (by omega) hx⟩

set_option maxRecDepth 100000 in
set_option maxHeartbeats 1000000 in
theorem isLoop_any (n : Int) (t : Nat → Nat → Nat) (w : World) (hby : Byt2 t) :
    Calls Try.prog 48 #[.agg (sqs n t)] w fun e w' => e = .returned (.bool (isLp n t)) ∧ Below w.heap.size w w' := by
  have b1 := blk_new w (sqs n t) 43 w.heap.size rfl
  have hB : Below w.heap.size w (w.alloc (.cells (sqs n t) 43)) := (Below.refl _ _).alloc (by simp) _
  cases hs : isSq n t with
  | false =>
    have hF : isLp n t = false := isLp_false.2 fun h => by have := isSq_true.2 h.sq; rw [hs] at this; cases this
    go_enter Try.func48, Try.ntmps48
    go_wp2_with (first | (refine wpList_load_part rfl 43 _ rfl _ _ rfl (sqs n t) _ und_sqs rfl inf_sqs (cells_of_blk0 b1) ?_) | (go_at_call 71; ((with_reducible refine (isSquare_any _ _ _ hby).mono ?_); rintro e w1 ⟨rfl, hb⟩)))
    go_ret
    exact ⟨by first | rfl | exact ret_b hF, below_self hB hb⟩
  | true =>
    have hsq := isSq_true.1 hs
    have hL := unit_isLp hsq
    go_enter Try.func48, Try.ntmps48
    go_wp2_with (first | (refine wpList_load_part rfl 43 _ rfl _ _ rfl (sqs n t) _ und_sqs rfl inf_sqs (cells_of_blk0 b1) ?_) | (go_at_call 71; ((with_reducible refine (isSquare_any _ _ _ hby).mono ?_); rintro e w1 ⟨rfl, hb⟩; have b2 := b1.later hb)) | (refine wpList_load_part_g 43 _ rfl rfl _ _ rfl (sqs n t) _ und_sqs rfl inf_sqs (cells_of_blk0 b2) ?_) | (go_at_call 72; refine (isUnit_any n t 0 _ hsq.lo hsq.hi (by omega) hby).mono ?_; rintro e w2 ⟨rfl, hb2⟩))
    go_ret
    exact ⟨by first | rfl | exact ret_b hL, below_self (below_self hB hb) hb2⟩
end Go.Proofs.Ytinjjaoikofkdaa
