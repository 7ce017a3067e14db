/- The reference's check of loops: a contract. -/
import Derived.Test.YtinjjaoikofkdaaC3
namespace Go.Proofs.Ytinjjaoikofkdaa
set_option linter.unusedSimpArgs false
set_option linter.unusedVariables false
open Go.RowKit

set_option maxRecDepth 100000 in
set_option maxHeartbeats 1000000 in
theorem l01Loop_any (n : Int) (t : Nat → Nat → Nat) (w : World) (hby : Byt2 t) :
    Calls Try.prog 41 #[.agg (sqs n t)] w fun e w' => e = .returned (.bool (isLp n t)) ∧ Below w.heap.size w w' := by
  have b1 := blk_new w (sqs n t) 43 w.heap.size rfl
  have hB : Below w.heap.size w (w.alloc (.cells (sqs n t) 43)) := (Below.refl _ _).alloc (by simp) _
  cases hs : isSq n t with
  | false =>
    have hF : isLp n t = false := isLp_false.2 fun h => by have := isSq_true.2 h.sq; rw [hs] at this; cases this
    go_enter Try.func41, Try.ntmps41
    go_wp2_with (first | (refine wpList_load_part rfl 43 _ rfl _ _ rfl (sqs n t) _ und_sqs rfl inf_sqs (cells_of_blk0 b1) ?_) | (go_at_call 68; ((with_reducible refine (l01Is_any _ _ _ hby).mono ?_); rintro e w1 ⟨rfl, hb⟩)))
    go_ret
    exact ⟨by first | rfl | exact ret_b hF, below_self hB hb⟩
  | true =>
    have hsq := isSq_true.1 hs
    have hn1 := hsq.lo
    have hn2 := hsq.hi
    go_enter Try.func41, Try.ntmps41
    go_wp2_with (first | (refine wpList_load_part rfl 43 _ rfl _ _ rfl (sqs n t) _ und_sqs rfl inf_sqs (cells_of_blk0 b1) ?_) | (go_at_call 68; ((with_reducible refine (l01Is_any _ _ _ hby).mono ?_); rintro e w1 ⟨rfl, hb⟩)))
    go_loopw [2, 3] (fun _ i wr => ∃ k : Nat, (k : Int) ≤ n ∧ i = .int .i64 k ∧ Below w.heap.size w wr ∧ blk wr w.heap.size (sqs n t) 43 ∧
      ∀ x : Nat, x < k → t 0 x = x ∧ t x 0 = x) (fun _ i _ => (10 - intOf i).toNat)
    case atStart => exact ⟨0, by omega, rfl, below_self hB hb, b1.later hb, fun _ h => absurd h (by omega)⟩
    case round =>
      obtain ⟨k, hk, rfl, hB2, b2, hr⟩ := hrel
      have HR := Hid2.mk hr
      clear hr
      have c0 := b2.cell 0 _ (sqs_order n t)
      by_cases hlt : (k : Int) < n
      · have c1 := b2.cell _ _ (sqs_get_first (n := n) (t := t) (y := k) (by omega))
        have c2 := b2.cell _ _ (sqs_get_head (n := n) (t := t) (x := k) (by omega))
        by_cases h1 : t 0 k = k
        · by_cases h2 : t k 0 = k
          · go_wp2
            go_roundw
            case rel =>
              refine ⟨k + 1, by omega, by go_num, hB2, b2, fun x hx => ?_⟩
              by_cases h : x = k
              · subst h; exact ⟨h1, h2⟩
              · exact HR.out x (by omega)
            case measure => simp [intOf]; omega
          · have hF : isLp n t = false := isLp_false.2 fun h => h2 (h.right k (by omega) hlt)
            go_wp2
            go_ret
            exact ⟨by first | rfl | exact ret_b hF, hB2⟩
        · have hF : isLp n t = false := isLp_false.2 fun h => h1 (h.left k (by omega) hlt)
          go_wp2
          go_ret
          exact ⟨by first | rfl | exact ret_b hF, hB2⟩
      · have hT : isLp n t = true := isLp_true.2 ⟨hsq, fun x _ hx => (HR.out x (by omega)).1, fun x _ hx => (HR.out x (by omega)).2⟩
        go_wp2
        go_ret
        exact ⟨by first | rfl | exact ret_b hT, hB2⟩

end Go.Proofs.Ytinjjaoikofkdaa
