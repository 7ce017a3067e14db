/- The law's own turning of a square, and the program's elements of a square: contracts. -/
import Derived.Test.YtinjjaoikofkdaaC1
namespace Go.Proofs.Ytinjjaoikofkdaa
set_option linter.unusedSimpArgs false
set_option linter.unusedVariables false
open Go.RowKit

set_option maxRecDepth 100000 in
set_option maxHeartbeats 1000000 in
theorem toSquare_any (n : Int) (t : Nat → Nat → Nat) (w : World) :
    Calls Try.prog 15 #[.agg (sqs n t)] w fun e w' => e = .returned (.agg (sqs n t)) ∧ Below w.heap.size w w' := by
  have hz := zero_sqs
  have so := sqs_order n t
  have so2 := sqs_order 0 (fun _ _ => 0)
  have hs := sqs_set_order 0 n (fun _ _ => 0)
  have hB := ((((Below.refl w.heap.size w).alloc (by simp) (.cells (sqs n t) 39)).alloc (by simp) (.cells (sqs 0 fun _ _ => 0) 43)).alloc (by simp; omega) (.cells (sqs n fun _ _ => 0) 43))
  go_enter Try.func15, Try.ntmps15
  go_wp2_with (first | (refine wpList_load_part rfl 37 _ rfl _ _ rfl (tbs t) _ und_tb0 rfl inf_tb0 (cells_of_blk (((blk_new _ _ _ _ (by simp)).alloc _).alloc _) _ _ sqs_tbs) ?_) | (go_at_call 46; ((with_reducible refine (toTable_any _ _).mono ?_); rintro e w1 ⟨rfl, hb⟩; have b2 := ((blk_new (w.alloc (.cells (sqs n t) 39)) (sqs 0 fun _ _ => 0) 43 (w.heap.size + 1) (by simp)).alloc (.cells (sqs n fun _ _ => 0) 43)).later hb; have b3 := (blk_new ((w.alloc (.cells (sqs n t) 39)).alloc (.cells (sqs 0 fun _ _ => 0) 43)) (sqs n fun _ _ => 0) 43 (w.heap.size + 1 + 1) (by simp)).later hb)) | (refine wpList_store_part rfl 41 _ _ rfl _ _ rfl _ rfl inf_tbl _ _ b3 (by simp [sqs_size, tbs_size]) (flat_tbs _) ?_; rw [splice_tbs]; have b4 := blk_put b3 (cs' := sqs n t) 43; have b5 := blk_put_other (cs' := sqs n t) (t' := 43) b2 (c := w.heap.size + 1 + 1) (by omega)) | (refine wpList_load_part rfl 43 _ rfl _ _ rfl (sqs n t) _ und_sqs rfl inf_sqs (cells_of_blk0 b4) ?_) | (refine wpList_store_row rfl 43 _ _ rfl _ rfl _ rfl inf_sqs _ _ (b5) (by simp [sqs_size]) (flat_sqs _ _) ?_))
  refine bodyPost_ret (v := .agg (sqs n t)) (by exact results_part rfl _ _ _ _ _ _ rfl und_sqs rfl inf_sqs (cells_of_blk0 (blk_put b5 _))) rfl ?_
  exact ⟨rfl, below_put (below_put (below_self hB hb) (by omega) _ _) (by omega) _ _⟩
end Go.Proofs.Ytinjjaoikofkdaa
