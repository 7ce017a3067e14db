/- What the functions of tables and squares give back: contracts. -/
import Derived.Test.YtinjjaoikofkdaaRows
import Derived.Test.YtinjjaoikofkdaaK
namespace Go.Proofs.Ytinjjaoikofkdaa
set_option linter.unusedSimpArgs false
set_option linter.unusedVariables false
open Go.RowKit

theorem zero_bys (w : World) : (zeroValue 36).run Try.prog w = .ok (.agg (bys fun _ => 0)) w := by kernel_rfl
theorem zero_plc (w : World) : (zeroValue 70).run Try.prog w = .ok (.agg (bys fun _ => 0)) w := by kernel_rfl
theorem zero_tbl (w : World) : (zeroValue 41).run Try.prog w = .ok (.agg (tbs fun _ _ => 0)) w := by kernel_rfl
theorem zero_sqs (w : World) : (zeroValue 43).run Try.prog w = .ok (.agg (sqs 0 fun _ _ => 0)) w := by kernel_rfl
theorem und_bys : Try.prog.underlying 36 = some (.array 10 5) := by kernel_rfl
theorem inf_bys : (Try.prog.info? 36).map (·.size) = some 10 := by kernel_rfl
theorem und_plc : Try.prog.underlying 70 = some (.array 10 5) := by kernel_rfl
theorem inf_plc : (Try.prog.info? 70).map (·.size) = some 10 := by kernel_rfl
theorem und_tbl : Try.prog.underlying 41 = some (.array 10 36) := by kernel_rfl
theorem inf_tbl : (Try.prog.info? 41).map (·.size) = some 100 := by kernel_rfl
theorem und_tb0 : Try.prog.underlying 37 = some (.array 10 36) := by kernel_rfl
theorem inf_tb0 : (Try.prog.info? 37).map (·.size) = some 100 := by kernel_rfl
theorem und_sqs : Try.prog.underlying 43 = some (.struct (Try.prog.fieldsOf 43)) := by kernel_rfl
theorem inf_sqs : (Try.prog.info? 43).map (·.size) = some 101 := by kernel_rfl

set_option maxHeartbeats 400000 in
theorem toByteA10_any (f : Nat → Nat) (w : World) :
    Calls Try.prog 70 #[.agg (bys f)] w fun e w' => e = .returned (.agg (bys f)) ∧ Below w.heap.size w w' := by
  have hz := zero_bys
  go_enter Try.func70, Try.ntmps70
  go_wp2
  clear hz
  go_loopw [4] (fun i wr => ∃ k : Nat, k ≤ 10 ∧ i = .int .i64 k ∧ Below w.heap.size w wr ∧ blk wr w.heap.size (bys f) 36 ∧ blk wr (w.heap.size + 1) (bys fun _ => 0) 36 ∧
    blk wr (w.heap.size + 1 + 1) (bys fun j => if j < k then f j else 0) 36) (fun i _ => (10 - intOf i).toNat)
  case atStart =>
    refine ⟨0, by omega, rfl, ?_, ?_, ?_, ?_⟩
    · exact ((((Below.refl _ _).alloc (by simp) _).alloc (by simp) _).alloc (by simp; omega) _)
    · exact ((blk_new _ _ _ _ (by simp)).alloc _).alloc _
    · exact (blk_new _ _ _ _ (by simp)).alloc _
    · exact blk_new _ _ _ _ (by simp)
  case round =>
    obtain ⟨k, hk, rfl, hB, b1, b2, b3⟩ := hrel
    by_cases hlt : k < 10
    · have c1 := b1.cell k _ (bys_get hlt)
      have c3 := b3.cell k _ (bys_get hlt)
      have f3 := b3.free k
      go_wp2
      go_roundw
      case rel => exact ⟨k + 1, by omega, by go_num, hB.setCell (by simp; omega) _, b1.other _ _ (by omega), b2.other _ _ (by omega), (b3.set k _).eq (bys_grow f k)⟩
      case measure => simp [intOf]; omega
    · obtain rfl : k = 10 := by omega
      rw [bys_ext (g := f) (fun i hi => by simp [hi])] at b3
      go_wp2_with (first | (refine wpList_load_part rfl 36 _ rfl _ _ rfl (bys f) _ und_bys rfl inf_bys (cells_of_blk0 b3) ?_) | (refine wpList_store_row rfl 36 _ _ rfl _ rfl _ rfl inf_bys _ _ (b2) (by simp [bys_size]) (flat_bys _) ?_))
      refine bodyPost_ret (v := .agg (bys f)) (by exact results_part rfl _ _ _ _ _ _ rfl und_bys rfl inf_bys (cells_of_blk0 (blk_put b2 _))) rfl ?_
      exact ⟨rfl, below_put hB (by omega) _ _⟩

set_option maxHeartbeats 400000 in
theorem toTable_any (t : Nat → Nat → Nat) (w : World) :
    Calls Try.prog 46 #[.agg (tbs t)] w fun e w' => e = .returned (.agg (tbs t)) ∧ Below w.heap.size w w' := by
  have hz := zero_tbl
  go_enter Try.func46, Try.ntmps46
  go_wp2
  clear hz
  go_loopw [4] (fun i wr => ∃ k : Nat, k ≤ 10 ∧ i = .int .i64 k ∧ Below w.heap.size w wr ∧ blk wr w.heap.size (tbs t) 37 ∧ blk wr (w.heap.size + 1) (tbs fun _ _ => 0) 41 ∧
    blk wr (w.heap.size + 1 + 1) (tbs fun i j => if i < k then t i j else 0) 41) (fun i _ => (10 - intOf i).toNat)
  case atStart =>
    refine ⟨0, by omega, rfl, ?_, ?_, ?_, ?_⟩
    · exact ((((Below.refl _ _).alloc (by simp) _).alloc (by simp) _).alloc (by simp; omega) _)
    · exact ((blk_new _ _ _ _ (by simp)).alloc _).alloc _
    · exact (blk_new _ _ _ _ (by simp)).alloc _
    · exact blk_new _ _ _ _ (by simp)
  case round =>
    obtain ⟨k, hk, rfl, hB, b1, b2, b3⟩ := hrel
    by_cases hlt : k < 10
    · go_wp2_with (first | (refine wpList_load_part rfl 36 _ rfl _ _ rfl (bys (t k)) _ und_bys rfl inf_bys (cells_of_blk b1 _ _ (tbs_row hlt)) ?_) | (go_at_call 70; ((with_reducible refine (toByteA10_any _ _).mono ?_); rintro e w1 ⟨rfl, hb⟩)) | (refine wpList_store_part rfl 36 _ _ rfl _ _ rfl _ rfl inf_bys _ _ (b3.later (by assumption)) (by simp [bys_size, tbs_size]; omega) (flat_bys _) ?_))
      go_roundw
      case rel => exact ⟨k + 1, by omega, by go_num, below_put (below_self hB hb) (by omega) _ _, blk_put_other (b1.later hb) (by omega), blk_put_other (b2.later hb) (by omega), (blk_put (b3.later hb) _).eq (tbs_grow hlt)⟩
      case measure => simp [intOf]; omega
    · obtain rfl : k = 10 := by omega
      rw [tbs_ext (u := t) (fun i j hi hj => by simp [hi])] at b3
      go_wp2_with (first | (refine wpList_load_part rfl 41 _ rfl _ _ rfl (tbs t) _ und_tbl rfl inf_tbl (cells_of_blk0 b3) ?_) | (refine wpList_store_row rfl 41 _ _ rfl _ rfl _ rfl inf_tbl _ _ (b2) (by simp [tbs_size]) (flat_tbs _) ?_))
      refine bodyPost_ret (v := .agg (tbs t)) (by exact results_part rfl _ _ _ _ _ _ rfl und_tbl rfl inf_tbl (cells_of_blk0 (blk_put b2 _))) rfl ?_
      exact ⟨rfl, below_put hB (by omega) _ _⟩
end Go.Proofs.Ytinjjaoikofkdaa
