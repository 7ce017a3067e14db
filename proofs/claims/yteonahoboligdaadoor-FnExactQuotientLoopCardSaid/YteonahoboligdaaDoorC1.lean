/- What the functions of tables and squares give back: contracts. -/
import Derived.Test.YteonahoboligdaaDoorRows
import Derived.Test.YteonahoboligdaaDoorK
namespace Go.Proofs.YteonahoboligdaaDoor
set_option linter.unusedSimpArgs false
set_option linter.unusedVariables false
open Go.RowKit

theorem zero_bys (w : World) : (zeroValue 22).run Tryd.prog w = .ok (.agg (bys fun _ => 0)) w := by kernel_rfl
theorem zero_plc (w : World) : (zeroValue 95).run Tryd.prog w = .ok (.agg (bys fun _ => 0)) w := by kernel_rfl
theorem zero_tbl (w : World) : (zeroValue 30).run Tryd.prog w = .ok (.agg (tbs fun _ _ => 0)) w := by kernel_rfl
theorem zero_sqs (w : World) : (zeroValue 32).run Tryd.prog w = .ok (.agg (sqs 0 fun _ _ => 0)) w := by kernel_rfl
theorem und_bys : Tryd.prog.underlying 22 = some (.array 10 5) := by kernel_rfl
theorem inf_bys : (Tryd.prog.info? 22).map (·.size) = some 10 := by kernel_rfl
theorem und_plc : Tryd.prog.underlying 95 = some (.array 10 5) := by kernel_rfl
theorem inf_plc : (Tryd.prog.info? 95).map (·.size) = some 10 := by kernel_rfl
theorem und_tbl : Tryd.prog.underlying 30 = some (.array 10 22) := by kernel_rfl
theorem inf_tbl : (Tryd.prog.info? 30).map (·.size) = some 100 := by kernel_rfl
theorem und_tb0 : Tryd.prog.underlying 23 = some (.array 10 22) := by kernel_rfl
theorem inf_tb0 : (Tryd.prog.info? 23).map (·.size) = some 100 := by kernel_rfl
theorem und_sqs : Tryd.prog.underlying 32 = some (.struct (Tryd.prog.fieldsOf 32)) := by kernel_rfl
theorem inf_sqs : (Tryd.prog.info? 32).map (·.size) = some 101 := by kernel_rfl

set_option maxHeartbeats 400000 in
theorem toByteA10_any (f : Nat → Nat) (w : World) :
    Calls Tryd.prog 39 #[.agg (bys f)] w fun e w' => e = .returned (.agg (bys f)) ∧ Below w.heap.size w w' := by
  have hz := zero_bys
  go_enter Tryd.func39, Tryd.ntmps39
  go_wp2
  clear hz
  go_loopw [4] (fun i wr => ∃ k : Nat, k ≤ 10 ∧ i = .int .i64 k ∧ Below w.heap.size w wr ∧ blk wr w.heap.size (bys f) 22 ∧ blk wr (w.heap.size + 1) (bys fun _ => 0) 22 ∧
    blk wr (w.heap.size + 1 + 1) (bys fun j => if j < k then f j else 0) 22) (fun i _ => (10 - intOf i).toNat)
  case atStart =>
    refine ⟨0, by omega, rfl, ?_, ?_, ?_, ?_⟩
    · exact ((((Below.refl _ _).alloc (by simp) _).alloc (by simp) _).alloc (by simp; omega) _)
    · exact ((blk_new _ _ _ _ (by simp)).alloc _).alloc _
    · exact (blk_new _ _ _ _ (by simp)).alloc _
    · exact blk_new _ _ _ _ (by simp)
  case round =>
    obtain ⟨k, hk, rfl, hB, b1, b2, b3⟩ := hrel
    by_cases hlt : k < 10
    · have c1 := b1.cell k _ (bys_get hlt)
      have c3 := b3.cell k _ (bys_get hlt)
      have f3 := b3.free k
      go_wp2
      go_roundw
      case rel => exact ⟨k + 1, by omega, by go_num, hB.setCell (by simp; omega) _, b1.other _ _ (by omega), b2.other _ _ (by omega), (b3.set k _).eq (bys_grow f k)⟩
      case measure => simp [intOf]; omega
    · obtain rfl : k = 10 := by omega
      rw [bys_ext (g := f) (fun i hi => by simp [hi])] at b3
      go_wp2_with (first | (refine wpList_load_part rfl 22 _ rfl _ _ rfl (bys f) _ und_bys rfl inf_bys (cells_of_blk0 b3) ?_) | (refine wpList_store_row rfl 22 _ _ rfl _ rfl _ rfl inf_bys _ _ (b2) (by simp [bys_size]) (flat_bys _) ?_))
      refine bodyPost_ret (v := .agg (bys f)) (by exact results_part rfl _ _ _ _ _ _ rfl und_bys rfl inf_bys (cells_of_blk0 (blk_put b2 _))) rfl ?_
      exact ⟨rfl, below_put hB (by omega) _ _⟩

set_option maxHeartbeats 400000 in
theorem toTable_any (t : Nat → Nat → Nat) (w : World) :
    Calls Tryd.prog 21 #[.agg (tbs t)] w fun e w' => e = .returned (.agg (tbs t)) ∧ Below w.heap.size w w' := by
  have hz := zero_tbl
  go_enter Tryd.func21, Tryd.ntmps21
  go_wp2
  clear hz
  go_loopw [4] (fun i wr => ∃ k : Nat, k ≤ 10 ∧ i = .int .i64 k ∧ Below w.heap.size w wr ∧ blk wr w.heap.size (tbs t) 23 ∧ blk wr (w.heap.size + 1) (tbs fun _ _ => 0) 30 ∧
    blk wr (w.heap.size + 1 + 1) (tbs fun i j => if i < k then t i j else 0) 30) (fun i _ => (10 - intOf i).toNat)
  case atStart =>
    refine ⟨0, by omega, rfl, ?_, ?_, ?_, ?_⟩
    · exact ((((Below.refl _ _).alloc (by simp) _).alloc (by simp) _).alloc (by simp; omega) _)
    · exact ((blk_new _ _ _ _ (by simp)).alloc _).alloc _
    · exact (blk_new _ _ _ _ (by simp)).alloc _
    · exact blk_new _ _ _ _ (by simp)
  case round =>
    obtain ⟨k, hk, rfl, hB, b1, b2, b3⟩ := hrel
    by_cases hlt : k < 10
    · go_wp2_with (first | (refine wpList_load_part rfl 22 _ rfl _ _ rfl (bys (t k)) _ und_bys rfl inf_bys (cells_of_blk b1 _ _ (tbs_row hlt)) ?_) | (go_at_call 39; ((with_reducible refine (toByteA10_any _ _).mono ?_); rintro e w1 ⟨rfl, hb⟩)) | (refine wpList_store_part rfl 22 _ _ rfl _ _ rfl _ rfl inf_bys _ _ (b3.later (by assumption)) (by simp [bys_size, tbs_size]; omega) (flat_bys _) ?_))
      go_roundw
      case rel => exact ⟨k + 1, by omega, by go_num, below_put (below_self hB hb) (by omega) _ _, blk_put_other (b1.later hb) (by omega), blk_put_other (b2.later hb) (by omega), (blk_put (b3.later hb) _).eq (tbs_grow hlt)⟩
      case measure => simp [intOf]; omega
    · obtain rfl : k = 10 := by omega
      rw [tbs_ext (u := t) (fun i j hi hj => by simp [hi])] at b3
      go_wp2_with (first | (refine wpList_load_part rfl 30 _ rfl _ _ rfl (tbs t) _ und_tbl rfl inf_tbl (cells_of_blk0 b3) ?_) | (refine wpList_store_row rfl 30 _ _ rfl _ rfl _ rfl inf_tbl _ _ (b2) (by simp [tbs_size]) (flat_tbs _) ?_))
      refine bodyPost_ret (v := .agg (tbs t)) (by exact results_part rfl _ _ _ _ _ _ rfl und_tbl rfl inf_tbl (cells_of_blk0 (blk_put b2 _))) rfl ?_
      exact ⟨rfl, below_put hB (by omega) _ _⟩
end Go.Proofs.YteonahoboligdaaDoor
