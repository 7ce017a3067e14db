/- Permutations made in one loop: contracts. -/
import Derived.Test.YtpmemoabkbmljaaDoorC1
import Derived.Test.YtpmemoabkbmljaaDoorM
namespace Go.Proofs.YtpmemoabkbmljaaDoor
set_option linter.unusedSimpArgs false
set_option linter.unusedVariables false
open Go.RowKit

theorem build_plc (w : World) : (Instr.build 93 #[]).run Tryd.prog w = .ok (.agg (bys fun _ => 0)) w := by kernel_rfl

set_option maxRecDepth 100000 in
set_option maxHeartbeats 1000000 in
theorem identity_any (n : Int) (w : World) (h0 : 0 ≤ n) (h1 : n ≤ 10) :
    Calls Tryd.prog 73 #[.int .i64 n] w fun e w' => e = .returned (.agg (bys (idTo n.toNat))) ∧ Below w.heap.size w w' := by
  have hz := zero_plc
  have hbd := build_plc
  go_enter Tryd.func73, Tryd.ntmps73
  go_wp2_with (first | (refine wpList_store_row rfl 93 _ _ rfl _ rfl _ rfl inf_plc _ _ (blk_new _ _ _ _ (by simp)) (by simp [bys_size]) (flat_bys _) ?_))
  clear hz hbd
  go_loopw [7] (fun i wr => ∃ k : Nat, (k : Int) ≤ n ∧ i = .int .i64 k ∧ Below w.heap.size w wr ∧ blk wr (w.heap.size) (bys fun _ => 0) 93 ∧ blk wr (w.heap.size + 1) (bys (idTo k)) 93) (fun i _ => (n - intOf i).toNat)
  case atStart => exact ⟨0, by omega, rfl, below_put (((Below.refl _ _).alloc (by first | (simp; done) | (simp; omega)) _).alloc (by first | (simp; done) | (simp; omega)) _) (by omega) _ _, blk_put_other (by repeat (first | (refine blk_new _ _ _ _ ?_; (simp; done)) | apply blk.alloc)) (by omega), (blk_put (blk_new _ _ _ _ (by simp)) _).eq (bys_ext fun i hi => by simp [idTo])⟩
  case round =>
    obtain ⟨k, hk, rfl, hB, br, bo⟩ := hrel
    by_cases hlt : (k : Int) < n
    · skip
      have fo := bo.free (k)
      have co := bo.cell (k) _ (bys_get (by omega))
      go_wp2
      go_roundw
      case rel => exact ⟨k + 1, by omega, by go_num, hB.setCell (by first | (simp; done) | (simp; omega)) _, br.other _ _ (by omega), (bo.set _ _).eq (idTo_set k)⟩
      case measure => simp [intOf]; omega
    · have hkn : k = n.toNat := by omega
      subst hkn
      go_wp2_with (first | (refine wpList_load_part rfl 93 _ rfl _ _ rfl (bys (idTo n.toNat)) _ und_plc rfl inf_plc (cells_of_blk0 bo) ?_) | (refine wpList_store_row rfl 93 _ _ rfl _ rfl _ rfl inf_plc _ _ (br) (by simp [bys_size]) (flat_bys _) ?_))
      refine bodyPost_ret (v := .agg (bys (idTo n.toNat))) (by exact results_part rfl _ _ _ _ _ _ rfl und_plc rfl inf_plc (cells_of_blk0 (blk_put br _))) rfl ?_
      exact ⟨rfl, below_put hB (by omega) _ _⟩

set_option maxRecDepth 100000 in
set_option maxHeartbeats 1000000 in
theorem l01Same_any (n : Int) (w : World) (h0 : 0 ≤ n) (h1 : n ≤ 10) :
    Calls Tryd.prog 69 #[.int .i64 n] w fun e w' => e = .returned (.agg (bys (idTo n.toNat))) ∧ Below w.heap.size w w' := by
  have hz := zero_plc
  have hbd := build_plc
  go_enter Tryd.func69, Tryd.ntmps69
  go_wp2_with (first | (refine wpList_store_row rfl 93 _ _ rfl _ rfl _ rfl inf_plc _ _ (blk_new _ _ _ _ (by simp)) (by simp [bys_size]) (flat_bys _) ?_))
  clear hz hbd
  go_loopw [4] (fun i wr => ∃ k : Nat, (k : Int) ≤ n ∧ i = .int .i64 k ∧ Below w.heap.size w wr ∧ blk wr (w.heap.size) (bys fun _ => 0) 93 ∧ blk wr (w.heap.size + 1) (bys (idTo k)) 93) (fun i _ => (n - intOf i).toNat)
  case atStart => exact ⟨0, by omega, rfl, below_put (((Below.refl _ _).alloc (by first | (simp; done) | (simp; omega)) _).alloc (by first | (simp; done) | (simp; omega)) _) (by omega) _ _, blk_put_other (by repeat (first | (refine blk_new _ _ _ _ ?_; (simp; done)) | apply blk.alloc)) (by omega), (blk_put (blk_new _ _ _ _ (by simp)) _).eq (bys_ext fun i hi => by simp [idTo])⟩
  case round =>
    obtain ⟨k, hk, rfl, hB, br, bo⟩ := hrel
    by_cases hlt : (k : Int) < n
    · skip
      have fo := bo.free (k)
      have co := bo.cell (k) _ (bys_get (by omega))
      go_wp2
      go_roundw
      case rel => exact ⟨k + 1, by omega, by go_num, hB.setCell (by first | (simp; done) | (simp; omega)) _, br.other _ _ (by omega), (bo.set _ _).eq (idTo_set k)⟩
      case measure => simp [intOf]; omega
    · have hkn : k = n.toNat := by omega
      subst hkn
      go_wp2_with (first | (refine wpList_load_part rfl 93 _ rfl _ _ rfl (bys (idTo n.toNat)) _ und_plc rfl inf_plc (cells_of_blk0 bo) ?_) | (refine wpList_store_row rfl 93 _ _ rfl _ rfl _ rfl inf_plc _ _ (br) (by simp [bys_size]) (flat_bys _) ?_))
      refine bodyPost_ret (v := .agg (bys (idTo n.toNat))) (by exact results_part rfl _ _ _ _ _ _ rfl und_plc rfl inf_plc (cells_of_blk0 (blk_put br _))) rfl ?_
      exact ⟨rfl, below_put hB (by omega) _ _⟩

end Go.Proofs.YtpmemoabkbmljaaDoor
