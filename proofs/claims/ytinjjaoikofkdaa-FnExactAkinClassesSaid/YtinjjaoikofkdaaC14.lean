/- The part that has nothing, and the places of a part: contracts. -/
import Derived.Test.YtinjjaoikofkdaaC13
import Derived.Test.YtinjjaoikofkdaaC9
namespace Go.Proofs.Ytinjjaoikofkdaa
set_option linter.unusedSimpArgs false
set_option linter.unusedVariables false
open Go Go.RowKit

/-- The part that has nothing. -/
def PM.zero : PM := ⟨fun _ => -1, fun _ => 0, 0⟩
theorem pms_ext {m m' : PM} (h1 : ∀ i, i < 10 → m.to i = m'.to i) (h2 : ∀ i, i < 10 → m.used i = m'.used i) (h3 : m.size = m'.size) : pms m = pms m' :=
  tab_ext fun i _ => by
    by_cases h : i < 10
    · rw [if_pos h, if_pos h, h1 i h]
    · rw [if_neg h, if_neg h]
      by_cases h' : i < 20
      · rw [if_pos h', if_pos h', h2 _ (by omega)]
      · rw [if_neg h', if_neg h', h3]
theorem start_step (k : Nat) (hk : k < 10) : (pms ⟨fun i => if i < k then -1 else 0, fun _ => 0, 0⟩).setIfInBounds k (.int .i64 (-1)) = pms ⟨fun i => if i < k + 1 then -1 else 0, fun _ => 0, 0⟩ := by
  rw [pms_set_to _ _ hk]
  refine pms_ext (fun i _ => ?_) (fun _ _ => rfl) rfl
  dsimp only
  by_cases h : i = k
  · subst h; rw [if_pos rfl, if_pos (by omega)]
  · rw [if_neg h]
    by_cases h' : i < k
    · rw [if_pos h', if_pos (by omega)]
    · rw [if_neg h', if_neg (by omega)]
/-- The places of a part. -/
def plTo (m : PM) (n : Nat) (i : Nat) : Nat := if i < n then (m.to i).toNat else 0
theorem plTo_set (m : PM) (k : Nat) : (bys (plTo m k)).setIfInBounds k (.int .u8 ((m.to k).toNat : Int)) = bys (plTo m (k + 1)) := by
  rw [bys_set]
  refine bys_ext fun i _ => ?_
  unfold plTo
  by_cases h : i = k
  · subst h; rw [if_pos rfl, if_pos (by omega)]
  · rw [if_neg h]
    by_cases h' : i < k
    · rw [if_pos h', if_pos (by omega)]
    · rw [if_neg h', if_neg (by omega)]

set_option maxRecDepth 100000 in
set_option maxHeartbeats 1000000 in
theorem l02Start_any (w : World) : Calls Try.prog 119 #[] w fun e w' => e = .returned (.agg (pms PM.zero)) ∧ Below w.heap.size w w' := by
  have hz := zero_l2m
  have hbd := build_l2m
  go_enter Try.func119, Try.ntmps119
  go_wp2_with (first | (refine wpList_store_row rfl 147 _ _ rfl _ rfl _ rfl inf_l2m _ _ (blk_new _ _ _ _ (by simp)) (by simp [pms_size]) (flat_pms _) ?_))
  clear hz hbd
  go_loopw [2] (fun i wr => ∃ k : Nat, k ≤ 10 ∧ i = .int .i64 k ∧ Below w.heap.size w wr ∧ blk wr w.heap.size (pms ⟨fun _ => 0, fun _ => 0, 0⟩) 147 ∧ blk wr (w.heap.size + 1) (pms ⟨fun i => if i < k then -1 else 0, fun _ => 0, 0⟩) 147) (fun i _ => (10 - intOf i).toNat)
  case atStart => exact ⟨0, by omega, rfl, below_put (((Below.refl _ _).alloc (by simp) _).alloc (by simp) _) (by omega) _ _, blk_put_other (by repeat (first | (refine blk_new _ _ _ _ ?_; (simp; done)) | apply blk.alloc)) (by omega), (blk_put (blk_new _ _ _ _ (by simp)) _).eq (pms_ext (fun i _ => by simp) (fun _ _ => rfl) rfl)⟩
  case round =>
    obtain ⟨k, hk, rfl, hB, b0, b1⟩ := hrel
    by_cases hlt : k < 10
    · have hlt' : (k : Int) < 10 := by omega
      have fo := b1.free k
      have co := b1.cell k _ (pms_to _ hlt)
      go_wp2
      go_roundw
      case rel => exact ⟨k + 1, by omega, by go_num, hB.setCell (by first | (simp; done) | (simp; omega)) _, b0.other _ _ (by omega), (b1.set _ _).eq (start_step k hlt)⟩
      case measure => simp [intOf]; omega
    · obtain rfl : k = 10 := by omega
      have b2 := b1.eq (cs' := pms PM.zero) (pms_ext (fun i hi => by simp [PM.zero, hi]) (fun _ _ => rfl) rfl)
      go_wp2_with (first | (refine wpList_load_part rfl 147 _ rfl _ _ rfl (pms PM.zero) _ und_l2m rfl inf_l2m (cells_of_blk0 b2) ?_) | (refine wpList_store_row rfl 147 _ _ rfl _ rfl _ rfl inf_l2m _ _ (b0) (by simp [pms_size]) (flat_pms _) ?_))
      refine bodyPost_ret (v := .agg (pms PM.zero)) (by exact results_part rfl _ _ _ _ _ _ rfl und_l2m rfl inf_l2m (cells_of_blk0 (blk_put b0 _))) rfl ?_
      exact ⟨rfl, below_put hB (by omega) _ _⟩

set_option maxRecDepth 100000 in
set_option maxHeartbeats 1000000 in
theorem l02Places_any (N : Nat) (m : PM) (w : World) (h1 : N ≤ 10) (hm : ∀ i, i < N → 0 ≤ m.to i ∧ m.to i < 10) :
    Calls Try.prog 128 #[.agg (pms m), .int .i64 (N : Int)] w fun e w' => e = .returned (.agg (bys (plTo m N))) ∧ Below w.heap.size w w' := by
  have hz := zero_plc
  have hbd := build_plc
  go_enter Try.func128, Try.ntmps128
  go_wp2_with (first | (refine wpList_store_row rfl 70 _ _ rfl _ rfl _ rfl inf_plc _ _ (blk_new _ _ _ _ (by simp)) (by simp [bys_size]) (flat_bys _) ?_))
  clear hz hbd
  go_loopw [6] (fun i wr => ∃ k : Nat, k ≤ N ∧ i = .int .i64 k ∧ Below w.heap.size w wr ∧ blk wr w.heap.size (pms m) 147 ∧ blk wr (w.heap.size + 1) (bys fun _ => 0) 70 ∧ blk wr (w.heap.size + 1 + 1) (bys (plTo m k)) 70) (fun i _ => ((N : Int) - intOf i).toNat)
  case atStart => exact ⟨0, by omega, rfl, below_put ((((Below.refl _ _).alloc (by simp) _).alloc (by simp) _).alloc (by simp; omega) _) (by omega) _ _, blk_put_other (by repeat (first | (refine blk_new _ _ _ _ ?_; (simp; done)) | apply blk.alloc)) (by omega), blk_put_other (by repeat (first | (refine blk_new _ _ _ _ ?_; (simp; done)) | apply blk.alloc)) (by omega), (blk_put (blk_new _ _ _ _ (by simp)) _).eq (bys_ext fun i hi => by simp [plTo])⟩
  case round =>
    obtain ⟨k, hk, rfl, hB, b0, br, bo⟩ := hrel
    by_cases hlt : k < N
    · have hlt' : (k : Int) < (N : Int) := by omega
      obtain ⟨v, hv⟩ : ∃ v : Nat, m.to k = v := ⟨(m.to k).toNat, by have := hm k hlt; omega⟩
      have hv10 : v < 10 := by have := hm k hlt; omega
      have c0 := (b0.cell k _ (pms_to m (by omega))).trans (by rw [hv])
      have fo := bo.free k
      have co := bo.cell k _ (bys_get (by omega))
      go_wp2
      go_roundw
      case rel => exact ⟨k + 1, by omega, by go_num, hB.setCell (by first | (simp; done) | (simp; omega)) _, b0.other _ _ (by omega), br.other _ _ (by omega), (bo.set _ _).eq (by have := plTo_set m k; rw [hv] at this; exact this)⟩
      case measure => simp [intOf]; omega
    · obtain rfl : k = N := by omega
      have hge : ¬ ((k : Int) < (k : Int)) := by omega
      go_wp2_with (first | (refine wpList_load_part rfl 70 _ rfl _ _ rfl (bys (plTo m k)) _ und_plc rfl inf_plc (cells_of_blk0 bo) ?_) | (refine wpList_store_row rfl 70 _ _ rfl _ rfl _ rfl inf_plc _ _ (br) (by simp [bys_size]) (flat_bys _) ?_))
      refine bodyPost_ret (v := .agg (bys (plTo m k))) (by exact results_part rfl _ _ _ _ _ _ rfl und_plc rfl inf_plc (cells_of_blk0 (blk_put br _))) rfl ?_
      exact ⟨rfl, below_put hB (by omega) _ _⟩
end Go.Proofs.Ytinjjaoikofkdaa
