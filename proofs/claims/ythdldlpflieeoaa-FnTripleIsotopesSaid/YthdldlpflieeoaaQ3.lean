/- Permutations made in one loop: contracts. -/
import Derived.Test.YthdldlpflieeoaaQ2
import Derived.Test.YthdldlpflieeoaaQ1
import Derived.StillTailTactics
namespace Go.Proofs.Ythdldlpflieeoaa
set_option linter.unusedSimpArgs false
set_option linter.unusedVariables false
open Go.RowKit

theorem build_plc (w : World) : (Instr.build 25 #[]).run Try.prog w = .ok (.agg (bys fun _ => 0)) w := by kernel_rfl

set_option maxRecDepth 100000 in
set_option maxHeartbeats 1000000 in
theorem identity_any (n : Int) (w : World) (h0 : 0 ≤ n) (h1 : n ≤ 10) :
    Calls Try.prog 256 #[.int .i64 n] w fun e w' => e = .returned (.agg (bys (idTo n.toNat))) ∧ Below w.heap.size w w' := by
  have hz := zero_plc
  have hbd := build_plc
  go_enter Try.func256, Try.ntmps256
  go_wp2_with (first | (refine wpList_store_row rfl 25 _ _ rfl _ rfl _ rfl inf_plc _ _ (blk_new _ _ _ _ (by simp)) (by simp [bys_size]) (flat_bys _) ?_))
  clear hz hbd
  go_loopw [7] (fun i wr => ∃ k : Nat, (k : Int) ≤ n ∧ i = .int .i64 k ∧ Below w.heap.size w wr ∧ blk wr (w.heap.size) (bys fun _ => 0) 25 ∧ blk wr (w.heap.size + 1) (bys (idTo k)) 25) (fun i _ => (n - intOf i).toNat)
  case atStart => exact ⟨0, by omega, rfl, below_put (((Below.refl _ _).alloc (by first | (simp; done) | (simp; omega)) _).alloc (by first | (simp; done) | (simp; omega)) _) (by omega) _ _, blk_put_other (by repeat (first | (refine blk_new _ _ _ _ ?_; (simp; done)) | apply blk.alloc)) (by omega), (blk_put (blk_new _ _ _ _ (by simp)) _).eq (bys_ext fun i hi => by simp [idTo])⟩
  case round =>
    obtain ⟨k, hk, rfl, hB, br, bo⟩ := hrel
    by_cases hlt : (k : Int) < n
    · skip
      have fo := bo.free (k)
      have co := bo.cell (k) _ (bys_get (by omega))
      go_wp2
      go_roundw
      case rel => exact ⟨k + 1, by omega, by go_num, hB.setCell (by first | (simp; done) | (simp; omega)) _, br.other _ _ (by omega), (bo.set _ _).eq (idTo_set k)⟩
      case measure => simp [intOf]; omega
    · have hkn : k = n.toNat := by omega
      subst hkn
      go_wp2_with (first | (refine wpList_load_part rfl 25 _ rfl _ _ rfl (bys (idTo n.toNat)) _ und_plc rfl inf_plc (cells_of_blk0 bo) ?_) | (refine wpList_store_row rfl 25 _ _ rfl _ rfl _ rfl inf_plc _ _ (br) (by simp [bys_size]) (flat_bys _) ?_))
      refine bodyPost_ret (v := .agg (bys (idTo n.toNat))) (by exact results_part rfl _ _ _ _ _ _ rfl und_plc rfl inf_plc (cells_of_blk0 (blk_put br _))) rfl ?_
      exact ⟨rfl, below_put hB (by omega) _ _⟩

set_option maxRecDepth 100000 in
set_option maxHeartbeats 1000000 in
theorem l01Same_any (n : Int) (w : World) (h0 : 0 ≤ n) (h1 : n ≤ 10) :
    Calls Try.prog 204 #[.int .i64 n] w fun e w' => e = .returned (.agg (bys (idTo n.toNat))) ∧ Below w.heap.size w w' := by
  have hz := zero_plc
  have hbd := build_plc
  go_enter Try.func204, Try.ntmps204
  go_wp2_with (first | (refine wpList_store_row rfl 25 _ _ rfl _ rfl _ rfl inf_plc _ _ (blk_new _ _ _ _ (by simp)) (by simp [bys_size]) (flat_bys _) ?_))
  clear hz hbd
  go_loopw [4] (fun i wr => ∃ k : Nat, (k : Int) ≤ n ∧ i = .int .i64 k ∧ Below w.heap.size w wr ∧ blk wr (w.heap.size) (bys fun _ => 0) 25 ∧ blk wr (w.heap.size + 1) (bys (idTo k)) 25) (fun i _ => (n - intOf i).toNat)
  case atStart => exact ⟨0, by omega, rfl, below_put (((Below.refl _ _).alloc (by first | (simp; done) | (simp; omega)) _).alloc (by first | (simp; done) | (simp; omega)) _) (by omega) _ _, blk_put_other (by repeat (first | (refine blk_new _ _ _ _ ?_; (simp; done)) | apply blk.alloc)) (by omega), (blk_put (blk_new _ _ _ _ (by simp)) _).eq (bys_ext fun i hi => by simp [idTo])⟩
  case round =>
    obtain ⟨k, hk, rfl, hB, br, bo⟩ := hrel
    by_cases hlt : (k : Int) < n
    · skip
      have fo := bo.free (k)
      have co := bo.cell (k) _ (bys_get (by omega))
      go_wp2
      go_roundw
      case rel => exact ⟨k + 1, by omega, by go_num, hB.setCell (by first | (simp; done) | (simp; omega)) _, br.other _ _ (by omega), (bo.set _ _).eq (idTo_set k)⟩
      case measure => simp [intOf]; omega
    · have hkn : k = n.toNat := by omega
      subst hkn
      go_wp2_with (first | (refine wpList_load_part rfl 25 _ rfl _ _ rfl (bys (idTo n.toNat)) _ und_plc rfl inf_plc (cells_of_blk0 bo) ?_) | (refine wpList_store_row rfl 25 _ _ rfl _ rfl _ rfl inf_plc _ _ (br) (by simp [bys_size]) (flat_bys _) ?_))
      refine bodyPost_ret (v := .agg (bys (idTo n.toNat))) (by exact results_part rfl _ _ _ _ _ _ rfl und_plc rfl inf_plc (cells_of_blk0 (blk_put br _))) rfl ?_
      exact ⟨rfl, below_put hB (by omega) _ _⟩

set_option maxRecDepth 100000 in
set_option maxHeartbeats 1000000 in
theorem then_any (p q : Nat → Nat) (n : Int) (w : World) (h0 : 0 ≤ n) (h1 : n ≤ 10) (hp : ∀ i : Nat, (i : Int) < n → p i < 10) :
    Calls Try.prog 135 #[.agg (bys p), .agg (bys q), .int .i64 n] w fun e w' => e = .returned (.agg (bys (thTo p q n.toNat))) ∧ Below w.heap.size w w' := by
  have hz := zero_plc
  have hbd := build_plc
  go_enter Try.func135, Try.ntmps135
  go_wp2_with (first | (refine wpList_store_row rfl 25 _ _ rfl _ rfl _ rfl inf_plc _ _ (blk_new _ _ _ _ (by simp)) (by simp [bys_size]) (flat_bys _) ?_))
  clear hz hbd
  go_loopw [11] (fun i wr => ∃ k : Nat, (k : Int) ≤ n ∧ i = .int .i64 k ∧ Below w.heap.size w wr ∧ blk wr (w.heap.size) (bys p) 25 ∧ blk wr (w.heap.size + 1) (bys q) 25 ∧ blk wr (w.heap.size + 1 + 1) (bys fun _ => 0) 25 ∧ blk wr (w.heap.size + 1 + 1 + 1) (bys (thTo p q k)) 25) (fun i _ => (n - intOf i).toNat)
  case atStart => exact ⟨0, by omega, rfl, below_put (((((Below.refl _ _).alloc (by first | (simp; done) | (simp; omega)) _).alloc (by first | (simp; done) | (simp; omega)) _).alloc (by first | (simp; done) | (simp; omega)) _).alloc (by first | (simp; done) | (simp; omega)) _) (by omega) _ _, blk_put_other (by repeat (first | (refine blk_new _ _ _ _ ?_; (simp; done)) | apply blk.alloc)) (by omega), blk_put_other (by repeat (first | (refine blk_new _ _ _ _ ?_; (simp; done)) | apply blk.alloc)) (by omega), blk_put_other (by repeat (first | (refine blk_new _ _ _ _ ?_; (simp; done)) | apply blk.alloc)) (by omega), (blk_put (blk_new _ _ _ _ (by simp)) _).eq (bys_ext fun i hi => by simp [thTo])⟩
  case round =>
    obtain ⟨k, hk, rfl, hB, b0, b1, br, bo⟩ := hrel
    by_cases hlt : (k : Int) < n
    · have hp1 := hp k hlt
      have c0 := b0.cell k _ (bys_get (by omega))
      have c1 := b1.cell (p k) _ (bys_get hp1)
      have fo := bo.free (k)
      have co := bo.cell (k) _ (bys_get (by omega))
      go_wp2
      go_roundw
      case rel => exact ⟨k + 1, by omega, by go_num, hB.setCell (by first | (simp; done) | (simp; omega)) _, b0.other _ _ (by omega), b1.other _ _ (by omega), br.other _ _ (by omega), (bo.set _ _).eq (thTo_set p q k)⟩
      case measure => simp [intOf]; omega
    · have hkn : k = n.toNat := by omega
      subst hkn
      go_wp2_with (first | (refine wpList_load_part rfl 25 _ rfl _ _ rfl (bys (thTo p q n.toNat)) _ und_plc rfl inf_plc (cells_of_blk0 bo) ?_) | (refine wpList_store_row rfl 25 _ _ rfl _ rfl _ rfl inf_plc _ _ (br) (by simp [bys_size]) (flat_bys _) ?_))
      refine bodyPost_ret (v := .agg (bys (thTo p q n.toNat))) (by exact results_part rfl _ _ _ _ _ _ rfl und_plc rfl inf_plc (cells_of_blk0 (blk_put br _))) rfl ?_
      exact ⟨rfl, below_put hB (by omega) _ _⟩

set_option maxRecDepth 100000 in
set_option maxHeartbeats 1000000 in
theorem l01Then_any (p q : Nat → Nat) (n : Int) (w : World) (h0 : 0 ≤ n) (h1 : n ≤ 10) (hp : ∀ i : Nat, (i : Int) < n → p i < 10) :
    Calls Try.prog 137 #[.agg (bys p), .agg (bys q), .int .i64 n] w fun e w' => e = .returned (.agg (bys (thTo p q n.toNat))) ∧ Below w.heap.size w w' := by
  have hz := zero_plc
  have hbd := build_plc
  go_enter Try.func137, Try.ntmps137
  go_wp2_with (first | (refine wpList_store_row rfl 25 _ _ rfl _ rfl _ rfl inf_plc _ _ (blk_new _ _ _ _ (by simp)) (by simp [bys_size]) (flat_bys _) ?_))
  clear hz hbd
  go_loopw [8] (fun i wr => ∃ k : Nat, (k : Int) ≤ n ∧ i = .int .i64 k ∧ Below w.heap.size w wr ∧ blk wr (w.heap.size) (bys p) 25 ∧ blk wr (w.heap.size + 1) (bys q) 25 ∧ blk wr (w.heap.size + 1 + 1) (bys fun _ => 0) 25 ∧ blk wr (w.heap.size + 1 + 1 + 1) (bys (thTo p q k)) 25) (fun i _ => (n - intOf i).toNat)
  case atStart => exact ⟨0, by omega, rfl, below_put (((((Below.refl _ _).alloc (by first | (simp; done) | (simp; omega)) _).alloc (by first | (simp; done) | (simp; omega)) _).alloc (by first | (simp; done) | (simp; omega)) _).alloc (by first | (simp; done) | (simp; omega)) _) (by omega) _ _, blk_put_other (by repeat (first | (refine blk_new _ _ _ _ ?_; (simp; done)) | apply blk.alloc)) (by omega), blk_put_other (by repeat (first | (refine blk_new _ _ _ _ ?_; (simp; done)) | apply blk.alloc)) (by omega), blk_put_other (by repeat (first | (refine blk_new _ _ _ _ ?_; (simp; done)) | apply blk.alloc)) (by omega), (blk_put (blk_new _ _ _ _ (by simp)) _).eq (bys_ext fun i hi => by simp [thTo])⟩
  case round =>
    obtain ⟨k, hk, rfl, hB, b0, b1, br, bo⟩ := hrel
    by_cases hlt : (k : Int) < n
    · have hp1 := hp k hlt
      have c0 := b0.cell k _ (bys_get (by omega))
      have c1 := b1.cell (p k) _ (bys_get hp1)
      have fo := bo.free (k)
      have co := bo.cell (k) _ (bys_get (by omega))
      go_wp2
      go_roundw
      case rel => exact ⟨k + 1, by omega, by go_num, hB.setCell (by first | (simp; done) | (simp; omega)) _, b0.other _ _ (by omega), b1.other _ _ (by omega), br.other _ _ (by omega), (bo.set _ _).eq (thTo_set p q k)⟩
      case measure => simp [intOf]; omega
    · have hkn : k = n.toNat := by omega
      subst hkn
      go_wp2_with (first | (refine wpList_load_part rfl 25 _ rfl _ _ rfl (bys (thTo p q n.toNat)) _ und_plc rfl inf_plc (cells_of_blk0 bo) ?_) | (refine wpList_store_row rfl 25 _ _ rfl _ rfl _ rfl inf_plc _ _ (br) (by simp [bys_size]) (flat_bys _) ?_))
      refine bodyPost_ret (v := .agg (bys (thTo p q n.toNat))) (by exact results_part rfl _ _ _ _ _ _ rfl und_plc rfl inf_plc (cells_of_blk0 (blk_put br _))) rfl ?_
      exact ⟨rfl, below_put hB (by omega) _ _⟩

set_option maxRecDepth 100000 in
set_option maxHeartbeats 1000000 in
theorem back_any (p : Nat → Nat) (n : Int) (w : World) (h0 : 0 ≤ n) (h1 : n ≤ 10) (hp : ∀ i : Nat, (i : Int) < n → p i < 10) :
    Calls Try.prog 138 #[.agg (bys p), .int .i64 n] w fun e w' => e = .returned (.agg (bys (bkTo p n.toNat))) ∧ Below w.heap.size w w' := by
  have hz := zero_plc
  have hbd := build_plc
  go_enter Try.func138, Try.ntmps138
  go_wp2_with (first | (refine wpList_store_row rfl 25 _ _ rfl _ rfl _ rfl inf_plc _ _ (blk_new _ _ _ _ (by simp)) (by simp [bys_size]) (flat_bys _) ?_))
  clear hz hbd
  go_loopw [9] (fun i wr => ∃ k : Nat, (k : Int) ≤ n ∧ i = .int .i64 k ∧ Below w.heap.size w wr ∧ blk wr (w.heap.size) (bys p) 25 ∧ blk wr (w.heap.size + 1) (bys fun _ => 0) 25 ∧ blk wr (w.heap.size + 1 + 1) (bys (bkTo p k)) 25) (fun i _ => (n - intOf i).toNat)
  case atStart => exact ⟨0, by omega, rfl, below_put ((((Below.refl _ _).alloc (by first | (simp; done) | (simp; omega)) _).alloc (by first | (simp; done) | (simp; omega)) _).alloc (by first | (simp; done) | (simp; omega)) _) (by omega) _ _, blk_put_other (by repeat (first | (refine blk_new _ _ _ _ ?_; (simp; done)) | apply blk.alloc)) (by omega), blk_put_other (by repeat (first | (refine blk_new _ _ _ _ ?_; (simp; done)) | apply blk.alloc)) (by omega), (blk_put (blk_new _ _ _ _ (by simp)) _).eq (bys_ext fun i hi => by simp [bkTo])⟩
  case round =>
    obtain ⟨k, hk, rfl, hB, b0, br, bo⟩ := hrel
    by_cases hlt : (k : Int) < n
    · have hp1 := hp k hlt
      have c0 := b0.cell k _ (bys_get (by omega))
      have fo := bo.free (p k)
      have co := bo.cell (p k) _ (bys_get (by omega))
      go_wp2
      go_roundw
      case rel => exact ⟨k + 1, by omega, by go_num, hB.setCell (by first | (simp; done) | (simp; omega)) _, b0.other _ _ (by omega), br.other _ _ (by omega), (bo.set _ _).eq (bkTo_set p k)⟩
      case measure => simp [intOf]; omega
    · have hkn : k = n.toNat := by omega
      subst hkn
      go_wp2_with (first | (refine wpList_load_part rfl 25 _ rfl _ _ rfl (bys (bkTo p n.toNat)) _ und_plc rfl inf_plc (cells_of_blk0 bo) ?_) | (refine wpList_store_row rfl 25 _ _ rfl _ rfl _ rfl inf_plc _ _ (br) (by simp [bys_size]) (flat_bys _) ?_))
      refine bodyPost_ret (v := .agg (bys (bkTo p n.toNat))) (by exact results_part rfl _ _ _ _ _ _ rfl und_plc rfl inf_plc (cells_of_blk0 (blk_put br _))) rfl ?_
      exact ⟨rfl, below_put hB (by omega) _ _⟩

set_option maxRecDepth 100000 in
set_option maxHeartbeats 1000000 in
theorem l01Back_any (p : Nat → Nat) (n : Int) (w : World) (h0 : 0 ≤ n) (h1 : n ≤ 10) (hp : ∀ i : Nat, (i : Int) < n → p i < 10) :
    Calls Try.prog 139 #[.agg (bys p), .int .i64 n] w fun e w' => e = .returned (.agg (bys (bkTo p n.toNat))) ∧ Below w.heap.size w w' := by
  have hz := zero_plc
  have hbd := build_plc
  go_enter Try.func139, Try.ntmps139
  go_wp2_with (first | (refine wpList_store_row rfl 25 _ _ rfl _ rfl _ rfl inf_plc _ _ (blk_new _ _ _ _ (by simp)) (by simp [bys_size]) (flat_bys _) ?_))
  clear hz hbd
  go_loopw [6] (fun i wr => ∃ k : Nat, (k : Int) ≤ n ∧ i = .int .i64 k ∧ Below w.heap.size w wr ∧ blk wr (w.heap.size) (bys p) 25 ∧ blk wr (w.heap.size + 1) (bys fun _ => 0) 25 ∧ blk wr (w.heap.size + 1 + 1) (bys (bkTo p k)) 25) (fun i _ => (n - intOf i).toNat)
  case atStart => exact ⟨0, by omega, rfl, below_put ((((Below.refl _ _).alloc (by first | (simp; done) | (simp; omega)) _).alloc (by first | (simp; done) | (simp; omega)) _).alloc (by first | (simp; done) | (simp; omega)) _) (by omega) _ _, blk_put_other (by repeat (first | (refine blk_new _ _ _ _ ?_; (simp; done)) | apply blk.alloc)) (by omega), blk_put_other (by repeat (first | (refine blk_new _ _ _ _ ?_; (simp; done)) | apply blk.alloc)) (by omega), (blk_put (blk_new _ _ _ _ (by simp)) _).eq (bys_ext fun i hi => by simp [bkTo])⟩
  case round =>
    obtain ⟨k, hk, rfl, hB, b0, br, bo⟩ := hrel
    by_cases hlt : (k : Int) < n
    · have hp1 := hp k hlt
      have c0 := b0.cell k _ (bys_get (by omega))
      have fo := bo.free (p k)
      have co := bo.cell (p k) _ (bys_get (by omega))
      go_wp2
      go_roundw
      case rel => exact ⟨k + 1, by omega, by go_num, hB.setCell (by first | (simp; done) | (simp; omega)) _, b0.other _ _ (by omega), br.other _ _ (by omega), (bo.set _ _).eq (bkTo_set p k)⟩
      case measure => simp [intOf]; omega
    · have hkn : k = n.toNat := by omega
      subst hkn
      go_wp2_with (first | (refine wpList_load_part rfl 25 _ rfl _ _ rfl (bys (bkTo p n.toNat)) _ und_plc rfl inf_plc (cells_of_blk0 bo) ?_) | (refine wpList_store_row rfl 25 _ _ rfl _ rfl _ rfl inf_plc _ _ (br) (by simp [bys_size]) (flat_bys _) ?_))
      refine bodyPost_ret (v := .agg (bys (bkTo p n.toNat))) (by exact results_part rfl _ _ _ _ _ _ rfl und_plc rfl inf_plc (cells_of_blk0 (blk_put br _))) rfl ?_
      exact ⟨rfl, below_put hB (by omega) _ _⟩

set_option maxRecDepth 100000 in
set_option maxHeartbeats 1000000 in
theorem column_any (n : Int) (t : Nat → Nat → Nat) (y : Nat) (w : World) (hy : y < 10) :
    Calls Try.prog 237 #[.agg (sqs n t), .int .u8 y] w fun e w' => e = .returned (.agg (bys (fun x => t x y))) ∧ Below w.heap.size w w' := by
  have hz := zero_plc
  have hbd := build_plc
  go_enter Try.func237, Try.ntmps237
  go_wp2_with (first | (refine wpList_store_row rfl 25 _ _ rfl _ rfl _ rfl inf_plc _ _ (blk_new _ _ _ _ (by simp)) (by simp [bys_size]) (flat_bys _) ?_))
  clear hz hbd
  go_loopw [8] (fun i wr => ∃ k : Nat, (k : Int) ≤ 10 ∧ i = .int .i64 k ∧ Below w.heap.size w wr ∧ blk wr (w.heap.size) (sqs n t) 37 ∧ blk wr (w.heap.size + 1) (bys fun _ => 0) 25 ∧ blk wr (w.heap.size + 1 + 1) (bys (clTo t y k)) 25) (fun i _ => (10 - intOf i).toNat)
  case atStart => exact ⟨0, by omega, rfl, below_put ((((Below.refl _ _).alloc (by first | (simp; done) | (simp; omega)) _).alloc (by first | (simp; done) | (simp; omega)) _).alloc (by first | (simp; done) | (simp; omega)) _) (by omega) _ _, blk_put_other (by repeat (first | (refine blk_new _ _ _ _ ?_; (simp; done)) | apply blk.alloc)) (by omega), blk_put_other (by repeat (first | (refine blk_new _ _ _ _ ?_; (simp; done)) | apply blk.alloc)) (by omega), (blk_put (blk_new _ _ _ _ (by simp)) _).eq (bys_ext fun i hi => by simp [clTo])⟩
  case round =>
    obtain ⟨k, hk, rfl, hB, b0, br, bo⟩ := hrel
    by_cases hlt : (k : Int) < 10
    · have c0 := b0.cell _ _ (sqs_get (n := n) (t := t) (x := k) (y := y) (by omega) hy)
      have fo := bo.free (k)
      have co := bo.cell (k) _ (bys_get (by omega))
      go_wp2
      go_roundw
      case rel => exact ⟨k + 1, by omega, by go_num, hB.setCell (by first | (simp; done) | (simp; omega)) _, b0.other _ _ (by omega), br.other _ _ (by omega), (bo.set _ _).eq (clTo_set t y k)⟩
      case measure => simp [intOf]; omega
    · obtain rfl : k = 10 := by omega
      rw [bys_ext (g := fun x => t x y) (clTo_all t y)] at bo
      go_wp2_with (first | (refine wpList_load_part rfl 25 _ rfl _ _ rfl (bys (fun x => t x y)) _ und_plc rfl inf_plc (cells_of_blk0 bo) ?_) | (refine wpList_store_row rfl 25 _ _ rfl _ rfl _ rfl inf_plc _ _ (br) (by simp [bys_size]) (flat_bys _) ?_))
      refine bodyPost_ret (v := .agg (bys (fun x => t x y))) (by exact results_part rfl _ _ _ _ _ _ rfl und_plc rfl inf_plc (cells_of_blk0 (blk_put br _))) rfl ?_
      exact ⟨rfl, below_put hB (by omega) _ _⟩

set_option maxRecDepth 100000 in
set_option maxHeartbeats 1000000 in
theorem l01Column_any (n : Int) (t : Nat → Nat → Nat) (y : Nat) (w : World) (h0 : 0 ≤ n) (h1 : n ≤ 10) (hy : y < 10) :
    Calls Try.prog 257 #[.agg (sqs n t), .int .u8 y] w fun e w' => e = .returned (.agg (bys (clTo t y n.toNat))) ∧ Below w.heap.size w w' := by
  have hz := zero_plc
  have hbd := build_plc
  go_enter Try.func257, Try.ntmps257
  go_wp2_with (first | (refine wpList_store_row rfl 25 _ _ rfl _ rfl _ rfl inf_plc _ _ (blk_new _ _ _ _ (by simp)) (by simp [bys_size]) (flat_bys _) ?_))
  clear hz hbd
  go_loopw [6] (fun i wr => ∃ k : Nat, (k : Int) ≤ n ∧ i = .int .i64 k ∧ Below w.heap.size w wr ∧ blk wr (w.heap.size) (sqs n t) 37 ∧ blk wr (w.heap.size + 1) (bys fun _ => 0) 25 ∧ blk wr (w.heap.size + 1 + 1) (bys (clTo t y k)) 25) (fun i _ => (n - intOf i).toNat)
  case atStart => exact ⟨0, by omega, rfl, below_put ((((Below.refl _ _).alloc (by first | (simp; done) | (simp; omega)) _).alloc (by first | (simp; done) | (simp; omega)) _).alloc (by first | (simp; done) | (simp; omega)) _) (by omega) _ _, blk_put_other (by repeat (first | (refine blk_new _ _ _ _ ?_; (simp; done)) | apply blk.alloc)) (by omega), blk_put_other (by repeat (first | (refine blk_new _ _ _ _ ?_; (simp; done)) | apply blk.alloc)) (by omega), (blk_put (blk_new _ _ _ _ (by simp)) _).eq (bys_ext fun i hi => by simp [clTo])⟩
  case round =>
    obtain ⟨k, hk, rfl, hB, b0, br, bo⟩ := hrel
    by_cases hlt : (k : Int) < n
    · have cn := b0.cell _ _ (sqs_order n t)
      have c0 := b0.cell _ _ (sqs_get (n := n) (t := t) (x := k) (y := y) (by omega) hy)
      have fo := bo.free (k)
      have co := bo.cell (k) _ (bys_get (by omega))
      go_wp2
      go_roundw
      case rel => exact ⟨k + 1, by omega, by go_num, hB.setCell (by first | (simp; done) | (simp; omega)) _, b0.other _ _ (by omega), br.other _ _ (by omega), (bo.set _ _).eq (clTo_set t y k)⟩
      case measure => simp [intOf]; omega
    · have cn := b0.cell _ _ (sqs_order n t)
      have hkn : k = n.toNat := by omega
      subst hkn
      go_wp2_with (first | (refine wpList_load_part rfl 25 _ rfl _ _ rfl (bys (clTo t y n.toNat)) _ und_plc rfl inf_plc (cells_of_blk0 bo) ?_) | (refine wpList_store_row rfl 25 _ _ rfl _ rfl _ rfl inf_plc _ _ (br) (by simp [bys_size]) (flat_bys _) ?_))
      refine bodyPost_ret (v := .agg (bys (clTo t y n.toNat))) (by exact results_part rfl _ _ _ _ _ _ rfl und_plc rfl inf_plc (cells_of_blk0 (blk_put br _))) rfl ?_
      exact ⟨rfl, below_put hB (by omega) _ _⟩

set_option maxRecDepth 100000 in
set_option maxHeartbeats 1000000 in
theorem row_any (n : Int) (t : Nat → Nat → Nat) (x : Nat) (w : World) (hx : x < 10) :
    Calls Try.prog 236 #[.agg (sqs n t), .int .u8 x] w fun e w' => e = .returned (.agg (bys (t x))) ∧ Below w.heap.size w w' := by
  have hz := zero_plc
  have b1 := (blk_new w (sqs n t) 37 w.heap.size rfl).alloc (.cells (bys fun _ => 0) 25)
  have b2 := blk_new (w.alloc (.cells (sqs n t) 37)) (bys fun _ => 0) 25 (w.heap.size + 1) (by simp)
  go_enter Try.func236, Try.ntmps236
  go_wp2_with (first | (refine wpList_load_part rfl 24 _ rfl _ _ rfl (bys (t x)) _ und_bys rfl inf_bys (cells_of_blk b1 _ _ (sqs_row hx)) ?_) | (refine wpList_store_row rfl 25 _ _ rfl _ rfl _ rfl inf_plc _ _ (b2) (by simp [bys_size]) (flat_bys _) ?_))
  refine bodyPost_ret (v := .agg (bys (t x))) (by exact results_part rfl _ _ _ _ _ _ rfl und_plc rfl inf_plc (cells_of_blk0 (blk_put b2 _))) rfl ?_
  exact ⟨rfl, below_put (((Below.refl _ _).alloc (by simp) _).alloc (by simp) _) (by omega) _ _⟩

set_option maxRecDepth 100000 in
set_option maxHeartbeats 1000000 in
theorem l01Row_any (n : Int) (t : Nat → Nat → Nat) (x : Nat) (w : World) (hx : x < 10) :
    Calls Try.prog 258 #[.agg (sqs n t), .int .u8 x] w fun e w' => e = .returned (.agg (bys (t x))) ∧ Below w.heap.size w w' := by
  have hz := zero_plc
  have b1 := (blk_new w (sqs n t) 37 w.heap.size rfl).alloc (.cells (bys fun _ => 0) 25)
  have b2 := blk_new (w.alloc (.cells (sqs n t) 37)) (bys fun _ => 0) 25 (w.heap.size + 1) (by simp)
  go_enter Try.func258, Try.ntmps258
  go_wp2_with (first | (refine wpList_load_part rfl 24 _ rfl _ _ rfl (bys (t x)) _ und_bys rfl inf_bys (cells_of_blk b1 _ _ (sqs_row hx)) ?_) | (refine wpList_store_row rfl 25 _ _ rfl _ rfl _ rfl inf_plc _ _ (b2) (by simp [bys_size]) (flat_bys _) ?_))
  refine bodyPost_ret (v := .agg (bys (t x))) (by exact results_part rfl _ _ _ _ _ _ rfl und_plc rfl inf_plc (cells_of_blk0 (blk_put b2 _))) rfl ?_
  exact ⟨rfl, below_put (((Below.refl _ _).alloc (by simp) _).alloc (by simp) _) (by omega) _ _⟩
end Go.Proofs.Ythdldlpflieeoaa

/- Draws of numbers from a list, and of permutations. -/
namespace Go.Proofs.Ythdldlpflieeoaa
set_option linter.unusedSimpArgs false
set_option linter.unusedVariables false
open Go Go.RowKit

def i64V (xs : List Int) : Array Value := (xs.map fun z => Value.int .i64 z).toArray
theorem i64V_get {xs : List Int} {j : Nat} (h : j < xs.length) : (i64V xs)[j]? = some (.int .i64 xs[j]) := by
  unfold i64V
  rw [List.getElem?_toArray, List.getElem?_map, List.getElem?_eq_getElem h]; rfl
set_option maxRecDepth 100000 in
set_option maxHeartbeats 1000000 in
theorem pick_any (l : List Nat) (hb : Byts l) (hl : l.length ≤ 4096) (b c : Nat) (p : Option Addr) (xs : List Int) (h0 : 0 < xs.length) (h1 : xs.length ≤ 100) (g cap : Nat) (w0 w : World) (X : List Ent) (hbb : w0.heap.size ≤ b) (M : Mm no w0 w (Ent.sv b p l.length c :: Ent.cd l.length p (cdF l) :: .box g (i64V xs) 2 :: X)) :
    Calls Try.prog 145 #[.pointer (some ⟨b, 0, none⟩), .slice (some ⟨g, 0, none⟩) xs.length cap] w fun e w' => ∃ z, z ∈ xs ∧ e = .returned (.int .i64 z) ∧ Mm no w0 w' (Ent.sv b p l.length c :: Ent.cd l.length p (cdF l) :: .box g (i64V xs) 2 :: X) := by
  have HX := Hid2.mk (next_dc l hb hl b c p (xs.length : Int))
  clear hb hl
  have C := M.ruleAll; simp only [Go.Proofs.Ythdldlpflieeoaa.ruleAll] at C
  go_enter Try.func145, Try.ntmps145
  go_wp2_with (first | (go_at_call 132; fail))
  refine (HX.out.at M 0 1 hbb rfl rfl rfl).mono ?_
  rintro e w1 ⟨_, rfl, ⟨x, rfl, hx⟩, M9⟩
  clear M; (try clear C)
  have M := M9
  clear M9 HX
  have hxl : x < xs.length := by omega
  have hxi : (x : Int) < (xs.length : Int) := by omega
  have hg := i64V_get hxl
  have hmem : xs[x] ∈ xs := List.getElem_mem hxl
  generalize xs[x] = z at hg hmem
  obtain ⟨cs, hcs⟩ : ∃ cs, cs = i64V xs := ⟨_, rfl⟩
  rw [← hcs] at M hg
  have HCS := Hid2.mk hcs
  clear hcs
  have C := M.ruleAll; simp only [Go.Proofs.Ythdldlpflieeoaa.ruleAll] at C
  go_wp2
  go_ret
  exact ⟨z, hmem, rfl, HCS.out ▸ M⟩

/-- A permutation of N numbers, with 0 beyond. -/
def PlcQ (N : Nat) (v : Value) : Prop := ∃ f : Nat → Nat, v = .agg (bys f) ∧ IsPm (N : Int) f
def swF (f : Nat → Nat) (k x : Nat) : Nat → Nat := fun j => if j = x then f k else if j = k then f x else f j
theorem swF_is {N k x : Nat} {f : Nat → Nat} (h : IsPm (N : Int) f) (hk : k < N) (hx : x < N) : IsPm (N : Int) (swF f k x) := by
  have hp := h.toPm
  refine pm_is (by have := h.lo; omega) (by have := h.hi; omega) ⟨fun i hi => ?_, fun i j hi hj e => ?_⟩ fun i hi hn => ?_
  · unfold swF
    split
    · exact hp.lt k hk
    · split
      · exact hp.lt x hx
      · exact hp.lt i hi
  · have key : ∀ i, swF f k x i = f (if i = x then k else if i = k then x else i) := fun i => by
      unfold swF
      split
      · rfl
      · split <;> rfl
    rw [key, key] at e
    have hlt : ∀ i, i < N → (if i = x then k else if i = k then x else i) < N := fun i hi => by split; exact hk; split; exact hx; exact hi
    have := hp.inj _ _ (hlt i hi) (hlt j hj) e
    (repeat' split at this) <;> omega
  · unfold swF
    rw [if_neg (by omega), if_neg (by omega)]
    exact h.zero i hi (by omega)

set_option maxRecDepth 100000 in
set_option maxHeartbeats 2000000 in
theorem places_dc (l : List Nat) (hb : Byts l) (hl : l.length ≤ 4096) (b c : Nat) (p : Option Addr) (N : Nat) (h0 : 1 ≤ N) (h1 : N ≤ 10) : DrawC 133 #[.pointer (some ⟨b, 0, none⟩), .int .i64 (N : Int)] l b p c (PlcQ N) := fun w0 w X hbb M => by
  have HX := Hid2.mk (fun n => next_dc l hb hl b c p n)
  have HS := Hid2.mk (fun w1 => l01Same_any (N : Int) w1 (by omega) (by omega))
  clear hb hl
  have C := M.ruleAll; simp only [Go.Proofs.Ythdldlpflieeoaa.ruleAll] at C
  go_enter Try.func133, Try.ntmps133
  go_wp2_with (first | ((fail_if_success have := h_b4); ((with_reducible apply wpM_alloc' M 25 (bys fun _ => 0)); rfl; exact ⟨rfl, _, zero_plc _, rfl⟩; clear M; (try clear C); intro b4 w9 h_b4 M; have C := M.ruleAll; simp only [Go.Proofs.Ythdldlpflieeoaa.ruleAll] at C)) | ((with_reducible apply wpM_alloc' M 25 (bys fun _ => 0)); rfl; exact ⟨rfl, _, zero_plc _, rfl⟩; clear M; (try clear C); intro b5 w9 h_b5 M; have C := M.ruleAll; simp only [Go.Proofs.Ythdldlpflieeoaa.ruleAll] at C) | (go_at_call 204; ((with_reducible refine (HS.out _).mono ?_); rintro e w1 ⟨rfl, hb⟩; have hsz := M.size; (try (have G9 := G.later hb; clear G; have G := G9; clear G9)); have M9 := M.later hb; clear M; (try clear C); have M := M9; clear M9; have C := M.ruleAll; simp only [Go.Proofs.Ythdldlpflieeoaa.ruleAll] at C)) | ((with_reducible apply wpM_sta' M 0 25 (bys (idTo N))); rfl; rfl; rfl; rfl; (first | exact .inl (by assumption) | exact .inr rfl | exact .inr (by assumption)); exact ⟨rfl, inf_plc.trans (congrArg some (bys_size ..).symm), flat_bys _⟩; (simp only [entCells, List.getElem?_cons_zero, List.getElem?_cons_succ, bys_size, bys_size]); clear M; (try clear C); intro w9 M; simp only [List.set_cons_zero, List.set_cons_succ, entBlk, entT, List.getElem?_cons_zero, List.getElem?_cons_succ] at M; have C := M.ruleAll; simp only [Go.Proofs.Ythdldlpflieeoaa.ruleAll] at C) | (go_at_call 132; fail))
  refine ((HX.out 6).at M 2 3 hbb rfl rfl rfl).mono ?_
  rintro e w2 ⟨_, rfl, ⟨x, rfl, hx⟩, M9⟩
  clear M; (try clear C)
  have M := M9
  clear M9
  have C := M.ruleAll; simp only [Go.Proofs.Ythdldlpflieeoaa.ruleAll] at C
  by_cases hx0 : x = 0
  · subst hx0
    go_wp2_with (first | ((with_reducible apply wpM_lda' M 0 25 0 (bys (idTo N))); rfl; rfl; rfl; exact ⟨rfl, inf_plc.trans (congrArg some (bys_size ..).symm), _, und_plc, rfl⟩; exact whole_of rfl) | ((with_reducible apply wpM_sta' M 1 25 (bys (idTo N))); rfl; rfl; rfl; rfl; (first | exact .inl (by assumption) | exact .inr rfl | exact .inr (by assumption)); exact ⟨rfl, inf_plc.trans (congrArg some (bys_size ..).symm), flat_bys _⟩; (simp only [entCells, List.getElem?_cons_zero, List.getElem?_cons_succ, bys_size, bys_size]); clear M; (try clear C); intro w9 M; simp only [List.set_cons_zero, List.set_cons_succ, entBlk, entT, List.getElem?_cons_zero, List.getElem?_cons_succ] at M; have C := M.ruleAll; simp only [Go.Proofs.Ythdldlpflieeoaa.ruleAll] at C))
    refine bodyPost_ret (v := .agg (bys (idTo N))) (by exact results_part rfl _ _ _ _ _ _ rfl und_plc rfl inf_plc (cells_of_blk0 (M.box 1 rfl))) rfl ?_
    exact ⟨_, rfl, ⟨_, rfl, idTo_is h0 h1⟩, (M.drop 0).drop 0⟩
  have hx0' : ((x : Int) == 0) = false := by simpa using hx0
  go_wp2
  clear hx0' hx0 hx
  go_loopw [6] (fun i wr => ∃ (k : Nat) (f : Nat → Nat), k < N ∧ i = .int .i64 (k : Int) ∧ IsPm (N : Int) f ∧ Mm no w0 wr (.box b5 (bys f) 25 :: .box b4 (bys fun _ => 0) 25 :: Ent.sv b p l.length c :: Ent.cd l.length p (cdF l) :: X)) (fun i _ => (intOf i).toNat)
  case atStart => exact ⟨N - 1, idTo N, by omega, by go_num, idTo_is h0 h1, M⟩
  case round =>
    obtain ⟨k, f, hk, rfl, hf, M9⟩ := hrel
    clear M; (try clear C)
    have M := M9
    clear M9
    have HF := Hid2.mk hf
    have hlt := fun i (hi : i < N) => hf.toPm.lt i hi
    clear hf
    have C := M.ruleAll; simp only [Go.Proofs.Ythdldlpflieeoaa.ruleAll] at C
    by_cases hk0 : 0 < k
    · have hk0' : (0 : Int) < (k : Int) := by omega
      have hk10 : (k : Int) < 10 := by omega
      go_wp2_with (first | (go_at_call 132; fail))
      refine ((HX.out _).at M 2 3 hbb rfl rfl rfl).mono ?_
      rintro e w3 ⟨_, rfl, ⟨y, rfl, hy⟩, M9⟩
      clear M; (try clear C)
      have M := M9
      clear M9
      have hy10 : (y : Int) < 10 := by omega
      have hyN : y < N := by omega
      have HQ := Hid2.mk (swF_is HF.out hk hyN)
      have e1 := bys_get (f := f) (i := k) (by omega)
      have e2 := bys_get (f := f) (i := y) (by omega)
      have l1 := hlt k hk
      have l2 := hlt y hyN
      have HST := Hid2.mk (show (((bys f).setIfInBounds k (.int .u8 ((f y : Nat) : Int))).setIfInBounds y (.int .u8 ((f k : Nat) : Int))) = bys (swF f k y) by
        rw [bys_set, bys_set]
        exact bys_ext fun i _ => rfl)
      clear hlt
      generalize f k = u at *
      generalize f y = v at *
      have C := M.ruleAll; simp only [Go.Proofs.Ythdldlpflieeoaa.ruleAll] at C
      go_wp2_with (first | ((with_reducible apply wpM_st' M 0 5 (k) ((bys f).setIfInBounds k (.int .u8 (v : Int)))); rfl; rfl; rfl; (first | exact .inl (by assumption) | exact .inr rfl | exact .inr (by assumption)); exact ⟨rfl, rfl, by kernel_rfl⟩; (exact Nat.lt_of_lt_of_eq (by omega) (bys_size _).symm); exact rfl; clear M; (try clear C); intro w9 M; simp only [List.set_cons_zero, List.set_cons_succ, entBlk, entT, List.getElem?_cons_zero, List.getElem?_cons_succ] at M; have C := M.ruleAll; simp only [Go.Proofs.Ythdldlpflieeoaa.ruleAll] at C) | ((with_reducible apply wpM_st' M 0 5 (y) (bys (swF f k y))); rfl; rfl; rfl; (first | exact .inl (by assumption) | exact .inr rfl | exact .inr (by assumption)); exact ⟨rfl, rfl, by kernel_rfl⟩; (exact Nat.lt_of_lt_of_eq (by omega) ((Array.size_setIfInBounds.trans (bys_size _))).symm); exact HST.out; clear M; (try clear C); intro w9 M; simp only [List.set_cons_zero, List.set_cons_succ, entBlk, entT, List.getElem?_cons_zero, List.getElem?_cons_succ] at M; have C := M.ruleAll; simp only [Go.Proofs.Ythdldlpflieeoaa.ruleAll] at C))
      go_roundw
      case rel => exact ⟨k - 1, _, by omega, by go_num, HQ.out, M⟩
      case measure => simp [intOf]; omega
    · obtain rfl : k = 0 := by omega
      go_wp2_with (first | ((with_reducible apply wpM_lda' M 0 25 0 (bys f)); rfl; rfl; rfl; exact ⟨rfl, inf_plc.trans (congrArg some (bys_size ..).symm), _, und_plc, rfl⟩; exact whole_of rfl) | ((with_reducible apply wpM_sta' M 1 25 (bys f)); rfl; rfl; rfl; rfl; (first | exact .inl (by assumption) | exact .inr rfl | exact .inr (by assumption)); exact ⟨rfl, inf_plc.trans (congrArg some (bys_size ..).symm), flat_bys _⟩; (simp only [entCells, List.getElem?_cons_zero, List.getElem?_cons_succ, bys_size, bys_size]); clear M; (try clear C); intro w9 M; simp only [List.set_cons_zero, List.set_cons_succ, entBlk, entT, List.getElem?_cons_zero, List.getElem?_cons_succ] at M; have C := M.ruleAll; simp only [Go.Proofs.Ythdldlpflieeoaa.ruleAll] at C))
      refine bodyPost_ret (v := .agg (bys f)) (by exact results_part rfl _ _ _ _ _ _ rfl und_plc rfl inf_plc (cells_of_blk0 (M.box 1 rfl))) rfl ?_
      exact ⟨_, rfl, ⟨_, rfl, HF.out⟩, (M.drop 0).drop 0⟩
end Go.Proofs.Ythdldlpflieeoaa

/- A drawn region whose last two operations are a call and an assignment; all others come before them. -/
namespace Go.Proofs.Ythdldlpflieeoaa
set_option linter.unusedSimpArgs false
set_option linter.unusedVariables false
open Go Go.RowKit

section
variable {P : Program}
/-- What the rule asks of a region: no guard; results in places of their own; forerunners stand ahead; what is read comes from a forerunner or was there. -/
def freeB2 (ops : Array Oper) (T : Nat) : Bool :=
  Region.noSelect ops && (List.range ops.size).all fun i => match ops[i]? with
    | none => true
    | some o => o.guard.isNone && (match o.dst with | some d => decide (d < T) && (List.range ops.size).all (fun j => match ops[j]? with | some o' => decide (j = i) || o'.dst != some d | none => true) | none => true) &&
        o.after.toList.all (fun e => !Region.binds .any e || decide (e.on < i))
structure FreeOp2 (ops : Array Oper) (T i : Nat) (o : Oper) : Prop where
  guard : o.guard = none
  lt : ∀ d, o.dst = some d → d < T
  own : ∀ d, o.dst = some d → ∀ j o', ops[j]? = some o' → j ≠ i → o'.dst ≠ some d
  ahead : ∀ e ∈ o.after, Region.binds .any e = true → e.on < i
theorem freeB_spec2 {ops : Array Oper} {T : Nat} (h : freeB2 ops T = true) {i : Nat} {o : Oper} (hi : ops[i]? = some o) : FreeOp2 ops T i o := by
  have hlt : ∀ {j o'}, ops[j]? = some o' → j < ops.size := fun h => (Array.getElem?_eq_some_iff.1 h).1
  simp only [freeB2, Bool.and_eq_true, List.all_eq_true, List.mem_range] at h
  have h1 := h.2 i (hlt hi)
  simp only [hi, Bool.and_eq_true, Option.isNone_iff_eq_none, List.all_eq_true, List.mem_range] at h1
  obtain ⟨⟨h2, h3⟩, h4⟩ := h1
  refine ⟨h2, fun d hd => ?_, fun d hd j o' hj hne => ?_, fun e he hb => ?_⟩
  · simp only [hd, Bool.and_eq_true, decide_eq_true_eq] at h3; exact h3.1
  · simp only [hd, Bool.and_eq_true, decide_eq_true_eq, List.all_eq_true, List.mem_range] at h3
    have := h3.2 j (hlt hj)
    simp only [hj, Bool.or_eq_true, decide_eq_true_eq] at this
    rcases this with h | h
    · exact absurd h hne
    · simpa using h
  · have := h4 e (by simpa using he)
    simp only [hb, Bool.not_true, Bool.false_or, decide_eq_true_eq] at this
    exact this


/-- What holds between the operations. -/
def FInv2 (ops : Array Oper) (a0 : Act) (S : (Nat → Bool) → (Nat → Value) → World → Prop) (listed : Array Bool) (a : Act) (w : World) : Prop :=
  ∃ g : Nat → Value, a.defers = a0.defers ∧ a.tmps.size = a0.tmps.size ∧ (∀ i o d, ops[i]? = some o → o.dst = some d → listed.getD i false = true → a.tmps.getD d undef = g i) ∧
    (∀ d, (∀ i o, ops[i]? = some o → listed.getD i false = true → o.dst ≠ some d) → a.tmps.getD d undef = a0.tmps.getD d undef) ∧ (∀ i o d, ops[i]? = some o → o.dst = some d → listed.getD i false = false → g i = a0.tmps.getD d undef) ∧ S (fun i => listed.getD i false) g w

theorem all_listed2 {ops : Array Oper} {T : Nat} (hB : freeB2 ops T = true) {listed : Array Bool} (hsz : listed.size = ops.size) (h : Region.ready .any ops listed = []) : ∀ i, i < ops.size → listed.getD i false = true := by
  intro i
  induction i using Nat.strongRecOn with
  | ind i ih =>
    intro hi
    cases hl : listed.getD i false with
    | true => rfl
    | false =>
      exfalso
      have hi' : ops[i]? = some ops[i] := Array.getElem?_eq_getElem hi
      have : i ∈ Region.ready .any ops listed := mem_ready.2 ⟨by
        have hlt : i < listed.size := by omega
        simpa [Array.getD_eq_getD_getElem?, hlt] using hl, ops[i], hi', fun e he hb => by
        have h1 := (freeB_spec2 hB hi').ahead e he hb
        exact ih e.on h1 (by omega)⟩
      rw [h] at this
      cases this

theorem full_congr2 {l : List Oper} {a0 : Act} {S : (Nat → Bool) → (Nat → Value) → World → Prop} (hB : freeB2 l.toArray a0.tmps.size = true) {listed : Array Bool} {a : Act} {g : Nat → Value} {i : Nat} {o : Oper} (ho : l.toArray[i]? = some o)
    (hset : ∀ i o d, l.toArray[i]? = some o → o.dst = some d → listed.getD i false = true → a.tmps.getD d undef = g i)
    (hold : ∀ d, (∀ i o, l.toArray[i]? = some o → listed.getD i false = true → o.dst ≠ some d) → a.tmps.getD d undef = a0.tmps.getD d undef)
    (hun : ∀ i o d, l.toArray[i]? = some o → o.dst = some d → listed.getD i false = false → g i = a0.tmps.getD d undef) : execOp a.eval o = execOp (fullAct l 0 a0 g).eval o := by
  have hf := freeB_spec2 hB ho
  have hsel : ∀ cs b, o.op ≠ .select cs b := fun cs b => by
    simp only [freeB2, Bool.and_eq_true] at hB
    exact Region.noSelect_spec hB.1 i o cs b ho
  refine execOp_congr o hsel fun x hx => ?_
  cases x with
  | tmp t =>
    have ht : t ∈ o.looksAt l.toArray := List.mem_append_left _ (List.mem_filterMap.2 ⟨.tmp t, by simpa using hx, rfl⟩)
    show a.tmps.getD t undef = (fullAct l 0 a0 g).tmps.getD t undef
    by_cases hw : ∃ (j : Nat) (o' : Oper), l.toArray[j]? = some o' ∧ o'.dst = some t
    · obtain ⟨j, o', hj, hd⟩ := hw
      have hfj := freeB_spec2 hB hj
      rw [full_new l 0 a0 g t j o' (by simpa using hj) hd (hfj.lt t hd) fun j' o'' h' hn => hfj.own t hd j' o'' (by simpa using h') hn, Nat.zero_add]
      cases hlj : listed.getD j false with
      | true => exact hset _ o' t hj hd hlj
      | false =>
        rw [hun j o' t hj hd hlj]
        exact hold t fun i o2 hi hli hd2 => by
          by_cases e : i = j
          · subst e; rw [hlj] at hli; cases hli
          · exact hfj.own t hd i o2 hi e hd2
    · rw [hold t fun j o' hj _ hd => hw ⟨j, o', hj, hd⟩, full_old l 0 a0 g t fun o' ho' hd => by
        obtain ⟨j, hj⟩ := List.getElem?_of_mem ho'
        exact hw ⟨j, o', by simpa using hj, hd⟩]
  | _ => rfl

/-- What the places hold before. -/
def g00 (l : List Oper) (a0 : Act) : Nat → Value := fun i => match l[i]? with | some o => (match o.dst with | some d => a0.tmps.getD d undef | none => undef) | none => undef
/-- THE RULE. -/
theorem wp_region_free2 {id : Nat} {Q : Exit → Act → World → Prop} {a0 : Act} {w : World} {l : List Oper} (S : (Nat → Bool) → (Nat → Value) → World → Prop) (hm : P.follows .mixedOrders = true) (hB : freeB2 l.toArray a0.tmps.size = true)
    (hS : S (fun _ => false) (g00 l a0) w.drew)
    (hstep : ∀ i o, l[i]? = some o → ∀ D g w, D i = false → (∀ e ∈ o.after, Region.binds .any e = true → D e.on = true) → S D g w → yield P o (fullAct l 0 a0 g) w fun u w' => S (fun j => if j = i then true else D j) (fun j => if j = i then u else g j) w')
    (hQ : ∀ D g w, (∀ i, i < l.length → D i = true) → S D g w → Q .normal (fullAct l 0 a0 g) w) : (Code.region id l.toArray true).wp P Q a0 w := by
  refine wp_region_any hm ?_
  have hend : ∀ listed a w, listed.size = l.toArray.size → FInv2 l.toArray a0 S listed a w → Region.ready .any l.toArray listed = [] → Q .normal a w := by
    intro listed a w hsz ⟨g, h1, h2, h3, h4, _, h5⟩ hr
    have hall := all_listed2 hB hsz hr
    have : a = fullAct l 0 a0 g := by
      obtain ⟨tm, df⟩ := a
      have e1 : tm = (fullAct l 0 a0 g).tmps := by
        apply Array.ext
        · rw [full_size]; exact h2
        · intro d hd hd'
          have e : tm.getD d undef = (fullAct l 0 a0 g).tmps.getD d undef := by
            by_cases hw : ∃ (j : Nat) (o' : Oper), l.toArray[j]? = some o' ∧ o'.dst = some d
            · obtain ⟨j, o', hj, hdd⟩ := hw
              have hfj := freeB_spec2 hB hj
              rw [show tm.getD d undef = g j from h3 j o' d hj hdd (hall j (Array.getElem?_eq_some_iff.1 hj).1), full_new l 0 a0 g d j o' (by simpa using hj) hdd (hfj.lt d hdd) fun j' o'' h' hn => hfj.own d hdd j' o'' (by simpa using h') hn, Nat.zero_add]
            · rw [show tm.getD d undef = a0.tmps.getD d undef from h4 d fun j o' hj _ hdd => hw ⟨j, o', hj, hdd⟩, full_old l 0 a0 g d fun o' ho' hdd => by
                obtain ⟨j, hj⟩ := List.getElem?_of_mem ho'
                exact hw ⟨j, o', by simpa using hj, hdd⟩]
          simpa [Array.getD_eq_getD_getElem?, hd, hd'] using e
      have e2 : df = (fullAct l 0 a0 g).defers := by rw [full_def]; exact h1
      rw [e1, e2]
    rw [this]
    exact hQ _ g w (fun i hi => hall i (by simpa using hi)) h5
  have main : ∀ (fuel : Nat) (listed : Array Bool) (a : Act) (w : World), listed.size = l.toArray.size → ((List.range l.toArray.size).filter fun i => !listed.getD i false).length ≤ fuel → FInv2 l.toArray a0 S listed a w → wpAny P .any l.toArray Q fuel listed a w := by
    intro fuel
    induction fuel with
    | zero =>
      intro listed a w hsz hc hI
      have hnil : Region.ready .any l.toArray listed = [] := by
        rw [List.eq_nil_iff_forall_not_mem]
        intro i hi
        obtain ⟨h0, o, ho, _⟩ := mem_ready.1 hi
        have hlt := (Array.getElem?_eq_some_iff.1 ho).1
        have : i ∈ (List.range l.toArray.size).filter fun i => !listed.getD i false := by
          rw [List.mem_filter]
          refine ⟨List.mem_range.2 hlt, ?_⟩
          have hlt' : i < listed.size := by omega
          simpa [Array.getD_eq_getD_getElem?, hlt'] using h0
        rw [List.eq_nil_of_length_eq_zero (Nat.le_zero.1 hc)] at this
        cases this
      exact ⟨hnil, hend listed a w hsz hI hnil⟩
    | succ fuel ih =>
      intro listed a w hsz hc hI
      refine ⟨hend listed a w hsz hI, fun i hi => ?_⟩
      obtain ⟨h0, o, ho, hpre⟩ := mem_ready.1 hi
      have hlt := (Array.getElem?_eq_some_iff.1 ho).1
      have hf := freeB_spec2 hB ho
      obtain ⟨g, h1, h2, h3, h4, h6, h5⟩ := hI
      have hlt' : i < listed.size := by omega
      have h0' : listed.getD i false = false := by simpa [Array.getD_eq_getD_getElem?, hlt'] using h0
      have hD : ∀ j, (listed.setIfInBounds i true).getD j false = if j = i then true else listed.getD j false := fun j => by
        by_cases hj : j = i
        · subst hj; simp [Array.getD_eq_getD_getElem?, hlt']
        · rw [if_neg hj, getD_set_ne false (Ne.symm hj)]
      refine wpOp_of_yield ho hf.guard (full_congr2 (S := S) hB ho h3 h4 h6) (hstep i o (by simpa using ho) _ g w h0' hpre h5) fun u w' hS' => ?_
      refine ih _ _ w' (by simpa using hsz) ?_ ⟨fun j => if j = i then u else g j, by rw [actput_def]; exact h1, by rw [actput_size]; exact h2, fun j o' d hj hd hl => ?_, fun d hd => ?_, fun j o' d hj hd hl => ?_, ?_⟩
      · have e : ((List.range l.toArray.size).filter fun j => !(listed.setIfInBounds i true).getD j false) = ((List.range l.toArray.size).filter fun j => !listed.getD j false).filter fun j => !decide (j = i) := by
          rw [List.filter_filter]
          congr 1
          funext j
          rw [hD j]
          by_cases hj : j = i <;> simp [hj]
        rw [e]
        have := (List.length_filter_lt_length_iff_exists (p := fun j => !decide (j = i)) (l := (List.range l.toArray.size).filter fun j => !listed.getD j false)).2 ⟨i, List.mem_filter.2 ⟨List.mem_range.2 hlt, by simp [h0']⟩, by simp⟩
        omega
      · rw [hD j] at hl
        by_cases hj' : j = i
        · subst hj'
          obtain rfl : o = o' := by rw [ho] at hj; exact Option.some.inj hj
          show _ = if j = j then u else g j
          rw [hd, if_pos rfl, actput_new _ (by rw [h2]; exact hf.lt d hd)]
        · rw [if_neg hj'] at hl
          show _ = if j = i then u else g j
          rw [if_neg hj', actput_old _ fun h => (freeB_spec2 hB hj).own d hd i o ho (Ne.symm hj') h]
          exact h3 j o' d hj hd hl
      · rw [actput_old _ (hd i o ho (by rw [hD i, if_pos rfl]))]
        exact h4 d fun j o' hj hl => hd j o' hj (by
          rw [hD j]
          by_cases hj' : j = i
          · rw [if_pos hj']
          · rw [if_neg hj']; exact hl)
      · rw [hD j] at hl
        by_cases hj' : j = i
        · rw [if_pos hj'] at hl; cases hl
        · rw [if_neg hj'] at hl
          show (if j = i then u else g j) = _
          rw [if_neg hj']; exact h6 j o' d hj hd hl
      · have e : (fun j => (listed.setIfInBounds i true).getD j false) = fun j => if j = i then true else listed.getD j false := funext hD
        rw [e]; exact hS'
  have e0 : ∀ i, (Array.replicate l.toArray.size false).getD i false = false := fun i => by
    simp only [Array.getD_eq_getD_getElem?, Array.getElem?_replicate]
    split <;> rfl
  refine main _ _ _ _ (by simp) (by
    refine Nat.le_trans (List.length_filter_le _ _) ?_
    simp) ⟨g00 l a0, rfl, rfl, fun i o d _ _ h => ?_, fun _ _ => rfl, fun i o d hi hd _ => by unfold g00; rw [show l[i]? = some o by simpa using hi]; simp only [hd], ?_⟩
  · rw [e0 i] at h; cases h
  · rw [show (fun i => (Array.replicate l.toArray.size false).getD i false) = fun _ => false from funext e0]
    exact hS
end
theorem readV_full2 {l : List Oper} {a0 : Act} (hB : freeB2 l.toArray a0.tmps.size = true) (g : Nat → Value) (t : Nat) : (fullAct l 0 a0 g).tmps.getD t undef = readV l a0 g t := by
  unfold readV
  split
  · rename_i j hj
    obtain ⟨hlt, h1, _⟩ := List.findIdx?_eq_some_iff_getElem.1 hj
    have hd : l[j].dst = some t := by simpa using h1
    have hf := freeB_spec2 hB (show l.toArray[j]? = some l[j] by simp [hlt])
    rw [full_new l 0 a0 g t j l[j] (List.getElem?_eq_getElem hlt) hd (hf.lt t hd) fun j' o' h' hn => hf.own t hd j' o' (by simpa using h') hn, Nat.zero_add]
  · rename_i hn
    rw [List.findIdx?_eq_none_iff] at hn
    exact full_old l 0 a0 g t fun o ho hd => by
      have := hn o ho
      simp [hd] at this
/-- THE RULE, each operation under an act of one's own that holds what the operation reads. -/
theorem wp_region_own2 {P : Program} {id : Nat} {Q : Exit → Act → World → Prop} {a0 : Act} {w : World} {l : List Oper} (S : (Nat → Bool) → (Nat → Value) → World → Prop) (hm : P.follows .mixedOrders = true) (hB : freeB2 l.toArray a0.tmps.size = true)
    (hS : S (fun _ => false) (g00 l a0) w.drew)
    (hstep : ∀ i o, l[i]? = some o → ∀ D g w, D i = false → (∀ e ∈ o.after, Region.binds .any e = true → D e.on = true) → S D g w →
      ∃ A : Act, (∀ t ∈ o.looksAt l.toArray, A.tmps.getD t undef = readV l a0 g t) ∧ yield P o A w fun u w' => S (updD D i) (updG g i u) w')
    (hQ : ∀ D g w, (∀ i, i < l.length → D i = true) → S D g w → Q .normal (fullAct l 0 a0 g) w) : (Code.region id l.toArray true).wp P Q a0 w := by
  refine wp_region_free2 S hm hB hS (fun i o hi D g w hi0 hpre hS => ?_) hQ
  obtain ⟨A, hA, hy⟩ := hstep i o hi D g w hi0 hpre hS
  have hsel : ∀ cs b, o.op ≠ .select cs b := fun cs b => by
    simp only [freeB2, Bool.and_eq_true] at hB
    exact Region.noSelect_spec hB.1 i o cs b (by simpa using hi)
  have he : execOp (fullAct l 0 a0 g).eval o = execOp A.eval o := execOp_congr o hsel fun x hx => by
    cases x with
    | tmp t =>
      have ht : t ∈ o.looksAt l.toArray := List.mem_append_left _ (List.mem_filterMap.2 ⟨.tmp t, by simpa using hx, rfl⟩)
      show (fullAct l 0 a0 g).tmps.getD t undef = A.tmps.getD t undef
      rw [hA t ht, readV_full2 hB]
    | _ => rfl
  unfold yield at hy ⊢
  rw [he]; exact hy

theorem yield_mono {P : Program} {o : Oper} {a : Act} {w : World} {R R' : Value → World → Prop} (h : yield P o a w R) (hR : ∀ u w', R u w' → R' u w') : yield P o a w R' := by
  unfold yield at *
  cases hx : (execOp a.eval o).run P w with
  | ok n w' =>
    rw [hx] at h
    cases n <;> simp only [yieldR] at * <;> first | exact hR _ _ h | exact Calls.mono h (fun e w2 ⟨u, he, hr⟩ => ⟨u, he, hR u w2 hr⟩) | exact Rows.mono h (fun u w2 he => hR u w2 he) | exact h
  | halt x w' => rw [hx] at h; exact h
theorem wp_region_ownL {P : Program} {id : Nat} {Q : Exit → Act → World → Prop} {a0 : Act} {w : World} {l : List Oper} (n : Nat) (S : (Nat → Bool) → (Nat → Value) → World → Prop) (Post : Value → World → Prop) (hm : P.follows .mixedOrders = true) (hB : freeB2 l.toArray a0.tmps.size = true) (hlen : l.length = n + 2)
    (hS : S (fun _ => false) (g00 l a0) w.drew)
    (hstep : ∀ i o, i < n → l[i]? = some o → ∀ D g w, D i = false → (∀ e ∈ o.after, Region.binds .any e = true → D e.on = true) → g (n + 1) = g00 l a0 (n + 1) → S D g w →
      ∃ A : Act, (∀ t ∈ o.looksAt l.toArray, A.tmps.getD t undef = readV l a0 g t) ∧ yield P o A w fun u w' => S (updD D i) (updG g i u) w')
    (hcall : ∀ o, l[n]? = some o → ∀ D g w, (∀ e ∈ o.after, Region.binds .any e = true → D e.on = true) → S D g w →
      (∀ i, i < n → D i = true) ∧ ∃ A : Act, (∀ t ∈ o.looksAt l.toArray, A.tmps.getD t undef = readV l a0 g t) ∧ yield P o A w Post)
    (hlate : ∀ o, l[n + 1]? = some o → (∃ e ∈ o.after, Region.binds .any e = true ∧ e.on = n))
    (hlast : ∀ o, l[n + 1]? = some o → ∀ g w, Post (g n) w → ∃ A : Act, (∀ t ∈ o.looksAt l.toArray, A.tmps.getD t undef = readV l a0 g t) ∧ yield P o A w fun u w' => u = g n ∧ Post (g n) w')
    (hQ : ∀ g w, g (n + 1) = g n → Post (g n) w → Q .normal (fullAct l 0 a0 g) w) : (Code.region id l.toArray true).wp P Q a0 w := by
  refine wp_region_own2 (fun D g w => (D n = false ∧ D (n + 1) = false ∧ g (n + 1) = g00 l a0 (n + 1) ∧ S D g w) ∨ ((∀ i, i < n → D i = true) ∧ D n = true ∧ Post (g n) w ∧ (D (n + 1) = true → g (n + 1) = g n))) hm hB (.inl ⟨rfl, rfl, rfl, hS⟩) (fun i o hi D g w hi0 hpre h => ?_) fun D g w hall h => ?_
  · have hil := (List.getElem?_eq_some_iff.1 hi).1
    rcases h with ⟨h1, h2, hg, hS⟩ | ⟨h1, h2, h3, h4⟩
    · rcases Nat.lt_trichotomy i n with hlt | heq | hgt
      · obtain ⟨A, hA, hy⟩ := hstep i o hlt hi D g w hi0 hpre hg hS
        refine ⟨A, hA, yield_mono hy fun u w' h => .inl ⟨?_, ?_, ?_, h⟩⟩
        · rw [updD_ne (by omega)]; exact h1
        · rw [updD_ne (by omega)]; exact h2
        · rw [updG_ne (by omega)]; exact hg
      · subst heq
        obtain ⟨hd, A, hA, hy⟩ := hcall o hi D g w hpre hS
        refine ⟨A, hA, yield_mono hy fun u w' h => .inr ⟨fun j hj => ?_, updD_at .., ?_, fun h5 => ?_⟩⟩
        · rw [updD_ne (by omega)]; exact hd j hj
        · rw [updG_at]; exact h
        · rw [updD_ne (by omega), h2] at h5; cases h5
      · obtain rfl : i = n + 1 := by omega
        obtain ⟨e, he, hb, hen⟩ := hlate o hi
        have := hpre e he hb
        rw [hen, h1] at this; cases this
    · rcases Nat.lt_trichotomy i n with hlt | heq | hgt
      · rw [h1 i hlt] at hi0; cases hi0
      · subst heq; rw [h2] at hi0; cases hi0
      · obtain rfl : i = n + 1 := by omega
        obtain ⟨A, hA, hy⟩ := hlast o hi g w h3
        refine ⟨A, hA, yield_mono hy fun u w' h => .inr ⟨fun j hj => ?_, ?_, ?_, fun _ => ?_⟩⟩
        · rw [updD_ne (by omega)]; exact h1 j hj
        · rw [updD_ne (by omega)]; exact h2
        · rw [updG_ne (by omega)]; exact h.2
        · rw [updG_at, updG_ne (by omega)]; exact h.1
  · rcases h with ⟨h1, _⟩ | ⟨_, _, h3, h4⟩
    · rw [hall n (by omega)] at h1; cases h1
    · exact hQ g w (h4 (hall (n + 1) (by omega))) h3
end Go.Proofs.Ythdldlpflieeoaa

/- Drawn regions of which a last part comes behind all other operations, one by one. -/
namespace Go.Proofs.Ythdldlpflieeoaa
set_option linter.unusedSimpArgs false
set_option linter.unusedVariables false
open Go Go.RowKit

/-- Every operation behind number n waits for the one ahead of it. -/
def lateB (l : List Oper) (n : Nat) : Bool :=
  (List.range l.length).all fun i => decide (i ≤ n) || match l[i]? with
    | some o => o.after.any fun e => Region.binds .any e && e.on == i - 1
    | none => true
theorem lateB_of {l : List Oper} {n : Nat} (h : lateB l n = true) {i : Nat} {o : Oper} (hi : l[i]? = some o) (hn : n < i) : ∃ e ∈ o.after, Region.binds .any e = true ∧ e.on = i - 1 := by
  have hlt := (List.getElem?_eq_some_iff.1 hi).1
  have h1 := List.all_eq_true.1 h i (List.mem_range.2 hlt)
  rw [hi] at h1
  simp only [Bool.or_eq_true, decide_eq_true_eq, Array.any_eq_true'] at h1
  rcases h1 with h1 | ⟨e, he, h2⟩
  · omega
  · simp only [Bool.and_eq_true, beq_iff_eq] at h2
    exact ⟨e, he, h2.1, h2.2⟩
theorem wp_region_ownN {P : Program} {id : Nat} {Q : Exit → Act → World → Prop} {a0 : Act} {w : World} {l : List Oper} (n : Nat) (S : (Nat → Bool) → (Nat → Value) → World → Prop) (T : Nat → (Nat → Value) → World → Prop) (hm : P.follows .mixedOrders = true) (hB : freeB2 l.toArray a0.tmps.size = true) (hL : lateB l n = true) (hn : n < l.length)
    (hS : S (fun _ => false) (g00 l a0) w.drew)
    (hstep : ∀ i o, i < n → l[i]? = some o → ∀ D g w, D i = false → (∀ e ∈ o.after, Region.binds .any e = true → D e.on = true) → S D g w →
      ∃ A : Act, (∀ t ∈ o.looksAt l.toArray, A.tmps.getD t undef = readV l a0 g t) ∧ yield P o A w fun u w' => S (updD D i) (updG g i u) w')
    (hfirst : ∀ o, l[n]? = some o → ∀ D g w, (∀ e ∈ o.after, Region.binds .any e = true → D e.on = true) → S D g w → (∀ i, i < n → D i = true) ∧ T n g w)
    (htail : ∀ k o, n ≤ k → l[k]? = some o → ∀ g w, T k g w → ∃ A : Act, (∀ t ∈ o.looksAt l.toArray, A.tmps.getD t undef = readV l a0 g t) ∧ yield P o A w fun u w' => T (k + 1) (updG g k u) w')
    (hQ : ∀ g w, T l.length g w → Q .normal (fullAct l 0 a0 g) w) : (Code.region id l.toArray true).wp P Q a0 w := by
  refine wp_region_own2 (fun D g w => ((∀ j, n ≤ j → D j = false) ∧ S D g w) ∨ ∃ k, n < k ∧ k ≤ l.length ∧ (∀ j, j < k → D j = true) ∧ (∀ j, k ≤ j → D j = false) ∧ T k g w) hm hB (.inl ⟨fun _ _ => rfl, hS⟩) (fun i o hi D g w hi0 hpre h => ?_) fun D g w hall h => ?_
  · have hil := (List.getElem?_eq_some_iff.1 hi).1
    rcases h with ⟨h1, hS⟩ | ⟨k, hk, hkl, h1, h2, hT⟩
    · rcases Nat.lt_trichotomy i n with hlt | heq | hgt
      · obtain ⟨A, hA, hy⟩ := hstep i o hlt hi D g w hi0 hpre hS
        exact ⟨A, hA, yield_mono hy fun u w' h => .inl ⟨fun j hj => by rw [updD_ne (by omega)]; exact h1 j hj, h⟩⟩
      · subst heq
        obtain ⟨hd, hT⟩ := hfirst o hi D g w hpre hS
        obtain ⟨A, hA, hy⟩ := htail i o (Nat.le_refl _) hi g w hT
        refine ⟨A, hA, yield_mono hy fun u w' h => .inr ⟨i + 1, by omega, by omega, fun j hj => ?_, fun j hj => ?_, h⟩⟩
        · by_cases e : j = i
          · rw [e]; exact updD_at ..
          · rw [updD_ne (by omega)]; exact hd j (by omega)
        · rw [updD_ne (by omega)]; exact h1 j (by omega)
      · obtain ⟨e, he, hb, hen⟩ := lateB_of hL hi hgt
        have := hpre e he hb
        rw [hen, h1 _ (by omega)] at this; cases this
    · rcases Nat.lt_trichotomy i k with hlt | heq | hgt
      · rw [h1 i hlt] at hi0; cases hi0
      · subst heq
        obtain ⟨A, hA, hy⟩ := htail i o (by omega) hi g w hT
        refine ⟨A, hA, yield_mono hy fun u w' h => .inr ⟨i + 1, by omega, by omega, fun j hj => ?_, fun j hj => ?_, h⟩⟩
        · by_cases e : j = i
          · rw [e]; exact updD_at ..
          · rw [updD_ne (by omega)]; exact h1 j (by omega)
        · rw [updD_ne (by omega)]; exact h2 j (by omega)
      · obtain ⟨e, he, hb, hen⟩ := lateB_of hL hi (by omega)
        have := hpre e he hb
        rw [hen, h2 _ (by omega)] at this; cases this
  · rcases h with ⟨h1, _⟩ | ⟨k, hk, hkl, h1, h2, hT⟩
    · have := h1 n (Nat.le_refl _)
      rw [hall n hn] at this; cases this
    · rcases Nat.lt_or_ge k l.length with h3 | h3
      · have := h2 k (Nat.le_refl _)
        rw [hall k h3] at this; cases this
      · obtain rfl : k = l.length := by omega
        exact hQ g w hT
end Go.Proofs.Ythdldlpflieeoaa

/- A drawn region whose first operations leave what is known of memory as it is and give values of which something is known, in any order; the last ones come last. -/
namespace Go.Proofs.Ythdldlpflieeoaa
set_option linter.unusedSimpArgs false
set_option linter.unusedVariables false
open Go Go.RowKit

section
variable {P : Program} {I : World → Prop} {U : Nat → Value → Prop} {K : Act → Prop}
/-- The places that the first n operations write are their own; forerunners stand ahead; what they read of one another comes from a forerunner. -/
def calmB (ops : Array Oper) (T n : Nat) : Bool :=
  (List.range n).all fun i => match ops[i]? with
    | none => false
    | some o => o.guard.isNone && (match o.dst with | some d => decide (d < T) && (List.range n).all (fun j => match ops[j]? with | some o' => decide (j = i) || o'.dst != some d | none => true) | none => true) &&
        o.after.toList.all (fun e => !Region.binds .any e || decide (e.on < i)) &&
        (o.looksAt ops).all fun t => (List.range n).all fun j => match ops[j]? with | some o' => o'.dst != some t || o.after.toList.any (fun e => Region.binds .any e && e.on == j) | none => true
structure CalmOp (ops : Array Oper) (T n : Nat) (o : Oper) (i : Nat) : Prop where
  guard : o.guard = none
  lt : ∀ d, o.dst = some d → d < T
  own : ∀ d, o.dst = some d → ∀ j o', j < n → ops[j]? = some o' → j ≠ i → o'.dst ≠ some d
  ahead : ∀ e ∈ o.after, Region.binds .any e = true → e.on < i
  reads : ∀ t ∈ o.looksAt ops, ∀ j o', j < n → ops[j]? = some o' → o'.dst = some t → ∃ e ∈ o.after, Region.binds .any e = true ∧ e.on = j
theorem calmB_spec {ops : Array Oper} {T n : Nat} (h : calmB ops T n = true) {i : Nat} (hin : i < n) : ∃ o, ops[i]? = some o ∧ CalmOp ops T n o i := by
  simp only [calmB, List.all_eq_true, List.mem_range] at h
  have h1 := h i hin
  cases ho : ops[i]? with
  | none => simp [ho] at h1
  | some o =>
    simp only [ho, Bool.and_eq_true, Option.isNone_iff_eq_none, List.all_eq_true, List.mem_range] at h1
    obtain ⟨⟨⟨h2, h3⟩, h4⟩, h5⟩ := h1
    refine ⟨o, rfl, h2, fun d hd => ?_, fun d hd j o' hj hjo hne => ?_, fun e he hb => ?_, fun t ht j o' hj hjo hd => ?_⟩
    · simp only [hd, Bool.and_eq_true, decide_eq_true_eq] at h3; exact h3.1
    · simp only [hd, Bool.and_eq_true, decide_eq_true_eq, List.all_eq_true, List.mem_range] at h3
      have := h3.2 j hj
      simp only [hjo, Bool.or_eq_true, decide_eq_true_eq] at this
      rcases this with h | h
      · exact absurd h hne
      · simpa using h
    · have := h4 e (by simpa using he)
      simp only [hb, Bool.not_true, Bool.false_or, decide_eq_true_eq] at this
      exact this
    · have := h5 t ht j hj
      simp only [hjo, hd, bne_self_eq_false, Bool.false_or, List.any_eq_true, Bool.and_eq_true, beq_iff_eq] at this
      obtain ⟨e, he, hb, hon⟩ := this
      exact ⟨e, by simpa using he, hb, hon⟩
def doneA (n m : Nat) : Array Bool := Array.replicate n true ++ Array.replicate (m - n) false
def calmTailB (ops : Array Oper) (n : Nat) : Bool :=
  Region.noSelect ops && decide (n < ops.size) && Region.sinkB .any ops n && Region.chainB .any ops n && Region.seqB .any ops (ops.size - n) n (doneA n ops.size)
/-- Each operation of a list, in the order of the text: whatever the ones ahead gave. -/
def wpU (P : Program) (I : World → Prop) (U : Nat → Value → Prop) (K : Act → Prop) : Nat → List Oper → Act → Prop
  | _, [], a => K a
  | k, o :: l, a => (∀ w, I w → yield P o a w fun u w' => U k u ∧ I w') ∧ ∀ u, U k u → wpU P I U K (k + 1) l (a.put o.dst u)
theorem wpU_nil {k : Nat} {a : Act} (h : K a) : wpU P I U K k [] a := h
theorem wpU_cons {k : Nat} {o : Oper} {l : List Oper} {a : Act} (h1 : ∀ w, I w → yield P o a w fun u w' => U k u ∧ I w') (h2 : ∀ u, U k u → wpU P I U K (k + 1) l (a.put o.dst u)) : wpU P I U K k (o :: l) a := ⟨h1, h2⟩
theorem wpU_full : ∀ (l : List Oper) (k : Nat) (a : Act) (g : Nat → Value), wpU P I U K k l a → (∀ j, j < l.length → U (k + j) (g (k + j))) → K (fullAct l k a g)
  | [], _, _, _, h, _ => h
  | o :: l, k, a, g, h, hg => by
    rw [fullAct]
    refine wpU_full l (k + 1) _ g (h.2 _ (hg 0 (by simp))) fun j hj => ?_
    have := hg (j + 1) (by simpa using hj)
    rwa [show k + (j + 1) = k + 1 + j by omega] at this
theorem wpU_at : ∀ (l : List Oper) (k : Nat) (a : Act) (g : Nat → Value) (i : Nat) (o : Oper), wpU P I U K k l a → (∀ j, j < i → U (k + j) (g (k + j))) → l[i]? = some o → ∀ w, I w → yield P o (fullAct (l.take i) k a g) w fun u w' => U (k + i) u ∧ I w'
  | [], _, _, _, _, _, _, _, hi, _, _ => by simp at hi
  | o :: l, k, a, g, 0, o', h, _, hi, w, hI => by
    obtain rfl : o = o' := by simpa using hi
    exact h.1 w hI
  | o :: l, k, a, g, i + 1, o', h, hg, hi, w, hI => by
    rw [List.take_succ_cons, fullAct]
    have := wpU_at l (k + 1) _ g i o' (h.2 _ (hg 0 (by omega))) (fun j hj => by
      have := hg (j + 1) (by omega)
      rwa [show k + (j + 1) = k + 1 + j by omega] at this) (by simpa using hi) w hI
    rwa [show k + 1 + i = k + (i + 1) by omega] at this

/-- THE RULE. -/
theorem wp_region_calm {id : Nat} {Q : Exit → Act → World → Prop} {a0 : Act} {w : World} {l : List Oper} (n : Nat) (I : World → Prop) (U : Nat → Value → Prop) (hm : P.follows .mixedOrders = true) (hB : calmB l.toArray a0.tmps.size n = true) (hT : calmTailB l.toArray n = true)
    (hne : ∀ j, j < n → ∃ v, U j v) (hI : I w.drew)
    (h : wpU P I U (fun af => ∀ w', I w' → wpList P l.toArray Q (l.drop n) af w') 0 (l.take n) a0) : (Code.region id l.toArray true).wp P Q a0 w := by
  simp only [calmTailB, Bool.and_eq_true, decide_eq_true_eq] at hT
  obtain ⟨⟨⟨⟨hsel, hn⟩, hs⟩, hc⟩, hseq⟩ := hT
  have hn' : n < l.length := by simpa using hn
  have hdl : (l.drop n).length = l.toArray.size - n := by simp
  refine wp_region_any hm ?_
  have main : ∀ (f : Nat) (listed : Array Bool) (a : Act) (w : World), HeadInv .any l.toArray n listed → ((List.range n).filter fun i => !listed.getD i false).length = f →
      (∃ g : Nat → Value, a.defers = a0.defers ∧ a.tmps.size = a0.tmps.size ∧ (∀ i o d, i < n → l.toArray[i]? = some o → o.dst = some d → listed.getD i false = true → a.tmps.getD d undef = g i) ∧
        (∀ d, (∀ i o, i < n → l.toArray[i]? = some o → listed.getD i false = true → o.dst ≠ some d) → a.tmps.getD d undef = a0.tmps.getD d undef) ∧ (∀ i, i < n → U i (g i)) ∧ I w) →
      wpAny P .any l.toArray Q (f + (l.toArray.size - n)) listed a w := by
    intro f
    induction f with
    | zero =>
      intro listed a w inv hf ⟨g, h1, h2, h3, h4, h5, hIw⟩
      have hall : ∀ i, i < n → listed.getD i false = true := fun i hi => by
        cases hl : listed.getD i false with
        | true => rfl
        | false =>
          have := List.eq_nil_of_length_eq_zero hf
          have hm : i ∈ (List.range n).filter fun i => !listed.getD i false := List.mem_filter.2 ⟨List.mem_range.2 hi, by simp [hl]⟩
          rw [this] at hm; cases hm
      have hlis : listed = doneA n l.toArray.size := by
        apply Array.ext
        · rw [inv.size]; simp [doneA]; omega
        · intro i hi hi'
          have hsz := inv.size
          by_cases hin : i < n
          · have := hall i hin
            simp only [Array.getD_eq_getD_getElem?, hi, Array.getElem?_eq_getElem, Option.getD_some] at this
            rw [this]; simp [doneA, hin]
          · have := inv.tail i (by omega) (by omega)
            simp only [Array.getD_eq_getD_getElem?, hi, Array.getElem?_eq_getElem, Option.getD_some] at this
            rw [this]; simp only [doneA]; rw [Array.getElem_append_right (by simp; omega)]; simp
      have ha : a = fullAct (l.take n) 0 a0 g := by
        obtain ⟨tm, df⟩ := a
        have e1 : tm = (fullAct (l.take n) 0 a0 g).tmps := by
          apply Array.ext
          · rw [full_size]; exact h2
          · intro d hd hd'
            have e : tm.getD d undef = (fullAct (l.take n) 0 a0 g).tmps.getD d undef := by
              by_cases hw : ∃ (j : Nat) (o' : Oper), j < n ∧ l.toArray[j]? = some o' ∧ o'.dst = some d
              · obtain ⟨j, o', hjn, hj, hdd⟩ := hw
                obtain ⟨o2, ho2, hc⟩ := calmB_spec hB hjn
                obtain rfl : o2 = o' := Option.some.inj (ho2.symm.trans hj)
                rw [show tm.getD d undef = g j from h3 j o2 d hjn hj hdd (hall j hjn), full_new (l.take n) 0 a0 g d j o2 (by rw [List.getElem?_take, if_pos hjn]; simpa using hj) hdd (hc.lt d hdd) (fun j' o'' h' hne => by
                  rw [List.getElem?_take] at h'
                  split at h'
                  · rename_i hj'; exact hc.own d hdd j' o'' hj' (by simpa using h') hne
                  · (cases h')), Nat.zero_add]
              · rw [show tm.getD d undef = a0.tmps.getD d undef from h4 d fun j o' hjn hj _ hdd => hw ⟨j, o', hjn, hj, hdd⟩, full_old (l.take n) 0 a0 g d fun o' ho' hdd => by
                  obtain ⟨j, hj⟩ := List.getElem?_of_mem ho'
                  rw [List.getElem?_take] at hj
                  split at hj
                  · rename_i hjn; exact hw ⟨j, o', hjn, by simpa using hj, hdd⟩
                  · cases hj]
            simpa [Array.getD_eq_getD_getElem?, hd, hd'] using e
        have e2 : df = (fullAct (l.take n) 0 a0 g).defers := by rw [full_def]; exact h1
        rw [e1, e2]
      have hK := wpU_full (l.take n) 0 a0 g h (fun j hj => by rw [Nat.zero_add]; exact h5 j (by simp at hj; omega)) w hIw
      rw [Nat.zero_add, ha, hlis]
      have h1 := wpAny_of_seq (P := P) (md := .any) (ops := l.toArray) (Q' := Q) (l.drop n) n (doneA n l.toArray.size) _ w (fun j => by simp) (by rw [hdl]; exact hseq) hK
      rwa [hdl] at h1
    | succ f ih =>
      intro listed a w inv hf ⟨g, h1, h2, h3, h4, h5, hIw⟩
      rw [show f + 1 + (l.toArray.size - n) = (f + (l.toArray.size - n)) + 1 by omega]
      obtain ⟨i0, hi0⟩ : ∃ i, i ∈ (List.range n).filter fun i => !listed.getD i false := by
        cases hL : (List.range n).filter fun i => !listed.getD i false with
        | nil => rw [hL] at hf; simp at hf
        | cons x L => exact ⟨x, by simp⟩
      have hi0n : i0 < n := List.mem_range.1 (List.mem_filter.1 hi0).1
      have hi0l : listed.getD i0 false = false := by simpa using (List.mem_filter.1 hi0).2
      have hi0s : i0 < listed.size := by rw [inv.size]; simp; omega
      have hwait := tail_waits hs hc (by simpa using hn') inv _ i0 rfl hi0n (getD_in hi0s hi0l)
      refine ⟨fun hr => ?_, fun i hi => ?_⟩
      · -- something is ready: the least that is not listed
        exfalso
        have key : ∀ k, k < n → listed.getD k false = true := by
          intro k
          induction k using Nat.strongRecOn with
          | ind k ihk =>
            intro hk
            cases hl : listed.getD k false with
            | true => rfl
            | false =>
              obtain ⟨o, ho, hc⟩ := calmB_spec hB hk
              have hks : k < listed.size := by rw [inv.size]; simp; omega
              have : k ∈ Region.ready .any l.toArray listed := mem_ready.2 ⟨getD_in hks hl, o, ho, fun e he hb => ihk e.on (hc.ahead e he hb) (by have := hc.ahead e he hb; omega)⟩
              rw [hr] at this; cases this
        rw [key i0 hi0n] at hi0l; cases hi0l
      · have hin : i < n := by
          rcases Nat.lt_or_ge i n with h | h
          · exact h
          · exact absurd hi (hwait i h)
        obtain ⟨h0, o, ho, hpre⟩ := mem_ready.1 hi
        obtain ⟨o2, ho2, hc⟩ := calmB_spec hB hin
        obtain rfl : o2 = o := Option.some.inj (ho2.symm.trans ho)
        have hlt' : i < listed.size := by rw [inv.size]; simp; omega
        have h0' : listed.getD i false = false := getD_both h0
        have hD : ∀ j, (listed.setIfInBounds i true).getD j false = if j = i then true else listed.getD j false := fun j => by
          by_cases hj : j = i
          · subst hj; simp [Array.getD_eq_getD_getElem?, hlt']
          · rw [if_neg hj, getD_set_ne false (Ne.symm hj)]
        have hy := wpU_at (l.take n) 0 a0 g i o2 h (fun j hj => by rw [Nat.zero_add]; exact h5 j (by omega)) (by rw [List.getElem?_take, if_pos hin]; simpa using ho) w hIw
        rw [Nat.zero_add, List.take_take, Nat.min_eq_left (by omega)] at hy
        have hcongr : execOp a.eval o2 = execOp (fullAct (l.take i) 0 a0 g).eval o2 := by
          refine execOp_congr o2 (fun cs b => Region.noSelect_spec hsel i o2 cs b ho) fun x hx => ?_
          cases x with
          | tmp t =>
            have ht : t ∈ o2.looksAt l.toArray := List.mem_append_left _ (List.mem_filterMap.2 ⟨.tmp t, by simpa using hx, rfl⟩)
            show a.tmps.getD t undef = (fullAct (l.take i) 0 a0 g).tmps.getD t undef
            by_cases hw : ∃ (j : Nat) (o' : Oper), j < n ∧ l.toArray[j]? = some o' ∧ o'.dst = some t
            · obtain ⟨j, o', hjn, hj, hd⟩ := hw
              obtain ⟨e, he, hb, hon⟩ := hc.reads t ht j o' hjn hj hd
              have hji : j < i := by rw [← hon]; exact hc.ahead e he hb
              have hlj : listed.getD j false = true := by rw [← hon]; exact hpre e he hb
              obtain ⟨o3, ho3, hc3⟩ := calmB_spec hB hjn
              obtain rfl : o3 = o' := Option.some.inj (ho3.symm.trans hj)
              rw [h3 j o3 t hjn hj hd hlj, full_new (l.take i) 0 a0 g t j o3 (by rw [List.getElem?_take, if_pos hji]; simpa using hj) hd (hc3.lt t hd) (fun j' o'' h' hne => by
                rw [List.getElem?_take] at h'
                split at h'
                · rename_i hj'; exact hc3.own t hd j' o'' (by omega) (by simpa using h') hne
                · (cases h')), Nat.zero_add]
            · rw [h4 t fun j o' hjn hj _ hd => hw ⟨j, o', hjn, hj, hd⟩, full_old (l.take i) 0 a0 g t fun o' ho' hd => by
                obtain ⟨j, hj⟩ := List.getElem?_of_mem ho'
                rw [List.getElem?_take] at hj
                split at hj
                · rename_i hji; exact hw ⟨j, o', by omega, by simpa using hj, hd⟩
                · cases hj]
          | _ => rfl
        refine wpOp_of_yield ho hc.guard hcongr hy fun u w' ⟨hu, hIw'⟩ => ?_
        refine ih _ _ w' (inv.set hi hin) ?_ ⟨fun j => if j = i then u else g j, by rw [actput_def]; exact h1, by rw [actput_size]; exact h2, fun j o' d hjn hj hd hl => ?_, fun d hd => ?_, fun j hj => ?_, hIw'⟩
        · have e : ((List.range n).filter fun j => !(listed.setIfInBounds i true).getD j false) = ((List.range n).filter fun j => !listed.getD j false).filter fun j => !decide (j = i) := by
            rw [List.filter_filter]
            congr 1
            funext j
            rw [hD j]
            by_cases hj : j = i <;> simp [hj]
          rw [e]
          have hnd : ((List.range n).filter fun j => !listed.getD j false).Nodup := List.nodup_range.filter _
          have hmi : i ∈ (List.range n).filter fun j => !listed.getD j false := List.mem_filter.2 ⟨List.mem_range.2 hin, by simp [h0']⟩
          have : ((List.range n).filter fun j => !listed.getD j false).filter (fun j => !decide (j = i)) = ((List.range n).filter fun j => !listed.getD j false).erase i := by
            rw [hnd.erase_eq_filter]
            congr 1
          rw [this, List.length_erase_of_mem hmi, hf]; rfl
        · rw [hD j] at hl
          by_cases hj' : j = i
          · subst hj'
            obtain rfl : o2 = o' := Option.some.inj (ho.symm.trans hj)
            show _ = if j = j then u else g j
            rw [hd, if_pos rfl, actput_new _ (by rw [h2]; exact hc.lt d hd)]
          · rw [if_neg hj'] at hl
            show _ = if j = i then u else g j
            obtain ⟨o3, ho3, hc3⟩ := calmB_spec hB hjn
            obtain rfl : o3 = o' := Option.some.inj (ho3.symm.trans hj)
            rw [if_neg hj', actput_old _ fun h => hc3.own d hd i o2 hin ho (Ne.symm hj') h]
            exact h3 j o3 d hjn hj hd hl
        · rw [actput_old _ (hd i o2 hin ho (by rw [hD i, if_pos rfl]))]
          exact h4 d fun j o' hjn hj hl => hd j o' hjn hj (by
            rw [hD j]
            by_cases hj' : j = i
            · rw [if_pos hj']
            · rw [if_neg hj']; exact hl)
        · show U j (if j = i then u else g j)
          by_cases hj' : j = i
          · subst hj'; rw [if_pos rfl]; exact hu
          · rw [if_neg hj']; exact h5 j hj
  have inv0 : HeadInv .any l.toArray n (Array.replicate l.toArray.size false) :=
    ⟨by simp, fun j oj _ hl => (by rw [getD_replicate_false] at hl; cases hl), fun t _ ht => getD_in (by simpa using ht) (getD_replicate_false _ _)⟩
  have h0 : ((List.range n).filter fun i => !(Array.replicate l.toArray.size false).getD i false).length = n := by
    rw [List.filter_eq_self.2 fun i _ => by rw [getD_replicate_false]; rfl, List.length_range]
  have := main n _ a0 w.drew inv0 h0 ⟨fun j => if hj : j < n then (hne j hj).choose else undef, rfl, rfl, fun i o d _ _ _ hl => (by rw [getD_replicate_false] at hl; cases hl), fun _ _ => rfl, fun i hi => by simp only [dif_pos hi]; exact (hne i hi).choose_spec, hI⟩
  rwa [show n + (l.toArray.size - n) = l.toArray.size by omega] at this
/-! The same where what is known of memory depends on what has been done. -/
variable {J : (Nat → Bool) → World → Prop}
/-- Each operation of a list, in the order of the text: whatever the ones ahead gave. -/
def wpUD (P : Program) (J : (Nat → Bool) → World → Prop) (U : Nat → Value → Prop) (K : Act → Prop) : Nat → List Oper → Act → Prop
  | _, [], a => K a
  | k, o :: l, a => (∀ D w, D k = false → J D w → yield P o a w fun u w' => U k u ∧ J (updD D k) w') ∧ ∀ u, U k u → wpUD P J U K (k + 1) l (a.put o.dst u)
theorem wpUD_nil {k : Nat} {a : Act} (h : K a) : wpUD P J U K k [] a := h
theorem wpUD_cons {k : Nat} {o : Oper} {l : List Oper} {a : Act} (h1 : ∀ D w, D k = false → J D w → yield P o a w fun u w' => U k u ∧ J (updD D k) w') (h2 : ∀ u, U k u → wpUD P J U K (k + 1) l (a.put o.dst u)) : wpUD P J U K k (o :: l) a := ⟨h1, h2⟩
theorem wpUD_full : ∀ (l : List Oper) (k : Nat) (a : Act) (g : Nat → Value), wpUD P J U K k l a → (∀ j, j < l.length → U (k + j) (g (k + j))) → K (fullAct l k a g)
  | [], _, _, _, h, _ => h
  | o :: l, k, a, g, h, hg => by
    rw [fullAct]
    refine wpUD_full l (k + 1) _ g (h.2 _ (hg 0 (by simp))) fun j hj => ?_
    have := hg (j + 1) (by simpa using hj)
    rwa [show k + (j + 1) = k + 1 + j by omega] at this
theorem wpUD_at : ∀ (l : List Oper) (k : Nat) (a : Act) (g : Nat → Value) (i : Nat) (o : Oper), wpUD P J U K k l a → (∀ j, j < i → U (k + j) (g (k + j))) → l[i]? = some o → ∀ D w, D (k + i) = false → J D w → yield P o (fullAct (l.take i) k a g) w fun u w' => U (k + i) u ∧ J (updD D (k + i)) w'
  | [], _, _, _, _, _, _, _, hi, _, _, _, _ => by simp at hi
  | o :: l, k, a, g, 0, o', h, _, hi, D, w, hD, hI => by
    obtain rfl : o = o' := by simpa using hi
    exact h.1 D w hD hI
  | o :: l, k, a, g, i + 1, o', h, hg, hi, D, w, hD, hI => by
    rw [List.take_succ_cons, fullAct]
    have := wpUD_at l (k + 1) _ g i o' (h.2 _ (hg 0 (by omega))) (fun j hj => by
      have := hg (j + 1) (by omega)
      rwa [show k + (j + 1) = k + 1 + j by omega] at this) (by simpa using hi) D w (by rw [show k + 1 + i = k + (i + 1) by omega]; exact hD) hI
    rwa [show k + 1 + i = k + (i + 1) by omega] at this

/-- THE RULE. -/
theorem wp_region_calmD {id : Nat} {Q : Exit → Act → World → Prop} {a0 : Act} {w : World} {l : List Oper} (n : Nat) (J : (Nat → Bool) → World → Prop) (U : Nat → Value → Prop) (hm : P.follows .mixedOrders = true) (hB : calmB l.toArray a0.tmps.size n = true) (hT : calmTailB l.toArray n = true)
    (hne : ∀ j, j < n → ∃ v, U j v) (hI : J (fun _ => false) w.drew)
    (h : wpUD P J U (fun af => ∀ D w', (∀ i, i < n → D i = true) → J D w' → wpList P l.toArray Q (l.drop n) af w') 0 (l.take n) a0) : (Code.region id l.toArray true).wp P Q a0 w := by
  simp only [calmTailB, Bool.and_eq_true, decide_eq_true_eq] at hT
  obtain ⟨⟨⟨⟨hsel, hn⟩, hs⟩, hc⟩, hseq⟩ := hT
  have hn' : n < l.length := by simpa using hn
  have hdl : (l.drop n).length = l.toArray.size - n := by simp
  refine wp_region_any hm ?_
  have main : ∀ (f : Nat) (listed : Array Bool) (a : Act) (w : World), HeadInv .any l.toArray n listed → ((List.range n).filter fun i => !listed.getD i false).length = f →
      (∃ g : Nat → Value, a.defers = a0.defers ∧ a.tmps.size = a0.tmps.size ∧ (∀ i o d, i < n → l.toArray[i]? = some o → o.dst = some d → listed.getD i false = true → a.tmps.getD d undef = g i) ∧
        (∀ d, (∀ i o, i < n → l.toArray[i]? = some o → listed.getD i false = true → o.dst ≠ some d) → a.tmps.getD d undef = a0.tmps.getD d undef) ∧ (∀ i, i < n → U i (g i)) ∧ J (fun i => listed.getD i false) w) →
      wpAny P .any l.toArray Q (f + (l.toArray.size - n)) listed a w := by
    intro f
    induction f with
    | zero =>
      intro listed a w inv hf ⟨g, h1, h2, h3, h4, h5, hIw⟩
      have hall : ∀ i, i < n → listed.getD i false = true := fun i hi => by
        cases hl : listed.getD i false with
        | true => rfl
        | false =>
          have := List.eq_nil_of_length_eq_zero hf
          have hm : i ∈ (List.range n).filter fun i => !listed.getD i false := List.mem_filter.2 ⟨List.mem_range.2 hi, by simp [hl]⟩
          rw [this] at hm; cases hm
      have hlis : listed = doneA n l.toArray.size := by
        apply Array.ext
        · rw [inv.size]; simp [doneA]; omega
        · intro i hi hi'
          have hsz := inv.size
          by_cases hin : i < n
          · have := hall i hin
            simp only [Array.getD_eq_getD_getElem?, hi, Array.getElem?_eq_getElem, Option.getD_some] at this
            rw [this]; simp [doneA, hin]
          · have := inv.tail i (by omega) (by omega)
            simp only [Array.getD_eq_getD_getElem?, hi, Array.getElem?_eq_getElem, Option.getD_some] at this
            rw [this]; simp only [doneA]; rw [Array.getElem_append_right (by simp; omega)]; simp
      have ha : a = fullAct (l.take n) 0 a0 g := by
        obtain ⟨tm, df⟩ := a
        have e1 : tm = (fullAct (l.take n) 0 a0 g).tmps := by
          apply Array.ext
          · rw [full_size]; exact h2
          · intro d hd hd'
            have e : tm.getD d undef = (fullAct (l.take n) 0 a0 g).tmps.getD d undef := by
              by_cases hw : ∃ (j : Nat) (o' : Oper), j < n ∧ l.toArray[j]? = some o' ∧ o'.dst = some d
              · obtain ⟨j, o', hjn, hj, hdd⟩ := hw
                obtain ⟨o2, ho2, hc⟩ := calmB_spec hB hjn
                obtain rfl : o2 = o' := Option.some.inj (ho2.symm.trans hj)
                rw [show tm.getD d undef = g j from h3 j o2 d hjn hj hdd (hall j hjn), full_new (l.take n) 0 a0 g d j o2 (by rw [List.getElem?_take, if_pos hjn]; simpa using hj) hdd (hc.lt d hdd) (fun j' o'' h' hne => by
                  rw [List.getElem?_take] at h'
                  split at h'
                  · rename_i hj'; exact hc.own d hdd j' o'' hj' (by simpa using h') hne
                  · (cases h')), Nat.zero_add]
              · rw [show tm.getD d undef = a0.tmps.getD d undef from h4 d fun j o' hjn hj _ hdd => hw ⟨j, o', hjn, hj, hdd⟩, full_old (l.take n) 0 a0 g d fun o' ho' hdd => by
                  obtain ⟨j, hj⟩ := List.getElem?_of_mem ho'
                  rw [List.getElem?_take] at hj
                  split at hj
                  · rename_i hjn; exact hw ⟨j, o', hjn, by simpa using hj, hdd⟩
                  · cases hj]
            simpa [Array.getD_eq_getD_getElem?, hd, hd'] using e
        have e2 : df = (fullAct (l.take n) 0 a0 g).defers := by rw [full_def]; exact h1
        rw [e1, e2]
      have hK := wpUD_full (l.take n) 0 a0 g h (fun j hj => by rw [Nat.zero_add]; exact h5 j (by simp at hj; omega)) _ w hall hIw
      rw [Nat.zero_add, ha, hlis]
      have h1 := wpAny_of_seq (P := P) (md := .any) (ops := l.toArray) (Q' := Q) (l.drop n) n (doneA n l.toArray.size) _ w (fun j => by simp) (by rw [hdl]; exact hseq) hK
      rwa [hdl] at h1
    | succ f ih =>
      intro listed a w inv hf ⟨g, h1, h2, h3, h4, h5, hIw⟩
      rw [show f + 1 + (l.toArray.size - n) = (f + (l.toArray.size - n)) + 1 by omega]
      obtain ⟨i0, hi0⟩ : ∃ i, i ∈ (List.range n).filter fun i => !listed.getD i false := by
        cases hL : (List.range n).filter fun i => !listed.getD i false with
        | nil => rw [hL] at hf; simp at hf
        | cons x L => exact ⟨x, by simp⟩
      have hi0n : i0 < n := List.mem_range.1 (List.mem_filter.1 hi0).1
      have hi0l : listed.getD i0 false = false := by simpa using (List.mem_filter.1 hi0).2
      have hi0s : i0 < listed.size := by rw [inv.size]; simp; omega
      have hwait := tail_waits hs hc (by simpa using hn') inv _ i0 rfl hi0n (getD_in hi0s hi0l)
      refine ⟨fun hr => ?_, fun i hi => ?_⟩
      · -- something is ready: the least that is not listed
        exfalso
        have key : ∀ k, k < n → listed.getD k false = true := by
          intro k
          induction k using Nat.strongRecOn with
          | ind k ihk =>
            intro hk
            cases hl : listed.getD k false with
            | true => rfl
            | false =>
              obtain ⟨o, ho, hc⟩ := calmB_spec hB hk
              have hks : k < listed.size := by rw [inv.size]; simp; omega
              have : k ∈ Region.ready .any l.toArray listed := mem_ready.2 ⟨getD_in hks hl, o, ho, fun e he hb => ihk e.on (hc.ahead e he hb) (by have := hc.ahead e he hb; omega)⟩
              rw [hr] at this; cases this
        rw [key i0 hi0n] at hi0l; cases hi0l
      · have hin : i < n := by
          rcases Nat.lt_or_ge i n with h | h
          · exact h
          · exact absurd hi (hwait i h)
        obtain ⟨h0, o, ho, hpre⟩ := mem_ready.1 hi
        obtain ⟨o2, ho2, hc⟩ := calmB_spec hB hin
        obtain rfl : o2 = o := Option.some.inj (ho2.symm.trans ho)
        have hlt' : i < listed.size := by rw [inv.size]; simp; omega
        have h0' : listed.getD i false = false := getD_both h0
        have hD : ∀ j, (listed.setIfInBounds i true).getD j false = if j = i then true else listed.getD j false := fun j => by
          by_cases hj : j = i
          · subst hj; simp [Array.getD_eq_getD_getElem?, hlt']
          · rw [if_neg hj, getD_set_ne false (Ne.symm hj)]
        have hy := wpUD_at (l.take n) 0 a0 g i o2 h (fun j hj => by rw [Nat.zero_add]; exact h5 j (by omega)) (by rw [List.getElem?_take, if_pos hin]; simpa using ho) (fun i => listed.getD i false) w (by rw [Nat.zero_add]; exact h0') hIw
        rw [Nat.zero_add, List.take_take, Nat.min_eq_left (by omega)] at hy
        have hcongr : execOp a.eval o2 = execOp (fullAct (l.take i) 0 a0 g).eval o2 := by
          refine execOp_congr o2 (fun cs b => Region.noSelect_spec hsel i o2 cs b ho) fun x hx => ?_
          cases x with
          | tmp t =>
            have ht : t ∈ o2.looksAt l.toArray := List.mem_append_left _ (List.mem_filterMap.2 ⟨.tmp t, by simpa using hx, rfl⟩)
            show a.tmps.getD t undef = (fullAct (l.take i) 0 a0 g).tmps.getD t undef
            by_cases hw : ∃ (j : Nat) (o' : Oper), j < n ∧ l.toArray[j]? = some o' ∧ o'.dst = some t
            · obtain ⟨j, o', hjn, hj, hd⟩ := hw
              obtain ⟨e, he, hb, hon⟩ := hc.reads t ht j o' hjn hj hd
              have hji : j < i := by rw [← hon]; exact hc.ahead e he hb
              have hlj : listed.getD j false = true := by rw [← hon]; exact hpre e he hb
              obtain ⟨o3, ho3, hc3⟩ := calmB_spec hB hjn
              obtain rfl : o3 = o' := Option.some.inj (ho3.symm.trans hj)
              rw [h3 j o3 t hjn hj hd hlj, full_new (l.take i) 0 a0 g t j o3 (by rw [List.getElem?_take, if_pos hji]; simpa using hj) hd (hc3.lt t hd) (fun j' o'' h' hne => by
                rw [List.getElem?_take] at h'
                split at h'
                · rename_i hj'; exact hc3.own t hd j' o'' (by omega) (by simpa using h') hne
                · (cases h')), Nat.zero_add]
            · rw [h4 t fun j o' hjn hj _ hd => hw ⟨j, o', hjn, hj, hd⟩, full_old (l.take i) 0 a0 g t fun o' ho' hd => by
                obtain ⟨j, hj⟩ := List.getElem?_of_mem ho'
                rw [List.getElem?_take] at hj
                split at hj
                · rename_i hji; exact hw ⟨j, o', by omega, by simpa using hj, hd⟩
                · cases hj]
          | _ => rfl
        refine wpOp_of_yield ho hc.guard hcongr hy fun u w' ⟨hu, hIw'⟩ => ?_
        refine ih _ _ w' (inv.set hi hin) ?_ ⟨fun j => if j = i then u else g j, by rw [actput_def]; exact h1, by rw [actput_size]; exact h2, fun j o' d hjn hj hd hl => ?_, fun d hd => ?_, fun j hj => ?_, by have e : (fun j => (listed.setIfInBounds i true).getD j false) = updD (fun i => listed.getD i false) i := funext hD; rw [e]; exact hIw'⟩
        · have e : ((List.range n).filter fun j => !(listed.setIfInBounds i true).getD j false) = ((List.range n).filter fun j => !listed.getD j false).filter fun j => !decide (j = i) := by
            rw [List.filter_filter]
            congr 1
            funext j
            rw [hD j]
            by_cases hj : j = i <;> simp [hj]
          rw [e]
          have hnd : ((List.range n).filter fun j => !listed.getD j false).Nodup := List.nodup_range.filter _
          have hmi : i ∈ (List.range n).filter fun j => !listed.getD j false := List.mem_filter.2 ⟨List.mem_range.2 hin, by simp [h0']⟩
          have : ((List.range n).filter fun j => !listed.getD j false).filter (fun j => !decide (j = i)) = ((List.range n).filter fun j => !listed.getD j false).erase i := by
            rw [hnd.erase_eq_filter]
            congr 1
          rw [this, List.length_erase_of_mem hmi, hf]; rfl
        · rw [hD j] at hl
          by_cases hj' : j = i
          · subst hj'
            obtain rfl : o2 = o' := Option.some.inj (ho.symm.trans hj)
            show _ = if j = j then u else g j
            rw [hd, if_pos rfl, actput_new _ (by rw [h2]; exact hc.lt d hd)]
          · rw [if_neg hj'] at hl
            show _ = if j = i then u else g j
            obtain ⟨o3, ho3, hc3⟩ := calmB_spec hB hjn
            obtain rfl : o3 = o' := Option.some.inj (ho3.symm.trans hj)
            rw [if_neg hj', actput_old _ fun h => hc3.own d hd i o2 hin ho (Ne.symm hj') h]
            exact h3 j o3 d hjn hj hd hl
        · rw [actput_old _ (hd i o2 hin ho (by rw [hD i, if_pos rfl]))]
          exact h4 d fun j o' hjn hj hl => hd j o' hjn hj (by
            rw [hD j]
            by_cases hj' : j = i
            · rw [if_pos hj']
            · rw [if_neg hj']; exact hl)
        · show U j (if j = i then u else g j)
          by_cases hj' : j = i
          · subst hj'; rw [if_pos rfl]; exact hu
          · rw [if_neg hj']; exact h5 j hj
  have inv0 : HeadInv .any l.toArray n (Array.replicate l.toArray.size false) :=
    ⟨by simp, fun j oj _ hl => (by rw [getD_replicate_false] at hl; cases hl), fun t _ ht => getD_in (by simpa using ht) (getD_replicate_false _ _)⟩
  have h0 : ((List.range n).filter fun i => !(Array.replicate l.toArray.size false).getD i false).length = n := by
    rw [List.filter_eq_self.2 fun i _ => by rw [getD_replicate_false]; rfl, List.length_range]
  have := main n _ a0 w.drew inv0 h0 ⟨fun j => if hj : j < n then (hne j hj).choose else undef, rfl, rfl, fun i o d _ _ _ hl => (by rw [getD_replicate_false] at hl; cases hl), fun _ _ => rfl, fun i hi => by simp only [dif_pos hi]; exact (hne i hi).choose_spec, by rw [show (fun i => (Array.replicate l.toArray.size false).getD i false) = fun _ => false from funext fun i => getD_replicate_false _ _]; exact hI⟩
  rwa [show n + (l.toArray.size - n) = l.toArray.size by omega] at this
end
end Go.Proofs.Ythdldlpflieeoaa

/- The reference's checks of permutations, squares and loops: contracts. -/
namespace Go.Proofs.Ythdldlpflieeoaa
set_option linter.unusedSimpArgs false
set_option linter.unusedVariables false
open Go.RowKit

theorem zero_b10 (w : World) : (zeroValue 154).run Try.prog w = .ok (.agg (bls fun _ => false)) w := by kernel_rfl
theorem und_b10 : Try.prog.underlying 154 = some (.array 10 4) := by kernel_rfl
theorem inf_b10 : (Try.prog.info? 154).map (·.size) = some 10 := by kernel_rfl
theorem build_b10 (w : World) : (Instr.build 154 #[]).run Try.prog w = .ok (.agg (bls fun _ => false)) w := by kernel_rfl

theorem build_tbl (w : World) : (Instr.build 35 #[]).run Try.prog w = .ok (.agg (tbs fun _ _ => 0)) w := by kernel_rfl

theorem l01In_b (n lo hi : Int) (b : Bool) (hb : b = true ↔ lo ≤ n ∧ n ≤ hi) (w : World) :
    Calls Try.prog 152 #[.int .i64 n, .int .i64 lo, .int .i64 hi] w fun e w' => e = .returned (.bool b) ∧ w = w' := by
  by_cases h1 : lo ≤ n <;> by_cases h2 : n ≤ hi
  all_goals
    have hb' : b = (decide (lo ≤ n) && decide (n ≤ hi)) := by cases b <;> simp_all
    subst hb'
    clear hb
    go_enter Try.func152, Try.ntmps152
    go_wp2
    go_ret
    exact ⟨by simp [h1, h2], rfl⟩

set_option maxRecDepth 100000 in
set_option maxHeartbeats 1000000 in
theorem l01Perm_any (n : Int) (p : Nat → Nat) (w : World) (hby : Byt p) :
    Calls Try.prog 136 #[.agg (bys p), .int .i64 n] w fun e w' => e = .returned (.bool (isPm n p)) ∧ Below w.heap.size w w' := by
  have hz := zero_b10
  have hbd := build_b10
  by_cases hn : 1 ≤ n ∧ n ≤ 10
  · obtain ⟨hn1, hn2⟩ := hn
    go_enter Try.func136, Try.ntmps136
    go_wp2_with (first | (go_at_call 152; ((with_reducible refine (l01In_b _ _ _ true (by simp; omega) _).mono ?_); rintro e w1 ⟨rfl, rfl⟩)) | (refine wpList_store_row rfl 154 _ _ rfl _ rfl _ rfl inf_b10 _ _ (blk_new _ _ _ _ (by simp)) (by simp [bls_size]) (flat_bls _) ?_))
    clear hz hbd
    go_loopw [4, 6] (fun _ i wr => ∃ k : Nat, k ≤ 10 ∧ i = .int .i64 k ∧ Below w.heap.size w wr ∧ blk wr w.heap.size (bys p) 25 ∧
      ∃ met : Nat → Bool, blk wr (w.heap.size + 1) (bls met) 154 ∧ (∀ v, met v = true ↔ ∃ j, j < k ∧ (j : Int) < n ∧ p j = v) ∧ PmTo n p k) (fun _ i _ => (10 - intOf i).toNat)
    case atStart =>
      refine ⟨0, by omega, rfl, ?_, ?_, _, blk_put (blk_new _ _ _ _ (by simp)) _, ?_, PmTo.start n p⟩
      · exact below_put (((Below.refl _ _).alloc (by simp) _).alloc (by simp) _) (by omega) _ _
      · exact blk_put_other ((blk_new _ _ _ _ rfl).alloc _) (by omega)
      · simp
    case round =>
      obtain ⟨k, hk, rfl, hB, b1, met, b2, hmet, hto⟩ := hrel
      by_cases hlt : k < 10
      · have c1 := b1.cell k _ (bys_get hlt)
        have hb256 := hby.at_ k hlt
        by_cases hn3 : n ≤ (k : Int)
        · by_cases hp : p k = 0
          · go_wp2
            go_roundw
            case rel => exact ⟨k + 1, by omega, by go_num, hB, b1, met, b2, by
              intro v; rw [hmet]
              constructor
              · rintro ⟨j, h1, h2, h3⟩; exact ⟨j, by omega, h2, h3⟩
              · rintro ⟨j, h1, h2, h3⟩; exact ⟨j, by omega, h2, h3⟩, hto.behind hn3 hp⟩
            case measure => simp [intOf]; omega
          · have hf : isPm n p = false := isPm_false.2 fun h => hp (h.zero k hlt hn3)
            go_wp2
            go_ret
            exact ⟨by first | rfl | exact ret_b hf, hB⟩
        · by_cases hp : (p k : Int) < n
          · have c2 := b2.cell (p k) _ (bls_get (by omega))
            have f2 := b2.free (p k)
            cases hm : met (p k) with
            | true =>
              have hf : isPm n p = false := isPm_false.2 fun h => by
                obtain ⟨j, h1, h2, h3⟩ := (hmet _).1 hm
                exact h.inj k j hlt h1 (by omega) h3.symm
              rw [hm] at c2
              go_wp2
              go_ret
              exact ⟨by first | rfl | exact ret_b hf, hB⟩
            | false =>
              rw [hm] at c2
              go_wp2
              go_roundw
              case rel => exact ⟨k + 1, by omega, by go_num, hB.setCell (by simp) _, b1.other _ _ (by omega), _, (b2.set (p k) (.bool true)).eq (bls_set _ _ _), by
                intro v
                split
                · rename_i h; exact ⟨fun _ => ⟨k, by omega, by omega, h.symm⟩, fun _ => rfl⟩
                · rename_i h; rw [hmet]
                  constructor
                  · rintro ⟨j, h1, h2, h3⟩; exact ⟨j, by omega, h2, h3⟩
                  · rintro ⟨j, h1, h2, h3⟩; exact ⟨j, by
                      by_cases e : j = k
                      · subst e; exact absurd h3.symm h
                      · omega, h2, h3⟩, hto.more (by omega) hp fun j hj h => by
                  have := (hmet (p k)).2 ⟨j, hj, by omega, h⟩
                  rw [hm] at this; cases this⟩
              case measure => simp [intOf]; omega
          · have hf : isPm n p = false := isPm_false.2 fun h => hp (h.lt k hlt (by omega))
            go_wp2
            go_ret
            exact ⟨by first | rfl | exact ret_b hf, hB⟩
      · obtain rfl : k = 10 := by omega
        go_wp2
        go_ret
        exact ⟨ret_b (hto.all hn1 hn2), hB⟩
  · have hf : isPm n p = false := isPm_false.2 fun h => hn ⟨h.lo, h.hi⟩
    go_enter Try.func136, Try.ntmps136
    go_wp2_with (first | (go_at_call 152; ((with_reducible refine (l01In_b _ _ _ false (by simp; omega) _).mono ?_); rintro e w1 ⟨rfl, rfl⟩)))
    go_ret
    exact ⟨ret_b (hf), (Below.refl _ _).alloc (Nat.le_refl _) _⟩

set_option maxRecDepth 100000 in
set_option maxHeartbeats 1000000 in
theorem l01Turned_any (t : Nat → Nat → Nat) (w : World) :
    Calls Try.prog 251 #[.agg (tbs t)] w fun e w' => e = .returned (.agg (tbs fun x y => t y x)) ∧ Below w.heap.size w w' := by
  have hz := zero_tbl
  have hbd := build_tbl
  go_enter Try.func251, Try.ntmps251
  go_wp2_with (first | (refine wpList_store_row rfl 35 _ _ rfl _ rfl _ rfl inf_tbl _ _ (blk_new _ _ _ _ (by simp)) (by simp [tbs_size]) (flat_tbs _) ?_))
  clear hz hbd
  go_loopw [4, 5] (fun i _ wr => ∃ k : Nat, k ≤ 10 ∧ i = .int .i64 k ∧ Below w.heap.size w wr ∧ blk wr w.heap.size (tbs t) 35 ∧ blk wr (w.heap.size + 1) (tbs fun _ _ => 0) 35 ∧
    blk wr (w.heap.size + 1 + 1) (tbs fun x y => if y < k then t y x else 0) 35) (fun i _ _ => (10 - intOf i).toNat)
  case atStart =>
    refine ⟨0, by omega, rfl, ?_, ?_, ?_, ?_⟩
    · exact below_put ((((Below.refl _ _).alloc (by simp) _).alloc (by simp) _).alloc (by simp; omega) _) (by omega) _ _
    · exact blk_put_other (((blk_new _ _ _ _ (by simp)).alloc _).alloc _) (by omega)
    · exact blk_put_other ((blk_new _ _ _ _ (by simp)).alloc _) (by omega)
    · exact blk_put (blk_new _ _ _ _ (by simp)) _
  case round =>
    obtain ⟨k, hk, rfl, hB, b1, b2, b3⟩ := hrel
    by_cases hlt : k < 10
    · have hd : decide ((k : Int) < 10) = true := by simp; omega
      go_wp2
      obtain ⟨wo, rfl⟩ : ∃ wo : World, wo = wr := ⟨_, rfl⟩
      go_loopw [5] (fun j wr => ∃ l : Nat, l ≤ 10 ∧ j = .int .i64 l ∧ Below w.heap.size w wr ∧ blk wr w.heap.size (tbs t) 35 ∧ blk wr (w.heap.size + 1) (tbs fun _ _ => 0) 35 ∧
        blk wr (w.heap.size + 1 + 1) (tbs fun x y => if y < k ∨ y = k ∧ x < l then t y x else 0) 35) (fun j _ => (10 - intOf j).toNat)
      case atStart =>
        exact ⟨0, by omega, rfl, hB, b1, b2, by simpa using b3⟩
      case round =>
        obtain ⟨l, hl, rfl, hB, b1, b2, b3⟩ := hrel
        by_cases hlt2 : l < 10
        · have c1 := b1.cell _ _ (tbs_get hlt hlt2)
          have c3 := b3.cell _ _ (tbs_get hlt2 hlt)
          have f3 := b3.free (l * 10 + k)
          go_wp2
          have hk' : (k : Int) < 10 := by omega
          have hl' : (l : Int) < 10 := by omega
          go_still_tail 9, (by kernel_rfl)
          go_wp2
          go_roundw
          case rel => exact ⟨l + 1, by omega, by go_num, (hB.setCell (by simp; omega) _).drew, (b1.other _ _ (by omega)).drew, (b2.other _ _ (by omega)).drew, (b3.set _ _).drew.eq (by
            rw [tbs_set hlt2 hlt]
            refine tbs_ext fun i j hi hj => ?_
            by_cases h : i = l ∧ j = k
            · obtain ⟨rfl, rfl⟩ := h; simp
            · rw [if_neg h]
              by_cases h2 : j < k ∨ j = k ∧ i < l
              · rw [if_pos h2, if_pos (by omega)]
              · rw [if_neg h2, if_neg (by omega)])⟩
          case measure => simp [intOf]; omega
        · obtain rfl : l = 10 := by omega
          go_wp2
          go_roundw
          case rel => exact ⟨k + 1, by omega, by go_num, hB, b1, b2, b3.eq (by
            refine tbs_ext fun i j hi hj => ?_
            by_cases h2 : j < k ∨ j = k ∧ i < 10
            · rw [if_pos h2, if_pos (by omega)]
            · rw [if_neg h2, if_neg (by omega)])⟩
          case measure => simp [intOf]; omega
    · obtain rfl : k = 10 := by omega
      rw [tbs_ext (u := fun x y => t y x) (fun i j hi hj => by simp [hj])] at b3
      go_wp2_with (first | (refine wpList_load_part rfl 35 _ rfl _ _ rfl (tbs fun x y => t y x) _ und_tbl rfl inf_tbl (cells_of_blk0 b3) ?_) | (refine wpList_store_row rfl 35 _ _ rfl _ rfl _ rfl inf_tbl _ _ (b2) (by simp [tbs_size]) (flat_tbs _) ?_))
      refine bodyPost_ret (v := .agg (tbs fun x y => t y x)) (by exact results_part rfl _ _ _ _ _ _ rfl und_tbl rfl inf_tbl (cells_of_blk0 (blk_put b2 _))) rfl ?_
      exact ⟨rfl, below_put hB (by omega) _ _⟩
end Go.Proofs.Ythdldlpflieeoaa

/- The cells of a triple of permutations. -/
namespace Go.Proofs.Ythdldlpflieeoaa
set_option linter.unusedSimpArgs false
set_option linter.unusedVariables false
open Go.RowKit

def trs (f g h : Nat → Nat) : Array Value := tab 30 fun i => .int .u8 ((if i < 10 then f i else if i < 20 then g (i - 10) else h (i - 20) : Nat) : Int)
theorem trs_size (f g h : Nat → Nat) : (trs f g h).size = 30 := tab_size _ _
theorem flat_trs (f g h : Nat → Nat) : flat (trs f g h) := flat_tab fun _ _ => rfl
theorem trs_first {f g h : Nat → Nat} : ∀ j v, (bys f)[j]? = some v → (trs f g h)[0 + j]? = some v := by
  intro j v hv
  obtain ⟨hj, rfl⟩ := tab_get_some hv
  unfold trs; rw [tab_get (by omega), if_pos (by omega), Nat.zero_add]
theorem trs_second {f g h : Nat → Nat} : ∀ j v, (bys g)[j]? = some v → (trs f g h)[10 + j]? = some v := by
  intro j v hv
  obtain ⟨hj, rfl⟩ := tab_get_some hv
  unfold trs; rw [tab_get (by omega), if_neg (by omega), if_pos (by omega), Nat.add_sub_cancel_left]
theorem trs_third {f g h : Nat → Nat} : ∀ j v, (bys h)[j]? = some v → (trs f g h)[20 + j]? = some v := by
  intro j v hv
  obtain ⟨hj, rfl⟩ := tab_get_some hv
  unfold trs; rw [tab_get (by omega), if_neg (by omega), if_neg (by omega), Nat.add_sub_cancel_left]
theorem trs_get1 {f g h : Nat → Nat} {i : Nat} (hi : i < 10) : (trs f g h)[i]? = some (.int .u8 (f i)) := by
  have := trs_first (f := f) (g := g) (h := h) i _ (bys_get hi); rwa [Nat.zero_add] at this
theorem trs_get2 {f g h : Nat → Nat} {i : Nat} (hi : i < 10) : (trs f g h)[10 + i]? = some (.int .u8 (g i)) := trs_second i _ (bys_get hi)
theorem trs_get3 {f g h : Nat → Nat} {i : Nat} (hi : i < 10) : (trs f g h)[20 + i]? = some (.int .u8 (h i)) := trs_third i _ (bys_get hi)
theorem trs_ext {f g h p q r : Nat → Nat} (h1 : ∀ i, i < 10 → f i = p i) (h2 : ∀ i, i < 10 → g i = q i) (h3 : ∀ i, i < 10 → h i = r i) : trs f g h = trs p q r := by
  refine tab_ext fun i hi => ?_
  by_cases c1 : i < 10
  · rw [if_pos c1, if_pos c1, h1 i c1]
  · rw [if_neg c1, if_neg c1]
    by_cases c2 : i < 20
    · rw [if_pos c2, if_pos c2, h2 _ (by omega)]
    · rw [if_neg c2, if_neg c2, h3 _ (by omega)]
end Go.Proofs.Ythdldlpflieeoaa

/- Triples of permutations: contracts. -/
namespace Go.Proofs.Ythdldlpflieeoaa
set_option linter.unusedSimpArgs false
set_option linter.unusedVariables false
open Go.RowKit

theorem zero_trp (w : World) : (zeroValue 46).run Try.prog w = .ok (.agg (trs (fun _ => 0) (fun _ => 0) (fun _ => 0))) w := by kernel_rfl

theorem und_trp : Try.prog.underlying 46 = some (.struct (Try.prog.fieldsOf 46)) := by kernel_rfl

theorem inf_trp : (Try.prog.info? 46).map (·.size) = some 30 := by kernel_rfl

theorem build_trp (f g h : Nat → Nat) (w : World) : (Instr.build 46 #[(0, .agg (bys f)), (1, .agg (bys g)), (2, .agg (bys h))]).run Try.prog w = .ok (.agg (trs f g h)) w := by kernel_rfl

set_option maxRecDepth 100000 in
set_option maxHeartbeats 600000 in
theorem thenTriples_any (f g h p q r : Nat → Nat) (n : Int) (w : World) (h0 : 0 ≤ n) (h1 : n ≤ 10) (hf : ∀ i : Nat, (i : Int) < n → f i < 10) (hg : ∀ i : Nat, (i : Int) < n → g i < 10) (hh : ∀ i : Nat, (i : Int) < n → h i < 10) :
    Calls Try.prog 161 #[.agg (trs f g h), .agg (trs p q r), .int .i64 n] w fun e w' => e = .returned (.agg (trs (thTo f p n.toNat) (thTo g q n.toNat) (thTo h r n.toNat))) ∧ Below w.heap.size w w' := by
  have hz := zero_trp
  have HF := Hid2.mk hf
  have HG := Hid2.mk hg
  have HH := Hid2.mk hh
  clear hf hg hh
  have hB := ((((Below.refl w.heap.size w).alloc (by simp) (.cells (trs f g h) 46)).alloc (by simp) (.cells (trs p q r) 46)).alloc (by simp; omega) (.cells (trs (fun _ => 0) (fun _ => 0) (fun _ => 0)) 46))
  have a1 := ((blk_new w (trs f g h) 46 w.heap.size rfl).alloc (.cells (trs p q r) 46)).alloc (.cells (trs (fun _ => 0) (fun _ => 0) (fun _ => 0)) 46)
  have a2 := ((blk_new (w.alloc (.cells (trs f g h) 46)) (trs p q r) 46 (w.heap.size + 1) (by simp))).alloc (.cells (trs (fun _ => 0) (fun _ => 0) (fun _ => 0)) 46)
  have a3 := blk_new ((w.alloc (.cells (trs f g h) 46)).alloc (.cells (trs p q r) 46)) (trs (fun _ => 0) (fun _ => 0) (fun _ => 0)) 46 (w.heap.size + 1 + 1) (by simp)
  go_enter Try.func161, Try.ntmps161
  go_wp2
  apply wp_region_text_tail 19 (fun w' => Below w.heap.size w w' ∧ blk w' w.heap.size (trs f g h) 46 ∧ blk w' (w.heap.size + 1) (trs p q r) 46 ∧ blk w' (w.heap.size + 1 + 1) (trs (fun _ => 0) (fun _ => 0) (fun _ => 0)) 46) (by kernel_rfl) (by kernel_rfl) (⟨hB.drew, a1.drew, a2.drew, a3.drew⟩); (simp only [List.take_succ_cons, List.take_zero]; repeat (first | exact wpText_nil | (apply wpText_cons; (intro w2 hS; obtain ⟨hB2, b1, b2, b3⟩ := hS; go_wp2_with (first | (refine wpList_load_part rfl 25 _ rfl (w.heap.size) (0) rfl (bys f) _ und_plc rfl inf_plc (cells_of_blk b1 _ _ trs_first) ?_) | (refine wpList_load_part rfl 25 _ rfl (w.heap.size) (10) rfl (bys g) _ und_plc rfl inf_plc (cells_of_blk b1 _ _ trs_second) ?_) | (refine wpList_load_part rfl 25 _ rfl (w.heap.size) (20) rfl (bys h) _ und_plc rfl inf_plc (cells_of_blk b1 _ _ trs_third) ?_) | (refine wpList_load_part rfl 25 _ rfl (w.heap.size + 1) (0) rfl (bys p) _ und_plc rfl inf_plc (cells_of_blk b2 _ _ trs_first) ?_) | (refine wpList_load_part rfl 25 _ rfl (w.heap.size + 1) (10) rfl (bys q) _ und_plc rfl inf_plc (cells_of_blk b2 _ _ trs_second) ?_) | (refine wpList_load_part rfl 25 _ rfl (w.heap.size + 1) (20) rfl (bys r) _ und_plc rfl inf_plc (cells_of_blk b2 _ _ trs_third) ?_) | (go_at_call 135; ((with_reducible refine (then_any _ _ _ _ h0 h1 HF.out).mono ?_); rintro e w1 ⟨rfl, hb⟩)) | (go_at_call 135; ((with_reducible refine (then_any _ _ _ _ h0 h1 HG.out).mono ?_); rintro e w1 ⟨rfl, hb⟩)) | (go_at_call 135; ((with_reducible refine (then_any _ _ _ _ h0 h1 HH.out).mono ?_); rintro e w1 ⟨rfl, hb⟩)) | (refine wpList_build 46 _ rfl rfl [(0, .agg (bys (thTo f p n.toNat))), (1, .agg (bys (thTo g q n.toNat))), (2, .agg (bys (thTo h r n.toNat)))] rfl _ (build_trp _ _ _ _) ?_)); (first | exact ⟨rfl, rfl, hB2, b1, b2, b3⟩ | exact ⟨rfl, rfl, below_self hB2 hb, b1.later hb, b2.later hb, b3.later hb⟩)); rfl)))
  (intro w2 hS; simp only [List.drop_succ_cons, List.drop_zero]; obtain ⟨hB2, b1, b2, b3⟩ := hS)
  go_wp2_with (first | (refine wpList_store_row rfl 46 _ _ rfl _ rfl _ rfl inf_trp _ _ (b3) (by simp [trs_size]) (flat_trs _ _ _) ?_))
  refine bodyPost_ret (v := .agg (trs (thTo f p n.toNat) (thTo g q n.toNat) (thTo h r n.toNat))) (by exact results_part rfl _ _ _ _ _ _ rfl und_trp rfl inf_trp (cells_of_blk0 (blk_put b3 _))) rfl ?_
  exact ⟨rfl, below_put hB2 (by omega) _ _⟩

set_option maxRecDepth 100000 in
set_option maxHeartbeats 600000 in
theorem l02Then_any (f g h p q r : Nat → Nat) (n : Int) (w : World) (h0 : 0 ≤ n) (h1 : n ≤ 10) (hf : ∀ i : Nat, (i : Int) < n → f i < 10) (hg : ∀ i : Nat, (i : Int) < n → g i < 10) (hh : ∀ i : Nat, (i : Int) < n → h i < 10) :
    Calls Try.prog 163 #[.agg (trs f g h), .agg (trs p q r), .int .i64 n] w fun e w' => e = .returned (.agg (trs (thTo f p n.toNat) (thTo g q n.toNat) (thTo h r n.toNat))) ∧ Below w.heap.size w w' := by
  have hz := zero_trp
  have HF := Hid2.mk hf
  have HG := Hid2.mk hg
  have HH := Hid2.mk hh
  clear hf hg hh
  have hB := ((((Below.refl w.heap.size w).alloc (by simp) (.cells (trs f g h) 46)).alloc (by simp) (.cells (trs p q r) 46)).alloc (by simp; omega) (.cells (trs (fun _ => 0) (fun _ => 0) (fun _ => 0)) 46))
  have a1 := ((blk_new w (trs f g h) 46 w.heap.size rfl).alloc (.cells (trs p q r) 46)).alloc (.cells (trs (fun _ => 0) (fun _ => 0) (fun _ => 0)) 46)
  have a2 := ((blk_new (w.alloc (.cells (trs f g h) 46)) (trs p q r) 46 (w.heap.size + 1) (by simp))).alloc (.cells (trs (fun _ => 0) (fun _ => 0) (fun _ => 0)) 46)
  have a3 := blk_new ((w.alloc (.cells (trs f g h) 46)).alloc (.cells (trs p q r) 46)) (trs (fun _ => 0) (fun _ => 0) (fun _ => 0)) 46 (w.heap.size + 1 + 1) (by simp)
  go_enter Try.func163, Try.ntmps163
  go_wp2
  apply wp_region_text_tail 19 (fun w' => Below w.heap.size w w' ∧ blk w' w.heap.size (trs f g h) 46 ∧ blk w' (w.heap.size + 1) (trs p q r) 46 ∧ blk w' (w.heap.size + 1 + 1) (trs (fun _ => 0) (fun _ => 0) (fun _ => 0)) 46) (by kernel_rfl) (by kernel_rfl) (⟨hB.drew, a1.drew, a2.drew, a3.drew⟩); (simp only [List.take_succ_cons, List.take_zero]; repeat (first | exact wpText_nil | (apply wpText_cons; (intro w2 hS; obtain ⟨hB2, b1, b2, b3⟩ := hS; go_wp2_with (first | (refine wpList_load_part rfl 25 _ rfl (w.heap.size) (0) rfl (bys f) _ und_plc rfl inf_plc (cells_of_blk b1 _ _ trs_first) ?_) | (refine wpList_load_part rfl 25 _ rfl (w.heap.size) (10) rfl (bys g) _ und_plc rfl inf_plc (cells_of_blk b1 _ _ trs_second) ?_) | (refine wpList_load_part rfl 25 _ rfl (w.heap.size) (20) rfl (bys h) _ und_plc rfl inf_plc (cells_of_blk b1 _ _ trs_third) ?_) | (refine wpList_load_part rfl 25 _ rfl (w.heap.size + 1) (0) rfl (bys p) _ und_plc rfl inf_plc (cells_of_blk b2 _ _ trs_first) ?_) | (refine wpList_load_part rfl 25 _ rfl (w.heap.size + 1) (10) rfl (bys q) _ und_plc rfl inf_plc (cells_of_blk b2 _ _ trs_second) ?_) | (refine wpList_load_part rfl 25 _ rfl (w.heap.size + 1) (20) rfl (bys r) _ und_plc rfl inf_plc (cells_of_blk b2 _ _ trs_third) ?_) | (go_at_call 137; ((with_reducible refine (l01Then_any _ _ _ _ h0 h1 HF.out).mono ?_); rintro e w1 ⟨rfl, hb⟩)) | (go_at_call 137; ((with_reducible refine (l01Then_any _ _ _ _ h0 h1 HG.out).mono ?_); rintro e w1 ⟨rfl, hb⟩)) | (go_at_call 137; ((with_reducible refine (l01Then_any _ _ _ _ h0 h1 HH.out).mono ?_); rintro e w1 ⟨rfl, hb⟩)) | (refine wpList_build 46 _ rfl rfl [(0, .agg (bys (thTo f p n.toNat))), (1, .agg (bys (thTo g q n.toNat))), (2, .agg (bys (thTo h r n.toNat)))] rfl _ (build_trp _ _ _ _) ?_)); (first | exact ⟨rfl, rfl, hB2, b1, b2, b3⟩ | exact ⟨rfl, rfl, below_self hB2 hb, b1.later hb, b2.later hb, b3.later hb⟩)); rfl)))
  (intro w2 hS; simp only [List.drop_succ_cons, List.drop_zero]; obtain ⟨hB2, b1, b2, b3⟩ := hS)
  go_wp2_with (first | (refine wpList_store_row rfl 46 _ _ rfl _ rfl _ rfl inf_trp _ _ (b3) (by simp [trs_size]) (flat_trs _ _ _) ?_))
  refine bodyPost_ret (v := .agg (trs (thTo f p n.toNat) (thTo g q n.toNat) (thTo h r n.toNat))) (by exact results_part rfl _ _ _ _ _ _ rfl und_trp rfl inf_trp (cells_of_blk0 (blk_put b3 _))) rfl ?_
  exact ⟨rfl, below_put hB2 (by omega) _ _⟩

set_option maxRecDepth 100000 in
set_option maxHeartbeats 600000 in
theorem backTriple_any (f g h : Nat → Nat) (n : Int) (w : World) (h0 : 0 ≤ n) (h1 : n ≤ 10) (hf : ∀ i : Nat, (i : Int) < n → f i < 10) (hg : ∀ i : Nat, (i : Int) < n → g i < 10) (hh : ∀ i : Nat, (i : Int) < n → h i < 10) :
    Calls Try.prog 165 #[.agg (trs f g h), .int .i64 n] w fun e w' => e = .returned (.agg (trs (bkTo f n.toNat) (bkTo g n.toNat) (bkTo h n.toNat))) ∧ Below w.heap.size w w' := by
  have hz := zero_trp
  have HF := Hid2.mk hf
  have HG := Hid2.mk hg
  have HH := Hid2.mk hh
  clear hf hg hh
  have hB := (((Below.refl w.heap.size w).alloc (by simp) (.cells (trs f g h) 46)).alloc (by simp) (.cells (trs (fun _ => 0) (fun _ => 0) (fun _ => 0)) 46))
  have a1 := (blk_new w (trs f g h) 46 w.heap.size rfl).alloc (.cells (trs (fun _ => 0) (fun _ => 0) (fun _ => 0)) 46)
  have a3 := blk_new (w.alloc (.cells (trs f g h) 46)) (trs (fun _ => 0) (fun _ => 0) (fun _ => 0)) 46 (w.heap.size + 1) (by simp)
  go_enter Try.func165, Try.ntmps165
  go_wp2
  apply wp_region_text_tail 13 (fun w' => Below w.heap.size w w' ∧ blk w' w.heap.size (trs f g h) 46 ∧ blk w' (w.heap.size + 1) (trs (fun _ => 0) (fun _ => 0) (fun _ => 0)) 46) (by kernel_rfl) (by kernel_rfl) (⟨hB.drew, a1.drew, a3.drew⟩); (simp only [List.take_succ_cons, List.take_zero]; repeat (first | exact wpText_nil | (apply wpText_cons; (intro w2 hS; obtain ⟨hB2, b1, b3⟩ := hS; go_wp2_with (first | (refine wpList_load_part rfl 25 _ rfl (w.heap.size) (0) rfl (bys f) _ und_plc rfl inf_plc (cells_of_blk b1 _ _ trs_first) ?_) | (refine wpList_load_part rfl 25 _ rfl (w.heap.size) (10) rfl (bys g) _ und_plc rfl inf_plc (cells_of_blk b1 _ _ trs_second) ?_) | (refine wpList_load_part rfl 25 _ rfl (w.heap.size) (20) rfl (bys h) _ und_plc rfl inf_plc (cells_of_blk b1 _ _ trs_third) ?_) | (go_at_call 138; ((with_reducible refine (back_any _ _ _ h0 h1 HF.out).mono ?_); rintro e w1 ⟨rfl, hb⟩)) | (go_at_call 138; ((with_reducible refine (back_any _ _ _ h0 h1 HG.out).mono ?_); rintro e w1 ⟨rfl, hb⟩)) | (go_at_call 138; ((with_reducible refine (back_any _ _ _ h0 h1 HH.out).mono ?_); rintro e w1 ⟨rfl, hb⟩)) | (refine wpList_build 46 _ rfl rfl [(0, .agg (bys (bkTo f n.toNat))), (1, .agg (bys (bkTo g n.toNat))), (2, .agg (bys (bkTo h n.toNat)))] rfl _ (build_trp _ _ _ _) ?_)); (first | exact ⟨rfl, rfl, hB2, b1, b3⟩ | exact ⟨rfl, rfl, below_self hB2 hb, b1.later hb, b3.later hb⟩)); rfl)))
  (intro w2 hS; simp only [List.drop_succ_cons, List.drop_zero]; obtain ⟨hB2, b1, b3⟩ := hS)
  go_wp2_with (first | (refine wpList_store_row rfl 46 _ _ rfl _ rfl _ rfl inf_trp _ _ (b3) (by simp [trs_size]) (flat_trs _ _ _) ?_))
  refine bodyPost_ret (v := .agg (trs (bkTo f n.toNat) (bkTo g n.toNat) (bkTo h n.toNat))) (by exact results_part rfl _ _ _ _ _ _ rfl und_trp rfl inf_trp (cells_of_blk0 (blk_put b3 _))) rfl ?_
  exact ⟨rfl, below_put hB2 (by omega) _ _⟩

set_option maxRecDepth 100000 in
set_option maxHeartbeats 600000 in
theorem l02Back_any (f g h : Nat → Nat) (n : Int) (w : World) (h0 : 0 ≤ n) (h1 : n ≤ 10) (hf : ∀ i : Nat, (i : Int) < n → f i < 10) (hg : ∀ i : Nat, (i : Int) < n → g i < 10) (hh : ∀ i : Nat, (i : Int) < n → h i < 10) :
    Calls Try.prog 166 #[.agg (trs f g h), .int .i64 n] w fun e w' => e = .returned (.agg (trs (bkTo f n.toNat) (bkTo g n.toNat) (bkTo h n.toNat))) ∧ Below w.heap.size w w' := by
  have hz := zero_trp
  have HF := Hid2.mk hf
  have HG := Hid2.mk hg
  have HH := Hid2.mk hh
  clear hf hg hh
  have hB := (((Below.refl w.heap.size w).alloc (by simp) (.cells (trs f g h) 46)).alloc (by simp) (.cells (trs (fun _ => 0) (fun _ => 0) (fun _ => 0)) 46))
  have a1 := (blk_new w (trs f g h) 46 w.heap.size rfl).alloc (.cells (trs (fun _ => 0) (fun _ => 0) (fun _ => 0)) 46)
  have a3 := blk_new (w.alloc (.cells (trs f g h) 46)) (trs (fun _ => 0) (fun _ => 0) (fun _ => 0)) 46 (w.heap.size + 1) (by simp)
  go_enter Try.func166, Try.ntmps166
  go_wp2
  apply wp_region_text_tail 13 (fun w' => Below w.heap.size w w' ∧ blk w' w.heap.size (trs f g h) 46 ∧ blk w' (w.heap.size + 1) (trs (fun _ => 0) (fun _ => 0) (fun _ => 0)) 46) (by kernel_rfl) (by kernel_rfl) (⟨hB.drew, a1.drew, a3.drew⟩); (simp only [List.take_succ_cons, List.take_zero]; repeat (first | exact wpText_nil | (apply wpText_cons; (intro w2 hS; obtain ⟨hB2, b1, b3⟩ := hS; go_wp2_with (first | (refine wpList_load_part rfl 25 _ rfl (w.heap.size) (0) rfl (bys f) _ und_plc rfl inf_plc (cells_of_blk b1 _ _ trs_first) ?_) | (refine wpList_load_part rfl 25 _ rfl (w.heap.size) (10) rfl (bys g) _ und_plc rfl inf_plc (cells_of_blk b1 _ _ trs_second) ?_) | (refine wpList_load_part rfl 25 _ rfl (w.heap.size) (20) rfl (bys h) _ und_plc rfl inf_plc (cells_of_blk b1 _ _ trs_third) ?_) | (go_at_call 139; ((with_reducible refine (l01Back_any _ _ _ h0 h1 HF.out).mono ?_); rintro e w1 ⟨rfl, hb⟩)) | (go_at_call 139; ((with_reducible refine (l01Back_any _ _ _ h0 h1 HG.out).mono ?_); rintro e w1 ⟨rfl, hb⟩)) | (go_at_call 139; ((with_reducible refine (l01Back_any _ _ _ h0 h1 HH.out).mono ?_); rintro e w1 ⟨rfl, hb⟩)) | (refine wpList_build 46 _ rfl rfl [(0, .agg (bys (bkTo f n.toNat))), (1, .agg (bys (bkTo g n.toNat))), (2, .agg (bys (bkTo h n.toNat)))] rfl _ (build_trp _ _ _ _) ?_)); (first | exact ⟨rfl, rfl, hB2, b1, b3⟩ | exact ⟨rfl, rfl, below_self hB2 hb, b1.later hb, b3.later hb⟩)); rfl)))
  (intro w2 hS; simp only [List.drop_succ_cons, List.drop_zero]; obtain ⟨hB2, b1, b3⟩ := hS)
  go_wp2_with (first | (refine wpList_store_row rfl 46 _ _ rfl _ rfl _ rfl inf_trp _ _ (b3) (by simp [trs_size]) (flat_trs _ _ _) ?_))
  refine bodyPost_ret (v := .agg (trs (bkTo f n.toNat) (bkTo g n.toNat) (bkTo h n.toNat))) (by exact results_part rfl _ _ _ _ _ _ rfl und_trp rfl inf_trp (cells_of_blk0 (blk_put b3 _))) rfl ?_
  exact ⟨rfl, below_put hB2 (by omega) _ _⟩
end Go.Proofs.Ythdldlpflieeoaa

/- The program's list of the elements of a square, and its check of loops: contracts. -/
namespace Go.Proofs.Ythdldlpflieeoaa
set_option linter.unusedSimpArgs false
set_option linter.unusedVariables false
open Go.RowKit

theorem und_sl8 : Try.prog.underlying 22 = some (.slice 5) := by kernel_rfl
theorem inf_el8 : (Try.prog.info? 5).map (fun i => (i.zero, i.size, i.bytes)) = some (some (.int .u8 0), 1, 1) := by kernel_rfl

/-- A slice of new memory whose elements are 0, 1, .. . -/
def IsElems (N : Nat) (w : World) (e : Ending) (w' : World) : Prop :=
  ∃ g cap, e = .returned (.slice (some ⟨g, 0, none⟩) N cap) ∧ Below w.heap.size w w' ∧ w.heap.size ≤ g ∧ rds w' g N (fun j => .int .u8 (j : Int))

theorem flat_u8 (x : Int) : flat #[.int .u8 x] := by intro v hv; simp at hv; subst hv; rfl

set_option maxRecDepth 100000 in
set_option maxHeartbeats 1000000 in
theorem elements_any (n : Int) (t : Nat → Nat → Nat) (w : World) (h1 : 1 ≤ n) (h2 : n ≤ 10) :
    Calls Try.prog 185 #[.agg (sqs n t)] w (IsElems n.toNat w) := by
  have so := sqs_order n t
  go_enter Try.func185, Try.ntmps185
  go_wp2
  go_loopw [3, 4, 9] (fun v _ i wr => ∃ k : Nat, (k : Int) ≤ n ∧ i = .int .u8 k ∧ Below w.heap.size w wr ∧ wr.ownsRow w.heap.size 5 1 v k ((List.range k).map fun j : Nat => .int .u8 (j : Int))) (fun _ _ i _ => (n - intOf i).toNat)
  case atStart =>
    refine ⟨0, by omega, rfl, ?_, ?_⟩
    · exact ((Below.refl _ _).alloc (by simp) _).alloc (by simp) _
    · exact own_empty _ _ _ _ _ (by simp) (by simp)
  case round =>
    obtain ⟨k, hk, rfl, hB, hown⟩ := hrel
    by_cases hlt : (k : Int) < n
    · go_wp2_with (refine wpList_app1 rfl _ _ 22 rfl w.heap.size 5 (.int .u8 0) 1 1 und_sl8 inf_el8 rfl (by decide) (by decide) _ _ _ rfl (hown.alloc _) _ rfl _ (blk_new _ _ _ _ rfl) rfl (flat_u8 _) (by omega) (by simp; have := hB.size; omega) ?_; intro v1 w1 hown1 hg hat)
      go_roundw
      case rel =>
        refine ⟨k + 1, by omega, by go_num, (hB.alloc hB.size _).grown hg (by simp; have := hB.size; omega) (fun j hj => (hown.lt j hj).1), ?_⟩
        rw [List.range_succ, List.map_append]
        exact hown1
      case measure => simp [intOf]; omega
    · have hkn : k = n.toNat := by omega
      go_wp2
      go_ret
      subst hkn
      obtain ⟨g, cap, rfl, hg, _, hr⟩ := own_rds hown (by omega)
      refine ⟨g, cap, rfl, hB, hg, hr.lt, fun j hj => ?_⟩
      rw [hr.at_ j (by omega)]
      simp [List.getD_eq_getElem?_getD, hj]

/-- An element is neutral. -/
def unitB (n : Int) (t : Nat → Nat → Nat) (e : Nat) : Bool := decide (∀ x ∈ List.range n.toNat, t e x = x ∧ t x e = x)
theorem unitB_true {n : Int} {t : Nat → Nat → Nat} {e : Nat} : unitB n t e = true ↔ ∀ x : Nat, (x : Int) < n → t e x = x ∧ t x e = x := by
  simp only [unitB, decide_eq_true_eq, List.mem_range]
  exact ⟨fun h x hx => h x (by omega), fun h x hx => h x (by omega)⟩
theorem unitB_false {n : Int} {t : Nat → Nat → Nat} {e : Nat} : unitB n t e = false ↔ ¬ ∀ x : Nat, (x : Int) < n → t e x = x ∧ t x e = x := by
  rw [← unitB_true]; simp

set_option maxRecDepth 100000 in
set_option maxHeartbeats 1000000 in
theorem isUnit_any (n : Int) (t : Nat → Nat → Nat) (u : Nat) (w : World) (h1 : 1 ≤ n) (h2 : n ≤ 10) (hu : u < 10) (hby : Byt2 t) :
    Calls Try.prog 171 #[.agg (sqs n t), .int .u8 u] w fun e w' => e = .returned (.bool (unitB n t u)) ∧ Below w.heap.size w w' := by
  have b1 := blk_new w (sqs n t) 37 w.heap.size rfl
  have hB : Below w.heap.size w (w.alloc (.cells (sqs n t) 37)) := (Below.refl _ _).alloc (by simp) _
  go_enter Try.func171, Try.ntmps171
  go_wp2_with (first | (refine wpList_load_part rfl 37 _ rfl _ _ rfl (sqs n t) _ und_sqs rfl inf_sqs (cells_of_blk0 b1) ?_) | (go_at_call 185; ((with_reducible refine (elements_any _ _ _ h1 h2).mono ?_); rintro e w1 ⟨g, cap, rfl, hb, hg, hr⟩)))
  have b2 := b1.later hb
  have hB2 := below_self hB hb
  clear b1
  go_loopw [4, 6, 10] (fun _ _ i wr => ∃ k : Nat, (k : Int) ≤ n ∧ i = .int .i64 k ∧ Below w.heap.size w wr ∧ blk wr w.heap.size (sqs n t) 37 ∧ rds wr g n.toNat (fun j => .int .u8 (j : Int)) ∧
      ∀ x : Nat, x < k → t u x = x ∧ t x u = x) (fun _ _ i _ => (n - intOf i).toNat)
  case atStart => exact ⟨0, by omega, rfl, hB2, b2, hr, fun _ h => absurd h (by omega)⟩
  case round =>
    obtain ⟨k, hk, rfl, hB3, b3, hr3, hx⟩ := hrel
    have HR := Hid2.mk hx
    clear hx hr b2 hB2
    by_cases hlt : (k : Int) < n
    · have c0 := hr3.at_ k (by omega)
      have c1 := b3.cell _ _ (sqs_get (n := n) (t := t) (x := u) (y := k) (by omega) (by omega))
      have c2 := b3.cell _ _ (sqs_get (n := n) (t := t) (x := k) (y := u) (by omega) (by omega))
      by_cases h1 : t u k = k
      · by_cases h2 : t k u = k
        · go_wp2
          go_roundw
          case rel =>
            refine ⟨k + 1, by omega, by go_num, hB3, b3, hr3, fun x hx => ?_⟩
            by_cases h : x = k
            · subst h; exact ⟨h1, h2⟩
            · exact HR.out x (by omega)
          case measure => simp [intOf]; omega
        · have hF : unitB n t u = false := unitB_false.2 fun h => h2 (h k hlt).2
          go_wp2
          go_ret
          exact ⟨by first | rfl | exact ret_b hF, hB3⟩
      · have hF : unitB n t u = false := unitB_false.2 fun h => h1 (h k hlt).1
        go_wp2
        go_ret
        exact ⟨by first | rfl | exact ret_b hF, hB3⟩
    · have hT : unitB n t u = true := unitB_true.2 fun x hx => HR.out x (by omega)
      go_wp2
      go_ret
      exact ⟨by first | rfl | exact ret_b hT, hB3⟩
end Go.Proofs.Ythdldlpflieeoaa

/- Isotopes: contracts. -/
namespace Go.Proofs.Ythdldlpflieeoaa
set_option linter.unusedSimpArgs false
set_option linter.unusedVariables false
open Go.RowKit

theorem build_sqn (n : Int) (w : World) : (Instr.build 37 #[(0, .int .i64 n)]).run Try.prog w = .ok (.agg (sqs n fun _ _ => 0)) w := by kernel_rfl
theorem isoW_set {N : Nat} {t : Nat → Nat → Nat} {f g h : Nat → Nat} {n : Int} {k l : Nat} (hl : l < N) (hf : f k < 10) (hg : g l < 10) :
    (sqs n (isoW N t f g h (k * N + l))).setIfInBounds (1 + f k * 10 + g l) (.int .u8 (h (t k l) : Int)) = sqs n (isoW N t f g h (k * N + (l + 1))) := by
  have hN : 0 < N := by omega
  rw [sqs_set hf hg]
  refine sqs_ext rfl fun i j hi hj => ?_
  rw [← Nat.add_assoc]
  show _ = if i = f ((k * N + l) / N) ∧ j = g ((k * N + l) % N) then h (t ((k * N + l) / N) ((k * N + l) % N)) else isoW N t f g h (k * N + l) i j
  have e1 : (k * N + l) / N = k := by rw [Nat.mul_comm, Nat.mul_add_div hN, Nat.div_eq_of_lt hl]; rfl
  have e2 : (k * N + l) % N = l := by rw [Nat.mul_comm, Nat.mul_add_mod]; exact Nat.mod_eq_of_lt hl
  rw [e1, e2]

set_option maxRecDepth 100000 in
set_option maxHeartbeats 1000000 in
theorem l02Isotope_any (n : Int) (t : Nat → Nat → Nat) (f g h : Nat → Nat) (w : World) (h0 : 1 ≤ n) (h1 : n ≤ 10) (hf : ∀ i : Nat, (i : Int) < n → f i < 10) (hg : ∀ i : Nat, (i : Int) < n → g i < 10) (ht : ∀ x y : Nat, (x : Int) < n → (y : Int) < n → t x y < 10) :
    Calls Try.prog 159 #[.agg (sqs n t), .agg (trs f g h)] w fun e w' => e = .returned (.agg (sqs n (isoW n.toNat t f g h (n.toNat * n.toNat)))) ∧ Below w.heap.size w w' := by
  have hz := zero_sqs
  have hbd := build_sqn
  have so := sqs_order n t
  have HF := Hid2.mk hf
  have HG := Hid2.mk hg
  have HT := Hid2.mk ht
  clear hf hg ht
  go_enter Try.func159, Try.ntmps159
  go_wp2_with (first | (refine wpList_build 37 _ rfl rfl [(0, .int .i64 n)] rfl _ (build_sqn _ _) ?_) | (refine wpList_store_row rfl 37 _ _ rfl _ rfl _ rfl inf_sqs _ _ (blk_new _ _ _ _ (by simp)) (by simp [sqs_size]) (flat_sqs _ _) ?_))
  clear hz hbd so
  go_loopw [6, 7] (fun i _ wr => ∃ k : Nat, (k : Int) ≤ n ∧ i = .int .i64 k ∧ Below w.heap.size w wr ∧ blk wr w.heap.size (sqs n t) 37 ∧ blk wr (w.heap.size + 1) (trs f g h) 46 ∧ blk wr (w.heap.size + 1 + 1) (sqs 0 fun _ _ => 0) 37 ∧ blk wr (w.heap.size + 1 + 1 + 1) (sqs n (isoW n.toNat t f g h (k * n.toNat))) 37) (fun i _ _ => (n - intOf i).toNat)
  case atStart =>
    refine ⟨0, by omega, rfl, below_put (((((Below.refl _ _).alloc (by simp) _).alloc (by simp) _).alloc (by simp; omega) _).alloc (by simp; omega) _) (by omega) _ _, blk_put_other ?_ (by omega), blk_put_other ?_ (by omega), blk_put_other ?_ (by omega), (blk_put (blk_new _ _ _ _ (by simp)) _).eq (by rw [Nat.zero_mul]; rfl)⟩
    all_goals (repeat (first | (refine blk_new _ _ _ _ ?_; (simp; done)) | apply blk.alloc))
  case round =>
    obtain ⟨k, hk, rfl, hB2, a1, a2, a3, a4⟩ := hrel
    have c0 := a1.cell 0 _ (sqs_order n t)
    by_cases hlt : (k : Int) < n
    · have hfk := HF.out k hlt
      have hd : decide ((k : Int) < n) = true := by simp; omega
      go_wp2
      obtain ⟨wo, rfl⟩ : ∃ wo : World, wo = wr := ⟨_, rfl⟩
      go_loopw [7] (fun j wr => ∃ l : Nat, (l : Int) ≤ n ∧ j = .int .i64 l ∧ Below w.heap.size w wr ∧ blk wr w.heap.size (sqs n t) 37 ∧ blk wr (w.heap.size + 1) (trs f g h) 46 ∧ blk wr (w.heap.size + 1 + 1) (sqs 0 fun _ _ => 0) 37 ∧ blk wr (w.heap.size + 1 + 1 + 1) (sqs n (isoW n.toNat t f g h (k * n.toNat + l))) 37) (fun j _ => (n - intOf j).toNat)
      case atStart => exact ⟨0, by omega, rfl, hB2, a1, a2, a3, a4⟩
      case round =>
        obtain ⟨l, hl, rfl, hB3, b1, b2, b3, b4⟩ := hrel
        clear hB2 a1 a2 a3 a4 c0
        have c0 := b1.cell 0 _ (sqs_order n t)
        by_cases hlt2 : (l : Int) < n
        · have hgl := HG.out l hlt2
          have htk := HT.out k l hlt hlt2
          go_wp2
          apply wp_region_text_tail 20 (fun w' => Below w.heap.size w w' ∧ blk w' w.heap.size (sqs n t) 37 ∧ blk w' (w.heap.size + 1) (trs f g h) 46 ∧ blk w' (w.heap.size + 1 + 1) (sqs 0 fun _ _ => 0) 37 ∧ blk w' (w.heap.size + 1 + 1 + 1) (sqs n (isoW n.toNat t f g h (k * n.toNat + l))) 37) (by kernel_rfl) (by kernel_rfl) (⟨hB3.drew, b1.drew, b2.drew, b3.drew, b4.drew⟩); (simp only [List.take_succ_cons, List.take_zero]; repeat (first | exact wpText_nil | (apply wpText_cons; (intro w2 hS; obtain ⟨hB2, d1, d2, d3, d4⟩ := hS; have q1 := d1.cell _ _ (sqs_get (n := n) (t := t) (x := k) (y := l) (by omega) (by omega)) ; have q2 := d2.cell _ _ (trs_get1 (f := f) (g := g) (h := h) (i := k) (by omega)) ; have q3 := d2.cell _ _ (trs_get2 (f := f) (g := g) (h := h) (i := l) (by omega)) ; have q4 := d2.cell _ _ (trs_get3 (f := f) (g := g) (h := h) (i := t k l) htk); go_wp2; (first | exact ⟨rfl, rfl, hB2, d1, d2, d3, d4⟩)); rfl)))
          (intro w2 hS; simp only [List.drop_succ_cons, List.drop_zero]; obtain ⟨hB4, d1, d2, d3, d4⟩ := hS)
          have f4 := d4.free (1 + f k * 10 + g l)
          have c4 := d4.cell _ _ (sqs_get (n := n) (t := isoW n.toNat t f g h (k * n.toNat + l)) hfk hgl)
          clear hB3 b1 b2 b3 b4 c0
          go_wp2
          go_roundw
          case rel => exact ⟨l + 1, by omega, by go_num, hB4.setCell (by simp; omega) _, d1.other _ _ (by omega), d2.other _ _ (by omega), d3.other _ _ (by omega), (d4.set _ _).eq (isoW_set (by omega) hfk hgl)⟩
          case measure => simp [intOf]; omega
        · have hln : l = n.toNat := by omega
          go_wp2
          go_roundw
          case rel => exact ⟨k + 1, by omega, by go_num, hB3, b1, b2, b3, b4.eq (by rw [hln, Nat.add_mul, Nat.one_mul])⟩
          case measure => simp [intOf]; omega
    · have hkn : k = n.toNat := by omega
      subst hkn
      go_wp2_with (first | (refine wpList_load_part rfl 37 _ rfl (w.heap.size + 1 + 1 + 1) (0) rfl (sqs n (isoW n.toNat t f g h (n.toNat * n.toNat))) _ und_sqs rfl inf_sqs (cells_of_blk0 a4) ?_) | (refine wpList_store_row rfl 37 _ _ rfl _ rfl _ rfl inf_sqs _ _ (a3) (by simp [sqs_size]) (flat_sqs _ _) ?_))
      refine bodyPost_ret (v := .agg (sqs n (isoW n.toNat t f g h (n.toNat * n.toNat)))) (by exact results_part rfl _ _ _ _ _ _ rfl und_sqs rfl inf_sqs (cells_of_blk0 (blk_put a3 _))) rfl ?_
      exact ⟨rfl, below_put hB2 (by omega) _ _⟩

set_option maxRecDepth 100000 in
set_option maxHeartbeats 1000000 in
theorem isotope_any (n : Int) (t : Nat → Nat → Nat) (f g h : Nat → Nat) (w : World) (h0 : 1 ≤ n) (h1 : n ≤ 10) (hf : ∀ i : Nat, (i : Int) < n → f i < 10) (hg : ∀ i : Nat, (i : Int) < n → g i < 10) (ht : ∀ x y : Nat, (x : Int) < n → (y : Int) < n → t x y < 10) :
    Calls Try.prog 157 #[.agg (sqs n t), .agg (trs f g h)] w fun e w' => e = .returned (.agg (sqs n (isoW n.toNat t f g h (n.toNat * n.toNat)))) ∧ Below w.heap.size w w' := by
  have hz := zero_sqs
  have hbd := build_sqn
  have so := sqs_order n t
  have HF := Hid2.mk hf
  have HG := Hid2.mk hg
  have HT := Hid2.mk ht
  clear hf hg ht
  go_enter Try.func157, Try.ntmps157
  have A1 := ((((blk_new w (sqs n t) 37 w.heap.size rfl).alloc (.cells (trs f g h) 46)).alloc (.cells (sqs 0 fun _ _ => 0) 37)).alloc (.cells (sqs 0 fun _ _ => 0) 37))
  have A2 := (((blk_new (w.alloc (.cells (sqs n t) 37)) (trs f g h) 46 (w.heap.size + 1) (by simp)).alloc (.cells (sqs 0 fun _ _ => 0) 37)).alloc (.cells (sqs 0 fun _ _ => 0) 37))
  have A3 := ((blk_new ((w.alloc (.cells (sqs n t) 37)).alloc (.cells (trs f g h) 46)) (sqs 0 fun _ _ => 0) 37 (w.heap.size + 1 + 1) (by simp)).alloc (.cells (sqs 0 fun _ _ => 0) 37))
  have A4 := (blk_new (((w.alloc (.cells (sqs n t) 37)).alloc (.cells (trs f g h) 46)).alloc (.cells (sqs 0 fun _ _ => 0) 37)) (sqs 0 fun _ _ => 0) 37 (w.heap.size + 1 + 1 + 1) (by simp))
  have A0 := (((((Below.refl w.heap.size w).alloc (by simp) (.cells (sqs n t) 37)).alloc (by simp) (.cells (trs f g h) 46)).alloc (by simp; omega) (.cells (sqs 0 fun _ _ => 0) 37)).alloc (by simp; omega) (.cells (sqs 0 fun _ _ => 0) 37))
  have P1 := blk_put_other A1 (c := w.heap.size + 1 + 1 + 1) (cs' := sqs n fun _ _ => 0) (t' := 37) (by omega)
  have P2 := blk_put_other A2 (c := w.heap.size + 1 + 1 + 1) (cs' := sqs n fun _ _ => 0) (t' := 37) (by omega)
  have P3 := blk_put_other A3 (c := w.heap.size + 1 + 1 + 1) (cs' := sqs n fun _ _ => 0) (t' := 37) (by omega)
  have P4 := blk_put A4 (cs' := sqs n fun _ _ => 0) 37
  have P0 := below_put A0 (b := w.heap.size + 1 + 1 + 1) (by omega) (sqs n fun _ _ => 0) 37
  clear A0 A1 A2 A3
  go_wp2_with (first | (refine wpList_build 37 _ rfl rfl [(0, .int .i64 n)] rfl _ (build_sqn _ _) ?_) | (refine wpList_store_row rfl 37 _ _ rfl _ rfl _ rfl inf_sqs _ _ (A4) (by simp [sqs_size]) (flat_sqs _ _) ?_) | (refine wpList_load_part rfl 37 _ rfl (w.heap.size) (0) rfl (sqs n t) _ und_sqs rfl inf_sqs (cells_of_blk0 P1) ?_) | (go_at_call 185; ((with_reducible refine (elements_any _ _ _ h0 h1).mono ?_); rintro e w1 ⟨g1, cap1, rfl, hb, hg1, hr1⟩)))
  have Q0 := below_self P0 hb
  have Q1 := P1.later hb
  have Q2 := P2.later hb
  have Q3 := P3.later hb
  have Q4 := P4.later hb
  have hgg := P4.lt
  clear hz hbd so P0 P1 P2 P3 P4 A4
  go_loopw [7, 9, 16, 21, 22, 23] (fun _ _ i _ _ _ wr => ∃ k : Nat, (k : Int) ≤ n ∧ i = .int .i64 k ∧ Below w.heap.size w wr ∧ blk wr w.heap.size (sqs n t) 37 ∧ blk wr (w.heap.size + 1) (trs f g h) 46 ∧ blk wr (w.heap.size + 1 + 1) (sqs 0 fun _ _ => 0) 37 ∧ blk wr (w.heap.size + 1 + 1 + 1) (sqs n (isoW n.toNat t f g h (k * n.toNat))) 37 ∧ rds wr g1 n.toNat (fun j => .int .u8 (j : Int))) (fun _ _ i _ _ _ _ => (n - intOf i).toNat)
  case atStart => exact ⟨0, by omega, rfl, Q0, Q1, Q2, Q3, Q4.eq (by rw [Nat.zero_mul]; rfl), hr1⟩
  case round =>
    obtain ⟨k, hk, rfl, hB2, a1, a2, a3, a4, r1⟩ := hrel
    by_cases hlt : (k : Int) < n
    · have hfk := HF.out k hlt
      have c1 := r1.at_ k (by omega)
      clear Q0 Q1 Q2 Q3 Q4 hr1
      go_wp2_with (first | (refine wpList_load_part rfl 37 _ rfl (w.heap.size) (0) rfl (sqs n t) _ und_sqs rfl inf_sqs (cells_of_blk0 a1) ?_) | (go_at_call 185; ((with_reducible refine (elements_any _ _ _ h0 h1).mono ?_); rintro e w2 ⟨g2, cap2, rfl, hb2, hg2, hr2⟩)))
      have P0 := below_self hB2 hb2
      have P1 := a1.later hb2
      have P2 := a2.later hb2
      have P3 := a3.later hb2
      have P4 := a4.later hb2
      have P5 := r1.later hb2
      have hl4 := a4.lt
      have hl5 := r1.lt
      clear hB2 a1 a2 a3 a4 r1 c1
      go_loopw [9, 23] (fun _ j wr => ∃ l : Nat, (l : Int) ≤ n ∧ j = .int .i64 l ∧ Below w.heap.size w wr ∧ blk wr w.heap.size (sqs n t) 37 ∧ blk wr (w.heap.size + 1) (trs f g h) 46 ∧ blk wr (w.heap.size + 1 + 1) (sqs 0 fun _ _ => 0) 37 ∧ blk wr (w.heap.size + 1 + 1 + 1) (sqs n (isoW n.toNat t f g h (k * n.toNat + l))) 37 ∧ rds wr g1 n.toNat (fun j => .int .u8 (j : Int)) ∧ rds wr g2 n.toNat (fun j => .int .u8 (j : Int))) (fun _ j _ => (n - intOf j).toNat)
      case atStart => exact ⟨0, by omega, rfl, P0, P1, P2, P3, P4, P5, hr2⟩
      case round =>
        obtain ⟨l, hl, rfl, hB3, b1, b2, b3, b4, b5, b6⟩ := hrel
        clear P0 P1 P2 P3 P4 P5 hr2
        by_cases hlt2 : (l : Int) < n
        · have hgl := HG.out l hlt2
          have htk := HT.out k l hlt hlt2
          have c6 := b6.at_ l (by omega)
          go_wp2
          clear c6
          apply wp_region_text_tail 20 (fun w' => Below w.heap.size w w' ∧ blk w' w.heap.size (sqs n t) 37 ∧ blk w' (w.heap.size + 1) (trs f g h) 46 ∧ blk w' (w.heap.size + 1 + 1) (sqs 0 fun _ _ => 0) 37 ∧ blk w' (w.heap.size + 1 + 1 + 1) (sqs n (isoW n.toNat t f g h (k * n.toNat + l))) 37 ∧ rds w' g1 n.toNat (fun j => .int .u8 (j : Int)) ∧ rds w' g2 n.toNat (fun j => .int .u8 (j : Int))) (by kernel_rfl) (by kernel_rfl) (⟨hB3.drew, b1.drew, b2.drew, b3.drew, b4.drew, b5.drew, b6.drew⟩); (simp only [List.take_succ_cons, List.take_zero]; repeat (first | exact wpText_nil | (apply wpText_cons; (intro w2 hS; obtain ⟨hB2, d1, d2, d3, d4, d5, d6⟩ := hS; have q1 := d1.cell _ _ (sqs_get (n := n) (t := t) (x := k) (y := l) (by omega) (by omega)) ; have q2 := d2.cell _ _ (trs_get1 (f := f) (g := g) (h := h) (i := k) (by omega)) ; have q3 := d2.cell _ _ (trs_get2 (f := f) (g := g) (h := h) (i := l) (by omega)) ; have q4 := d2.cell _ _ (trs_get3 (f := f) (g := g) (h := h) (i := t k l) htk); go_wp2; (first | exact ⟨rfl, rfl, hB2, d1, d2, d3, d4, d5, d6⟩)); rfl)))
          (intro w2 hS; simp only [List.drop_succ_cons, List.drop_zero]; obtain ⟨hB4, d1, d2, d3, d4, d5, d6⟩ := hS)
          have f4 := d4.free (1 + f k * 10 + g l)
          have c4 := d4.cell _ _ (sqs_get (n := n) (t := isoW n.toNat t f g h (k * n.toNat + l)) hfk hgl)
          clear hB3 b1 b2 b3 b4 b5 b6
          go_wp2
          go_roundw
          case rel => exact ⟨l + 1, by omega, by go_num, hB4.setCell (by simp; omega) _, d1.other _ _ (by omega), d2.other _ _ (by omega), d3.other _ _ (by omega), (d4.set _ _).eq (isoW_set (by omega) hfk hgl), d5.other _ _ (by omega), d6.other _ _ (by omega)⟩
          case measure => simp [intOf]; omega
        · have hln : l = n.toNat := by omega
          go_wp2
          go_roundw
          case rel => exact ⟨k + 1, by omega, by go_num, hB3, b1, b2, b3, b4.eq (by rw [hln, Nat.add_mul, Nat.one_mul]), b5⟩
          case measure => simp [intOf]; omega
    · have hkn : k = n.toNat := by omega
      subst hkn
      go_wp2_with (first | (refine wpList_load_part rfl 37 _ rfl (w.heap.size + 1 + 1 + 1) (0) rfl (sqs n (isoW n.toNat t f g h (n.toNat * n.toNat))) _ und_sqs rfl inf_sqs (cells_of_blk0 a4) ?_) | (refine wpList_store_row rfl 37 _ _ rfl _ rfl _ rfl inf_sqs _ _ (a3) (by simp [sqs_size]) (flat_sqs _ _) ?_))
      refine bodyPost_ret (v := .agg (sqs n (isoW n.toNat t f g h (n.toNat * n.toNat)))) (by exact results_part rfl _ _ _ _ _ _ rfl und_sqs rfl inf_sqs (cells_of_blk0 (blk_put a3 _))) rfl ?_
      exact ⟨rfl, below_put hB2 (by omega) _ _⟩
end Go.Proofs.Ythdldlpflieeoaa

/- Squares that the reference makes in two loops: contracts. -/
namespace Go.Proofs.Ythdldlpflieeoaa
set_option linter.unusedSimpArgs false
set_option linter.unusedVariables false
open Go Go.RowKit

/-- A table as far as a place. -/
def upT (V : Nat → Nat → Nat) (n x y : Nat) : Nat → Nat → Nat := fun i j => if (i < n ∧ j < n) ∧ (i < x ∨ (i = x ∧ j < y)) then V i j else 0
def cutT (V : Nat → Nat → Nat) (n : Nat) : Nat → Nat → Nat := fun i j => if i < n ∧ j < n then V i j else 0
theorem upT_0 (R : Int) (V : Nat → Nat → Nat) (n : Nat) : sqs R (upT V n 0 0) = sqs R fun _ _ => 0 := sqs_ext rfl fun i j _ _ => by unfold upT; rw [if_neg (by omega)]
theorem upT_row (R : Int) (V : Nat → Nat → Nat) (n x : Nat) : sqs R (upT V n x n) = sqs R (upT V n (x + 1) 0) := sqs_ext rfl fun i j _ _ => by
  unfold upT
  by_cases h : (i < n ∧ j < n) ∧ (i < x ∨ (i = x ∧ j < n))
  · rw [if_pos h, if_pos (by omega)]
  · rw [if_neg h, if_neg (by omega)]
theorem upT_all (R : Int) (V : Nat → Nat → Nat) (n : Nat) : sqs R (upT V n n 0) = sqs R (cutT V n) := sqs_ext rfl fun i j _ _ => by
  unfold upT cutT
  by_cases h : i < n ∧ j < n
  · rw [if_pos h, if_pos (by omega)]
  · rw [if_neg h, if_neg (by omega)]
theorem upT_set {R : Int} {V : Nat → Nat → Nat} {n x y v : Nat} (hx : x < n) (hy : y < n) (h10 : n ≤ 10) (hv : v = V x y) : (sqs R (upT V n x y)).setIfInBounds (1 + x * 10 + y) (.int .u8 (v : Int)) = sqs R (upT V n x (y + 1)) := by
  rw [sqs_set (by omega) (by omega), hv]
  refine sqs_ext rfl fun i j _ _ => ?_
  unfold upT
  by_cases h : i = x ∧ j = y
  · rw [if_pos h, if_pos (by omega), h.1, h.2]
  · rw [if_neg h]
    by_cases h1 : (i < n ∧ j < n) ∧ (i < x ∨ (i = x ∧ j < y))
    · rw [if_pos h1, if_pos (by omega)]
    · rw [if_neg h1, if_neg (by omega)]
theorem build_sqX (n : Int) (w : World) : (Instr.build 37 #[(0, .int .i64 n)]).run Try.prog w = .ok (.agg (sqs n fun _ _ => 0)) w := by kernel_rfl

set_option maxRecDepth 100000 in
set_option maxHeartbeats 2000000 in
theorem l01Cyclic_any (N : Nat) (h0 : 1 ≤ N) (h1 : N ≤ 10) (w : World) :
    Calls Try.prog 144 #[.int .i64 (N : Int)] w fun e w' => e = .returned (.agg (sqs (N : Int) (cutT (fun x y => (x + y) % N) N))) ∧ Below w.heap.size w w' := by
  have M := Mm.start no w
  go_enter Try.func144, Try.ntmps144
  go_wp2_with (first | ((fail_if_success have := h_br); ((with_reducible apply wpM_alloc' M 37 (sqs 0 fun _ _ => 0)); rfl; exact ⟨rfl, _, zero_sqs _, rfl⟩; clear M; (try clear C); intro br w9 h_br M; have C := M.ruleAll; simp only [Go.Proofs.Ythdldlpflieeoaa.ruleAll] at C)) | ((with_reducible apply wpM_alloc' M 37 (sqs 0 fun _ _ => 0)); rfl; exact ⟨rfl, _, zero_sqs _, rfl⟩; clear M; (try clear C); intro bo w9 h_bo M; have C := M.ruleAll; simp only [Go.Proofs.Ythdldlpflieeoaa.ruleAll] at C) | (refine wpList_build 37 _ rfl rfl [(0, .int .i64 (N : Int))] rfl _ (build_sqX _ _) ?_) | ((with_reducible apply wpM_sta' M 0 37 (sqs (N : Int) fun _ _ => 0)); rfl; rfl; rfl; rfl; (first | exact .inl (by assumption) | exact .inr rfl | exact .inr (by assumption)); exact ⟨rfl, inf_sqs.trans (congrArg some (sqs_size ..).symm), flat_sqs _ _⟩; (simp only [entCells, List.getElem?_cons_zero, List.getElem?_cons_succ, sqs_size, sqs_size]); clear M; (try clear C); intro w9 M; simp only [List.set_cons_zero, List.set_cons_succ, entBlk, entT, List.getElem?_cons_zero, List.getElem?_cons_succ] at M; have C := M.ruleAll; simp only [Go.Proofs.Ythdldlpflieeoaa.ruleAll] at C))
  have M9 : Mm no w _ [.box bo (sqs (N : Int) (upT (fun x y => (x + y) % N) N 0 0)) 37, .box br (sqs 0 fun _ _ => 0) 37] := M.eq (by rw [upT_0])
  clear M; (try clear C)
  have M := M9
  clear M9
  have C := M.ruleAll; simp only [Go.Proofs.Ythdldlpflieeoaa.ruleAll] at C
  go_loopw [4] (fun i wr => ∃ x : Nat, x ≤ N ∧ i = .int .i64 (x : Int) ∧ Mm no w wr [.box bo (sqs (N : Int) (upT (fun x y => (x + y) % N) N x 0)) 37, .box br (sqs 0 fun _ _ => 0) 37]) (fun i _ => N - (intOf i).toNat)
  case atStart => exact ⟨0, by omega, rfl, M⟩
  case round =>
    obtain ⟨x, hx, rfl, M9⟩ := hrel
    clear M; (try clear C)
    have M := M9
    clear M9
    have C := M.ruleAll; simp only [Go.Proofs.Ythdldlpflieeoaa.ruleAll] at C
    by_cases hlt : x < N
    · have hlt' : (x : Int) < (N : Int) := by omega
      have hx10 : (x : Int) < 10 := by omega
      have dlt : decide ((x : Int) < (N : Int)) = true := decide_eq_true hlt'
      go_wp2
      obtain ⟨wo, rfl⟩ : ∃ wo : World, wo = wr := ⟨_, rfl⟩
      go_loopw [5] (fun j wr => ∃ y : Nat, y ≤ N ∧ j = .int .i64 (y : Int) ∧ Mm no w wr [.box bo (sqs (N : Int) (upT (fun x y => (x + y) % N) N x y)) 37, .box br (sqs 0 fun _ _ => 0) 37]) (fun j _ => N - (intOf j).toNat)
      case atStart => exact ⟨0, by omega, rfl, M⟩
      case round =>
        obtain ⟨y, hy, rfl, M9⟩ := hrel
        clear M; (try clear C)
        have M := M9
        clear M9
        by_cases hly : y < N
        · have hly' : (y : Int) < (N : Int) := by omega
          have hy10 : (y : Int) < 10 := by omega
          have hv : (((x : Int) + (y : Int)) % (N : Int)) = (((x + y) % N : Nat) : Int) := by rw [Int.natCast_emod, Int.natCast_add]
          have hv1 : (x + y) % N < N := Nat.mod_lt _ (by omega)
          have HST := Hid2.mk (upT_set (R := (N : Int)) (V := fun x y => (x + y) % N) hlt hly h1 (v := (x + y) % N) rfl)
          generalize (x + y) % N = v at hv hv1 HST
          have hv2 : (v : Int) < 256 := by omega
          have C := M.ruleAll; simp only [Go.Proofs.Ythdldlpflieeoaa.ruleAll] at C
          go_wp2
          apply wp_region_mm M 11 (by kernel_rfl) (by kernel_rfl); (simp only [List.take_succ_cons, List.take_zero]; repeat (first | exact wpText_nil | (apply wpText_cons; (intro w2 M; have C := M.ruleAll; simp only [Go.Proofs.Ythdldlpflieeoaa.ruleAll] at C; go_wp2; exact ⟨rfl, rfl, M⟩); rfl))); (clear M; (try clear C); intro w2 M; simp only [List.drop_succ_cons, List.drop_zero]; have C := M.ruleAll; simp only [Go.Proofs.Ythdldlpflieeoaa.ruleAll] at C)
          go_wp2_with (first | ((with_reducible apply wpM_st' M 0 5 (1 + x * 10 + y) (sqs (N : Int) (upT (fun x y => (x + y) % N) N x (y + 1)))); rfl; rfl; rfl; (first | exact .inl (by assumption) | exact .inr rfl | exact .inr (by assumption)); exact ⟨rfl, rfl, by kernel_rfl⟩; (exact Nat.lt_of_lt_of_eq (by omega) (sqs_size _ _).symm); exact HST.out; clear M; (try clear C); intro w9 M; simp only [List.set_cons_zero, List.set_cons_succ, entBlk, entT, List.getElem?_cons_zero, List.getElem?_cons_succ] at M; have C := M.ruleAll; simp only [Go.Proofs.Ythdldlpflieeoaa.ruleAll] at C))
          go_roundw
          case rel => exact ⟨y + 1, by omega, by go_num, M⟩
          case measure => simp [intOf]; omega
        · rw [show y = N by omega] at M
          have C := M.ruleAll; simp only [Go.Proofs.Ythdldlpflieeoaa.ruleAll] at C
          go_wp2
          go_roundw
          case rel => exact ⟨x + 1, by omega, by go_num, M.eq (by rw [upT_row])⟩
          case measure => simp [intOf]; omega
    · rw [show x = N by omega] at M
      (try clear C)
      have C := M.ruleAll; simp only [Go.Proofs.Ythdldlpflieeoaa.ruleAll] at C
      go_wp2_with (first | ((with_reducible apply wpM_lda' M 0 37 0 (sqs (N : Int) (upT (fun x y => (x + y) % N) N N 0))); rfl; rfl; rfl; exact ⟨rfl, inf_sqs.trans (congrArg some (sqs_size ..).symm), _, und_sqs, rfl⟩; exact whole_of rfl) | ((with_reducible apply wpM_sta' M 1 37 (sqs (N : Int) (upT (fun x y => (x + y) % N) N N 0))); rfl; rfl; rfl; rfl; (first | exact .inl (by assumption) | exact .inr rfl | exact .inr (by assumption)); exact ⟨rfl, inf_sqs.trans (congrArg some (sqs_size ..).symm), flat_sqs _ _⟩; (simp only [entCells, List.getElem?_cons_zero, List.getElem?_cons_succ, sqs_size, sqs_size]); clear M; (try clear C); intro w9 M; simp only [List.set_cons_zero, List.set_cons_succ, entBlk, entT, List.getElem?_cons_zero, List.getElem?_cons_succ] at M; have C := M.ruleAll; simp only [Go.Proofs.Ythdldlpflieeoaa.ruleAll] at C))
      refine bodyPost_ret (v := .agg (sqs (N : Int) (upT (fun x y => (x + y) % N) N N 0))) (by exact results_part rfl _ _ _ _ _ _ rfl und_sqs rfl inf_sqs (cells_of_blk0 (M.box 1 rfl))) rfl ?_
      exact ⟨by rw [upT_all], M.below⟩
theorem bits_xor_i64_nat (a b : Nat) (ha : a < 9223372036854775808) (hb : b < 9223372036854775808) : bits .xor .i64 (a : Int) (b : Int) = ((a ^^^ b : Nat) : Int) := by
  have hx : a ^^^ b < 2 ^ 63 := Nat.xor_lt_two_pow (by omega) (by omega)
  show IntKind.i64.wrap ((BitVec.ofInt 64 (a : Int) ^^^ BitVec.ofInt 64 (b : Int)).toNat : Int) = _
  rw [BitVec.toNat_xor, ofInt_i64_nat a ha, ofInt_i64_nat b hb]
  exact wrap_i64_nat _ (by omega)

set_option maxRecDepth 100000 in
set_option maxHeartbeats 2000000 in
theorem l01Elementary_any (k N : Nat) (hk : k < 4) (hN : N = 2 ^ k) (w : World) :
    Calls Try.prog 155 #[.int .i64 (k : Int)] w fun e w' => e = .returned (.agg (sqs (N : Int) (cutT (fun x y => x ^^^ y) N))) ∧ Below w.heap.size w w' := by
  have M := Mm.start no w
  have hN0 : 1 ≤ N := by rw [hN]; exact Nat.one_le_two_pow
  have hN8 : N ≤ 8 := by
    have : k = 0 ∨ k = 1 ∨ k = 2 ∨ k = 3 := by omega
    rcases this with rfl | rfl | rfl | rfl <;> omega
  have hsh : wrap64 (2 ^ k) = (N : Int) := by
    rw [show ((2 : Int) ^ k) = ((2 ^ k : Nat) : Int) by norm_cast, ← hN]
    unfold wrap64; omega
  have HX := Hid2.mk (fun x y (hx : x < N) (hy : y < N) => (show x ^^^ y < N from by rw [hN] at hx hy ⊢; exact xor_lt8 k hk x hx y hy))
  clear hN
  go_enter Try.func155, Try.ntmps155
  go_wp2_with (first | ((fail_if_success have := h_br); ((with_reducible apply wpM_alloc' M 37 (sqs 0 fun _ _ => 0)); rfl; exact ⟨rfl, _, zero_sqs _, rfl⟩; clear M; (try clear C); intro br w9 h_br M; have C := M.ruleAll; simp only [Go.Proofs.Ythdldlpflieeoaa.ruleAll] at C)) | ((with_reducible apply wpM_alloc' M 37 (sqs 0 fun _ _ => 0)); rfl; exact ⟨rfl, _, zero_sqs _, rfl⟩; clear M; (try clear C); intro bo w9 h_bo M; have C := M.ruleAll; simp only [Go.Proofs.Ythdldlpflieeoaa.ruleAll] at C) | (refine wpList_build 37 _ rfl rfl [(0, .int .i64 (N : Int))] rfl _ (build_sqX _ _) ?_) | ((with_reducible apply wpM_sta' M 0 37 (sqs (N : Int) fun _ _ => 0)); rfl; rfl; rfl; rfl; (first | exact .inl (by assumption) | exact .inr rfl | exact .inr (by assumption)); exact ⟨rfl, inf_sqs.trans (congrArg some (sqs_size ..).symm), flat_sqs _ _⟩; (simp only [entCells, List.getElem?_cons_zero, List.getElem?_cons_succ, sqs_size, sqs_size]); clear M; (try clear C); intro w9 M; simp only [List.set_cons_zero, List.set_cons_succ, entBlk, entT, List.getElem?_cons_zero, List.getElem?_cons_succ] at M; have C := M.ruleAll; simp only [Go.Proofs.Ythdldlpflieeoaa.ruleAll] at C))
  have M9 : Mm no w _ [.box bo (sqs (N : Int) (upT (fun x y => x ^^^ y) N 0 0)) 37, .box br (sqs 0 fun _ _ => 0) 37] := M.eq (by rw [upT_0])
  clear M; (try clear C)
  have M := M9
  clear M9
  have C := M.ruleAll; simp only [Go.Proofs.Ythdldlpflieeoaa.ruleAll] at C
  go_loopw [5] (fun i wr => ∃ x : Nat, x ≤ N ∧ i = .int .i64 (x : Int) ∧ Mm no w wr [.box bo (sqs (N : Int) (upT (fun x y => x ^^^ y) N x 0)) 37, .box br (sqs 0 fun _ _ => 0) 37]) (fun i _ => N - (intOf i).toNat)
  case atStart => exact ⟨0, by omega, rfl, M⟩
  case round =>
    obtain ⟨x, hx, rfl, M9⟩ := hrel
    clear M; (try clear C)
    have M := M9
    clear M9
    have C := M.ruleAll; simp only [Go.Proofs.Ythdldlpflieeoaa.ruleAll] at C
    by_cases hlt : x < N
    · have hlt' : (x : Int) < (N : Int) := by omega
      have hx10 : (x : Int) < 10 := by omega
      have dlt : decide ((x : Int) < (N : Int)) = true := decide_eq_true hlt'
      go_wp2
      obtain ⟨wo, rfl⟩ : ∃ wo : World, wo = wr := ⟨_, rfl⟩
      go_loopw [6] (fun j wr => ∃ y : Nat, y ≤ N ∧ j = .int .i64 (y : Int) ∧ Mm no w wr [.box bo (sqs (N : Int) (upT (fun x y => x ^^^ y) N x y)) 37, .box br (sqs 0 fun _ _ => 0) 37]) (fun j _ => N - (intOf j).toNat)
      case atStart => exact ⟨0, by omega, rfl, M⟩
      case round =>
        obtain ⟨y, hy, rfl, M9⟩ := hrel
        clear M; (try clear C)
        have M := M9
        clear M9
        by_cases hly : y < N
        · have hly' : (y : Int) < (N : Int) := by omega
          have hy10 : (y : Int) < 10 := by omega
          have hv1 : x ^^^ y < N := HX.out x y hlt hly
          have HST := Hid2.mk (upT_set (R := (N : Int)) (V := fun x y => x ^^^ y) hlt hly (by omega) (v := x ^^^ y) rfl)
          have hxr : bits .xor .i64 (x : Int) (y : Int) = ((x ^^^ y : Nat) : Int) := bits_xor_i64_nat _ _ (by omega) (by omega)
          generalize x ^^^ y = v at hv1 HST hxr
          have hv2 : (v : Int) < 256 := by omega
          have C := M.ruleAll; simp only [Go.Proofs.Ythdldlpflieeoaa.ruleAll] at C
          go_wp2_with (first | ((with_reducible apply wpM_st' M 0 5 (1 + x * 10 + y) (sqs (N : Int) (upT (fun x y => x ^^^ y) N x (y + 1)))); rfl; rfl; rfl; (first | exact .inl (by assumption) | exact .inr rfl | exact .inr (by assumption)); exact ⟨rfl, rfl, by kernel_rfl⟩; (exact Nat.lt_of_lt_of_eq (by omega) (sqs_size _ _).symm); exact HST.out; clear M; (try clear C); intro w9 M; simp only [List.set_cons_zero, List.set_cons_succ, entBlk, entT, List.getElem?_cons_zero, List.getElem?_cons_succ] at M; have C := M.ruleAll; simp only [Go.Proofs.Ythdldlpflieeoaa.ruleAll] at C))
          go_roundw
          case rel => exact ⟨y + 1, by omega, by go_num, M⟩
          case measure => simp [intOf]; omega
        · rw [show y = N by omega] at M
          have C := M.ruleAll; simp only [Go.Proofs.Ythdldlpflieeoaa.ruleAll] at C
          go_wp2
          go_roundw
          case rel => exact ⟨x + 1, by omega, by go_num, M.eq (by rw [upT_row])⟩
          case measure => simp [intOf]; omega
    · rw [show x = N by omega] at M
      (try clear C)
      have C := M.ruleAll; simp only [Go.Proofs.Ythdldlpflieeoaa.ruleAll] at C
      go_wp2_with (first | ((with_reducible apply wpM_lda' M 0 37 0 (sqs (N : Int) (upT (fun x y => x ^^^ y) N N 0))); rfl; rfl; rfl; exact ⟨rfl, inf_sqs.trans (congrArg some (sqs_size ..).symm), _, und_sqs, rfl⟩; exact whole_of rfl) | ((with_reducible apply wpM_sta' M 1 37 (sqs (N : Int) (upT (fun x y => x ^^^ y) N N 0))); rfl; rfl; rfl; rfl; (first | exact .inl (by assumption) | exact .inr rfl | exact .inr (by assumption)); exact ⟨rfl, inf_sqs.trans (congrArg some (sqs_size ..).symm), flat_sqs _ _⟩; (simp only [entCells, List.getElem?_cons_zero, List.getElem?_cons_succ, sqs_size, sqs_size]); clear M; (try clear C); intro w9 M; simp only [List.set_cons_zero, List.set_cons_succ, entBlk, entT, List.getElem?_cons_zero, List.getElem?_cons_succ] at M; have C := M.ruleAll; simp only [Go.Proofs.Ythdldlpflieeoaa.ruleAll] at C))
      refine bodyPost_ret (v := .agg (sqs (N : Int) (upT (fun x y => x ^^^ y) N N 0))) (by exact results_part rfl _ _ _ _ _ _ rfl und_sqs rfl inf_sqs (cells_of_blk0 (M.box 1 rfl))) rfl ?_
      exact ⟨by rw [upT_all], M.below⟩
theorem cutT_diT (n m : Nat) (t u : Nat → Nat → Nat) : cutT (diT n m t u) (n * m) = diT n m t u := by
  funext i j
  unfold cutT diT
  split <;> rfl
theorem moved_0 (R : Int) (N : Nat) (t : Nat → Nat → Nat) (f g h : Nat → Nat) : sqs R (isoW N t f g h (0 * N + 0)) = sqs R fun _ _ => 0 := by rw [Nat.zero_mul]; rfl
theorem moved_row (R : Int) (N : Nat) (t : Nat → Nat → Nat) (f g h : Nat → Nat) (x : Nat) : sqs R (isoW N t f g h (x * N + N)) = sqs R (isoW N t f g h ((x + 1) * N + 0)) := by rw [Nat.add_mul, Nat.one_mul, Nat.add_zero]

set_option maxRecDepth 100000 in
set_option maxHeartbeats 2000000 in
theorem l01Direct_any (n m : Nat) (t u : Nat → Nat → Nat) (h0 : 1 ≤ n) (h1 : 1 ≤ m) (h10 : n * m ≤ 10) (ht : ∀ x y, x < n → y < n → t x y < n) (hu : ∀ x y, x < m → y < m → u x y < m) (w : World) :
    Calls Try.prog 148 #[.agg (sqs (n : Int) t), .agg (sqs (m : Int) u)] w fun e w' => e = .returned (.agg (sqs ((n * m : Nat) : Int) (cutT (diT n m t u) (n * m)))) ∧ Below w.heap.size w w' := by
  have M := Mm.start no w
  have hN1 : 1 ≤ n * m := Nat.mul_pos h0 h1
  have hm10 : m ≤ 10 := Nat.le_trans (Nat.le_mul_of_pos_left m h0) h10
  have hn10 : n ≤ 10 := Nat.le_trans (Nat.le_mul_of_pos_right n h1) h10
  have hnm : wrap64 ((n : Int) * (m : Int)) = ((n * m : Nat) : Int) := by
    rw [← Int.natCast_mul]; unfold wrap64; omega
  have HV := Hid2.mk (fun x y (hx : x < n * m) (hy : y < n * m) => (show x / m < n ∧ x % m < m ∧ y / m < n ∧ y % m < m ∧ m * t (x / m) (y / m) + u (x % m) (y % m) = diT n m t u x y ∧ m * t (x / m) (y / m) + u (x % m) (y % m) < n * m from by
    have a1 : x / m < n := Nat.div_lt_of_lt_mul (by rw [Nat.mul_comm]; exact hx)
    have a2 : y / m < n := Nat.div_lt_of_lt_mul (by rw [Nat.mul_comm]; exact hy)
    have b1 := Nat.mod_lt x h1
    have b2 := Nat.mod_lt y h1
    exact ⟨a1, b1, a2, b2, by unfold diT; rw [if_pos ⟨hx, hy⟩], mul_add_lt (ht _ _ a1 a2) (hu _ _ b1 b2)⟩))
  have so1 := sqs_order (n : Int) t
  have so2 := sqs_order (m : Int) u
  obtain ⟨N, hN⟩ : ∃ N, N = n * m := ⟨_, rfl⟩
  rw [← hN] at hN1 hnm HV h10 ⊢
  clear hN ht hu
  have so3 := fun V => sqs_order (N : Int) V
  go_enter Try.func148, Try.ntmps148
  go_wp2_with (first | ((with_reducible apply wpM_box' M 37 (sqs (n : Int) t)); rfl; exact ⟨rfl, rfl⟩; clear M; (try clear C); intro b2 w9 h_b2 M; have C := M.ruleAll; simp only [Go.Proofs.Ythdldlpflieeoaa.ruleAll] at C) | ((with_reducible apply wpM_box' M 37 (sqs (m : Int) u)); rfl; exact ⟨rfl, rfl⟩; clear M; (try clear C); intro b3 w9 h_b3 M; have C := M.ruleAll; simp only [Go.Proofs.Ythdldlpflieeoaa.ruleAll] at C) | ((fail_if_success have := h_br); ((with_reducible apply wpM_alloc' M 37 (sqs 0 fun _ _ => 0)); rfl; exact ⟨rfl, _, zero_sqs _, rfl⟩; clear M; (try clear C); intro br w9 h_br M; have C := M.ruleAll; simp only [Go.Proofs.Ythdldlpflieeoaa.ruleAll] at C)) | ((with_reducible apply wpM_alloc' M 37 (sqs 0 fun _ _ => 0)); rfl; exact ⟨rfl, _, zero_sqs _, rfl⟩; clear M; (try clear C); intro bo w9 h_bo M; have C := M.ruleAll; simp only [Go.Proofs.Ythdldlpflieeoaa.ruleAll] at C) | (refine wpList_build 37 _ rfl rfl [(0, .int .i64 (N : Int))] rfl _ (build_sqX _ _) ?_) | ((with_reducible apply wpM_sta' M 0 37 (sqs (N : Int) fun _ _ => 0)); rfl; rfl; rfl; rfl; (first | exact .inl (by assumption) | exact .inr rfl | exact .inr (by assumption)); exact ⟨rfl, inf_sqs.trans (congrArg some (sqs_size ..).symm), flat_sqs _ _⟩; (simp only [entCells, List.getElem?_cons_zero, List.getElem?_cons_succ, sqs_size, sqs_size]); clear M; (try clear C); intro w9 M; simp only [List.set_cons_zero, List.set_cons_succ, entBlk, entT, List.getElem?_cons_zero, List.getElem?_cons_succ] at M; have C := M.ruleAll; simp only [Go.Proofs.Ythdldlpflieeoaa.ruleAll] at C))
  have M9 : Mm no w _ [.box bo (sqs (N : Int) (upT (diT n m t u) N 0 0)) 37, .box br (sqs 0 fun _ _ => 0) 37, .box b3 (sqs (m : Int) u) 37, .box b2 (sqs (n : Int) t) 37] := M.eq (by rw [upT_0])
  clear M; (try clear C)
  have M := M9
  clear M9
  have C := M.ruleAll; simp only [Go.Proofs.Ythdldlpflieeoaa.ruleAll] at C
  go_loopw [7] (fun i wr => ∃ x : Nat, x ≤ N ∧ i = .int .i64 (x : Int) ∧ Mm no w wr [.box bo (sqs (N : Int) (upT (diT n m t u) N x 0)) 37, .box br (sqs 0 fun _ _ => 0) 37, .box b3 (sqs (m : Int) u) 37, .box b2 (sqs (n : Int) t) 37]) (fun i _ => N - (intOf i).toNat)
  case atStart => exact ⟨0, by omega, rfl, M⟩
  case round =>
    obtain ⟨x, hx, rfl, M9⟩ := hrel
    clear M; (try clear C)
    have M := M9
    clear M9
    have C := M.ruleAll; simp only [Go.Proofs.Ythdldlpflieeoaa.ruleAll] at C
    by_cases hlt : x < N
    · have hlt' : (x : Int) < (N : Int) := by omega
      have hx10 : (x : Int) < 10 := by omega
      have dlt : decide ((x : Int) < (N : Int)) = true := decide_eq_true hlt'
      have so4 := so3 (upT (diT n m t u) N x 0)
      go_wp2
      obtain ⟨wo, rfl⟩ : ∃ wo : World, wo = wr := ⟨_, rfl⟩
      go_loopw [8] (fun j wr => ∃ y : Nat, y ≤ N ∧ j = .int .i64 (y : Int) ∧ Mm no w wr [.box bo (sqs (N : Int) (upT (diT n m t u) N x y)) 37, .box br (sqs 0 fun _ _ => 0) 37, .box b3 (sqs (m : Int) u) 37, .box b2 (sqs (n : Int) t) 37]) (fun j _ => N - (intOf j).toNat)
      case atStart => exact ⟨0, by omega, rfl, M⟩
      case round =>
        obtain ⟨y, hy, rfl, M9⟩ := hrel
        clear M; (try clear C)
        have M := M9
        clear M9
        by_cases hly : y < N
        · have hly' : (y : Int) < (N : Int) := by omega
          have hy10 : (y : Int) < 10 := by omega
          have so5 := so3 (upT (diT n m t u) N x y)
          obtain ⟨a1, b1, a2, b2, hv, hvl⟩ := HV.out x y hlt hly
          have HST := Hid2.mk (upT_set (R := (N : Int)) (V := diT n m t u) hlt hly h10 (v := m * t (x / m) (y / m) + u (x % m) (y % m)) hv)
          have c1 := sqs_get (n := (n : Int)) (t := t) (x := x / m) (y := y / m) (by omega) (by omega)
          have c2 := sqs_get (n := (m : Int)) (t := u) (x := x % m) (y := y % m) (by omega) (by omega)
          have d1 : (x : Int) / (m : Int) = ((x / m : Nat) : Int) := by rw [Int.natCast_ediv]
          have d2 : (y : Int) / (m : Int) = ((y / m : Nat) : Int) := by rw [Int.natCast_ediv]
          have d3 : (x : Int) % (m : Int) = ((x % m : Nat) : Int) := by rw [Int.natCast_emod]
          have d4 : (y : Int) % (m : Int) = ((y % m : Nat) : Int) := by rw [Int.natCast_emod]
          clear hv
          generalize x / m = x1 at *
          generalize y / m = y1 at *
          generalize x % m = x2 at *
          generalize y % m = y2 at *
          generalize t x1 y1 = v1 at *
          generalize u x2 y2 = v2 at *
          have d5 : (m : Int) * (v1 : Int) = ((m * v1 : Nat) : Int) := by rw [Int.natCast_mul]
          generalize m * v1 = v3 at *
          have hx1 : (x1 : Int) < 10 := by omega
          have hy1 : (y1 : Int) < 10 := by omega
          have hx2 : (x2 : Int) < 10 := by omega
          have hy2 : (y2 : Int) < 10 := by omega
          have hv3 : (v3 : Int) < 256 := by omega
          have hv4 : (v3 : Int) + (v2 : Int) < 256 := by omega
          have C := M.ruleAll; simp only [Go.Proofs.Ythdldlpflieeoaa.ruleAll] at C
          go_wp2
          apply wp_region_mm M 21 (by kernel_rfl) (by kernel_rfl); (simp only [List.take_succ_cons, List.take_zero]; repeat (first | exact wpText_nil | (apply wpText_cons; (intro w2 M; have C := M.ruleAll; simp only [Go.Proofs.Ythdldlpflieeoaa.ruleAll] at C; go_wp2; exact ⟨rfl, rfl, M⟩); rfl))); (clear M; (try clear C); intro w2 M; simp only [List.drop_succ_cons, List.drop_zero]; have C := M.ruleAll; simp only [Go.Proofs.Ythdldlpflieeoaa.ruleAll] at C)
          go_wp2_with (first | ((with_reducible apply wpM_st' M 0 5 (1 + x * 10 + y) (sqs (N : Int) (upT (diT n m t u) N x (y + 1)))); rfl; rfl; rfl; (first | exact .inl (by assumption) | exact .inr rfl | exact .inr (by assumption)); exact ⟨rfl, rfl, by kernel_rfl⟩; (exact Nat.lt_of_lt_of_eq (by omega) (sqs_size _ _).symm); exact HST.out; clear M; (try clear C); intro w9 M; simp only [List.set_cons_zero, List.set_cons_succ, entBlk, entT, List.getElem?_cons_zero, List.getElem?_cons_succ] at M; have C := M.ruleAll; simp only [Go.Proofs.Ythdldlpflieeoaa.ruleAll] at C))
          go_roundw
          case rel => exact ⟨y + 1, by omega, by go_num, M⟩
          case measure => simp [intOf]; omega
        · rw [show y = N by omega] at M
          have C := M.ruleAll; simp only [Go.Proofs.Ythdldlpflieeoaa.ruleAll] at C
          go_wp2
          go_roundw
          case rel => exact ⟨x + 1, by omega, by go_num, M.eq (by rw [upT_row])⟩
          case measure => simp [intOf]; omega
    · rw [show x = N by omega] at M
      (try clear C)
      have C := M.ruleAll; simp only [Go.Proofs.Ythdldlpflieeoaa.ruleAll] at C
      go_wp2_with (first | ((with_reducible apply wpM_lda' M 0 37 0 (sqs (N : Int) (upT (diT n m t u) N N 0))); rfl; rfl; rfl; exact ⟨rfl, inf_sqs.trans (congrArg some (sqs_size ..).symm), _, und_sqs, rfl⟩; exact whole_of rfl) | ((with_reducible apply wpM_sta' M 1 37 (sqs (N : Int) (upT (diT n m t u) N N 0))); rfl; rfl; rfl; rfl; (first | exact .inl (by assumption) | exact .inr rfl | exact .inr (by assumption)); exact ⟨rfl, inf_sqs.trans (congrArg some (sqs_size ..).symm), flat_sqs _ _⟩; (simp only [entCells, List.getElem?_cons_zero, List.getElem?_cons_succ, sqs_size, sqs_size]); clear M; (try clear C); intro w9 M; simp only [List.set_cons_zero, List.set_cons_succ, entBlk, entT, List.getElem?_cons_zero, List.getElem?_cons_succ] at M; have C := M.ruleAll; simp only [Go.Proofs.Ythdldlpflieeoaa.ruleAll] at C))
      refine bodyPost_ret (v := .agg (sqs (N : Int) (upT (diT n m t u) N N 0))) (by exact results_part rfl _ _ _ _ _ _ rfl und_sqs rfl inf_sqs (cells_of_blk0 (M.box 1 rfl))) rfl ?_
      exact ⟨by rw [upT_all], M.below⟩

set_option maxRecDepth 100000 in
set_option maxHeartbeats 2000000 in
theorem l01Moved_any (N : Nat) (t : Nat → Nat → Nat) (f g h : Nat → Nat) (h0 : 1 ≤ N) (h1 : N ≤ 10) (hf : ∀ i, i < N → f i < 10) (hg : ∀ i, i < N → g i < 10) (ht : ∀ x y, x < N → y < N → t x y < 10) (w : World) :
    Calls Try.prog 203 #[.agg (sqs (N : Int) t), .agg (bys f), .agg (bys g), .agg (bys h)] w fun e w' => e = .returned (.agg (sqs (N : Int) (isoW N t f g h (N * N)))) ∧ Below w.heap.size w w' := by
  have M := Mm.start no w
  have HS := Hid2.mk (fun x y (hy : y < N) (hx : x < N) => isoW_set (N := N) (t := t) (f := f) (g := g) (h := h) (n := (N : Int)) (k := x) (l := y) hy (hf x hx) (hg y hy))
  have HF := Hid2.mk hf
  have HG := Hid2.mk hg
  have HT := Hid2.mk ht
  clear hf hg ht
  have so1 := sqs_order (N : Int) t
  go_enter Try.func203, Try.ntmps203
  go_wp2_with (first | ((with_reducible apply wpM_box' M 37 (sqs (N : Int) t)); rfl; exact ⟨rfl, rfl⟩; clear M; (try clear C); intro b4 w9 h_b4 M; have C := M.ruleAll; simp only [Go.Proofs.Ythdldlpflieeoaa.ruleAll] at C) | ((fail_if_success have := h_b5); ((with_reducible apply wpM_box' M 25 (bys f)); rfl; exact ⟨rfl, rfl⟩; clear M; (try clear C); intro b5 w9 h_b5 M; have C := M.ruleAll; simp only [Go.Proofs.Ythdldlpflieeoaa.ruleAll] at C)) | ((fail_if_success have := h_b6); ((with_reducible apply wpM_box' M 25 (bys g)); rfl; exact ⟨rfl, rfl⟩; clear M; (try clear C); intro b6 w9 h_b6 M; have C := M.ruleAll; simp only [Go.Proofs.Ythdldlpflieeoaa.ruleAll] at C)) | ((with_reducible apply wpM_box' M 25 (bys h)); rfl; exact ⟨rfl, rfl⟩; clear M; (try clear C); intro b7 w9 h_b7 M; have C := M.ruleAll; simp only [Go.Proofs.Ythdldlpflieeoaa.ruleAll] at C) | ((fail_if_success have := h_br); ((with_reducible apply wpM_alloc' M 37 (sqs 0 fun _ _ => 0)); rfl; exact ⟨rfl, _, zero_sqs _, rfl⟩; clear M; (try clear C); intro br w9 h_br M; have C := M.ruleAll; simp only [Go.Proofs.Ythdldlpflieeoaa.ruleAll] at C)) | ((with_reducible apply wpM_alloc' M 37 (sqs 0 fun _ _ => 0)); rfl; exact ⟨rfl, _, zero_sqs _, rfl⟩; clear M; (try clear C); intro bo w9 h_bo M; have C := M.ruleAll; simp only [Go.Proofs.Ythdldlpflieeoaa.ruleAll] at C) | (refine wpList_build 37 _ rfl rfl [(0, .int .i64 (N : Int))] rfl _ (build_sqX _ _) ?_) | ((with_reducible apply wpM_sta' M 0 37 (sqs (N : Int) fun _ _ => 0)); rfl; rfl; rfl; rfl; (first | exact .inl (by assumption) | exact .inr rfl | exact .inr (by assumption)); exact ⟨rfl, inf_sqs.trans (congrArg some (sqs_size ..).symm), flat_sqs _ _⟩; (simp only [entCells, List.getElem?_cons_zero, List.getElem?_cons_succ, sqs_size, sqs_size]); clear M; (try clear C); intro w9 M; simp only [List.set_cons_zero, List.set_cons_succ, entBlk, entT, List.getElem?_cons_zero, List.getElem?_cons_succ] at M; have C := M.ruleAll; simp only [Go.Proofs.Ythdldlpflieeoaa.ruleAll] at C))
  have M9 : Mm no w _ [.box bo (sqs (N : Int) (isoW N t f g h (0 * N + 0))) 37, .box br (sqs 0 fun _ _ => 0) 37, .box b7 (bys h) 25, .box b6 (bys g) 25, .box b5 (bys f) 25, .box b4 (sqs (N : Int) t) 37] := M.eq (by rw [moved_0])
  clear M; (try clear C)
  have M := M9
  clear M9
  have C := M.ruleAll; simp only [Go.Proofs.Ythdldlpflieeoaa.ruleAll] at C
  go_loopw [10] (fun i wr => ∃ x : Nat, x ≤ N ∧ i = .int .i64 (x : Int) ∧ Mm no w wr [.box bo (sqs (N : Int) (isoW N t f g h (x * N + 0))) 37, .box br (sqs 0 fun _ _ => 0) 37, .box b7 (bys h) 25, .box b6 (bys g) 25, .box b5 (bys f) 25, .box b4 (sqs (N : Int) t) 37]) (fun i _ => N - (intOf i).toNat)
  case atStart => exact ⟨0, by omega, rfl, M⟩
  case round =>
    obtain ⟨x, hx, rfl, M9⟩ := hrel
    clear M; (try clear C)
    have M := M9
    clear M9
    have C := M.ruleAll; simp only [Go.Proofs.Ythdldlpflieeoaa.ruleAll] at C
    by_cases hlt : x < N
    · have hlt' : (x : Int) < (N : Int) := by omega
      have hx10 : (x : Int) < 10 := by omega
      have dlt : decide ((x : Int) < (N : Int)) = true := decide_eq_true hlt'
      have e1 := bys_get (f := f) (i := x) (by omega)
      have hfx := HF.out x hlt
      go_wp2
      obtain ⟨wo, rfl⟩ : ∃ wo : World, wo = wr := ⟨_, rfl⟩
      go_loopw [11] (fun j wr => ∃ y : Nat, y ≤ N ∧ j = .int .i64 (y : Int) ∧ Mm no w wr [.box bo (sqs (N : Int) (isoW N t f g h (x * N + y))) 37, .box br (sqs 0 fun _ _ => 0) 37, .box b7 (bys h) 25, .box b6 (bys g) 25, .box b5 (bys f) 25, .box b4 (sqs (N : Int) t) 37]) (fun j _ => N - (intOf j).toNat)
      case atStart => exact ⟨0, by omega, rfl, M⟩
      case round =>
        obtain ⟨y, hy, rfl, M9⟩ := hrel
        clear M; (try clear C)
        have M := M9
        clear M9
        by_cases hly : y < N
        · have hly' : (y : Int) < (N : Int) := by omega
          have hy10 : (y : Int) < 10 := by omega
          have e2 := bys_get (f := g) (i := y) (by omega)
          have hgy := HG.out y hly
          have htx := HT.out x y hlt hly
          have c1 := sqs_get (n := (N : Int)) (t := t) (x := x) (y := y) (by omega) (by omega)
          have e3 := bys_get (f := h) (i := t x y) htx
          have HST := Hid2.mk (HS.out x y hly hlt)
          generalize t x y = v at *
          generalize h v = u at *
          have hf' : ((f x : Nat) : Int) < 10 := by omega
          have hg' : ((g y : Nat) : Int) < 10 := by omega
          have hv' : (v : Int) < 10 := by omega
          have C := M.ruleAll; simp only [Go.Proofs.Ythdldlpflieeoaa.ruleAll] at C
          go_wp2
          apply wp_region_mm M 16 (by kernel_rfl) (by kernel_rfl); (simp only [List.take_succ_cons, List.take_zero]; repeat (first | exact wpText_nil | (apply wpText_cons; (intro w2 M; have C := M.ruleAll; simp only [Go.Proofs.Ythdldlpflieeoaa.ruleAll] at C; go_wp2; exact ⟨rfl, rfl, M⟩); rfl))); (clear M; (try clear C); intro w2 M; simp only [List.drop_succ_cons, List.drop_zero]; have C := M.ruleAll; simp only [Go.Proofs.Ythdldlpflieeoaa.ruleAll] at C)
          go_wp2_with (first | ((with_reducible apply wpM_st' M 0 5 (1 + f x * 10 + g y) (sqs (N : Int) (isoW N t f g h (x * N + (y + 1))))); rfl; rfl; rfl; (first | exact .inl (by assumption) | exact .inr rfl | exact .inr (by assumption)); exact ⟨rfl, rfl, by kernel_rfl⟩; (exact Nat.lt_of_lt_of_eq (by omega) (sqs_size _ _).symm); exact HST.out; clear M; (try clear C); intro w9 M; simp only [List.set_cons_zero, List.set_cons_succ, entBlk, entT, List.getElem?_cons_zero, List.getElem?_cons_succ] at M; have C := M.ruleAll; simp only [Go.Proofs.Ythdldlpflieeoaa.ruleAll] at C))
          go_roundw
          case rel => exact ⟨y + 1, by omega, by go_num, M⟩
          case measure => simp [intOf]; omega
        · rw [show y = N by omega] at M
          have C := M.ruleAll; simp only [Go.Proofs.Ythdldlpflieeoaa.ruleAll] at C
          go_wp2
          go_roundw
          case rel => exact ⟨x + 1, by omega, by go_num, M.eq (by rw [moved_row])⟩
          case measure => simp [intOf]; omega
    · rw [show x = N by omega] at M
      (try clear C)
      have C := M.ruleAll; simp only [Go.Proofs.Ythdldlpflieeoaa.ruleAll] at C
      go_wp2_with (first | ((with_reducible apply wpM_lda' M 0 37 0 (sqs (N : Int) (isoW N t f g h (N * N + 0)))); rfl; rfl; rfl; exact ⟨rfl, inf_sqs.trans (congrArg some (sqs_size ..).symm), _, und_sqs, rfl⟩; exact whole_of rfl) | ((with_reducible apply wpM_sta' M 1 37 (sqs (N : Int) (isoW N t f g h (N * N + 0)))); rfl; rfl; rfl; rfl; (first | exact .inl (by assumption) | exact .inr rfl | exact .inr (by assumption)); exact ⟨rfl, inf_sqs.trans (congrArg some (sqs_size ..).symm), flat_sqs _ _⟩; (simp only [entCells, List.getElem?_cons_zero, List.getElem?_cons_succ, sqs_size, sqs_size]); clear M; (try clear C); intro w9 M; simp only [List.set_cons_zero, List.set_cons_succ, entBlk, entT, List.getElem?_cons_zero, List.getElem?_cons_succ] at M; have C := M.ruleAll; simp only [Go.Proofs.Ythdldlpflieeoaa.ruleAll] at C))
      refine bodyPost_ret (v := .agg (sqs (N : Int) (isoW N t f g h (N * N + 0)))) (by exact results_part rfl _ _ _ _ _ _ rfl und_sqs rfl inf_sqs (cells_of_blk0 (M.box 1 rfl))) rfl ?_
      exact ⟨rfl, M.below⟩
end Go.Proofs.Ythdldlpflieeoaa

/- The least number that has a property. -/
namespace Go.Proofs.Ythdldlpflieeoaa
set_option linter.unusedSimpArgs false
set_option linter.unusedVariables false
open Go Go.RowKit

/-- The least number that has a property. -/
noncomputable def least (P : Nat → Prop) : Nat := @dite _ (∃ k, P k ∧ ∀ j, P j → k ≤ j) (Classical.propDecidable _) (fun h => Classical.choose h) fun _ => 0
theorem least_is {P : Nat → Prop} (h : ∃ k, P k) : ∃ k, P k ∧ ∀ j, P j → k ≤ j := by
  obtain ⟨k, hk⟩ := h
  induction k using Nat.strongRecOn with
  | _ k ih =>
    by_cases h : ∃ j, j < k ∧ P j
    · obtain ⟨j, hj, hP⟩ := h
      exact ih j hj hP
    · exact ⟨k, hk, fun j hP => by
        rcases Nat.lt_or_ge j k with h' | h'
        · exact absurd ⟨j, h', hP⟩ h
        · exact h'⟩
theorem least_spec {P : Nat → Prop} (h : ∃ k, P k) : P (least P) := by
  unfold least; rw [dif_pos (least_is h)]; exact (Classical.choose_spec (least_is h)).1
theorem least_le {P : Nat → Prop} {k : Nat} (h : P k) : least P ≤ k := by
  unfold least; rw [dif_pos (least_is ⟨k, h⟩)]; exact (Classical.choose_spec (least_is ⟨k, h⟩)).2 k h

end Go.Proofs.Ythdldlpflieeoaa

/- Opposite squares, and two rows whose entries are exchanged along a cycle of columns: contracts. -/
namespace Go.Proofs.Ythdldlpflieeoaa
set_option linter.unusedSimpArgs false
set_option linter.unusedVariables false
open Go Go.RowKit

theorem build_sqO (n : Int) (t : Nat → Nat → Nat) (w : World) : (Instr.build 37 #[(0, .int .i64 n), (1, .agg (tbs t))]).run Try.prog w = .ok (.agg (sqs n t)) w := by kernel_rfl
set_option maxRecDepth 100000 in
set_option maxHeartbeats 2000000 in
theorem l01Opposite_any (n : Int) (t : Nat → Nat → Nat) (w : World) : Calls Try.prog 259 #[.agg (sqs n t)] w fun e w' => e = .returned (.agg (sqs n fun x y => t y x)) ∧ Below w.heap.size w w' := by
  have M := Mm.start no w
  have HT := Hid2.mk (fun w1 => l01Turned_any t w1)
  have so := sqs_order n t
  go_enter Try.func259, Try.ntmps259
  go_wp2_with (first | ((with_reducible apply wpM_box' M 37 (sqs n t)); rfl; exact ⟨rfl, rfl⟩; clear M; (try clear C); intro b1 w9 h_b1 M; have C := M.ruleAll; simp only [Go.Proofs.Ythdldlpflieeoaa.ruleAll] at C) | ((with_reducible apply wpM_alloc' M 37 (sqs 0 fun _ _ => 0)); rfl; exact ⟨rfl, _, zero_sqs _, rfl⟩; clear M; (try clear C); intro b2 w9 h_b2 M; have C := M.ruleAll; simp only [Go.Proofs.Ythdldlpflieeoaa.ruleAll] at C))
  apply wp_region_mm M 5 (by kernel_rfl) (by kernel_rfl); (simp only [List.take_succ_cons, List.take_zero]; repeat (first | exact wpText_nil | (apply wpText_cons; (intro w2 M; have C := M.ruleAll; simp only [Go.Proofs.Ythdldlpflieeoaa.ruleAll] at C; go_wp2_with (first | ((with_reducible apply wpM_lda' M 1 35 (1) (tbs t)); rfl; rfl; rfl; exact ⟨rfl, inf_tbl.trans (congrArg some (tbs_size ..).symm), _, und_tbl, rfl⟩; exact sqs_tbs) | (go_at_call 251; ((with_reducible refine (HT.out _).mono ?_); rintro e w1 ⟨rfl, hb⟩; have hsz := M.size; (try (have G9 := G.later hb; clear G; have G := G9; clear G9)); have M9 := M.later hb; clear M; (try clear C); have M := M9; clear M9; have C := M.ruleAll; simp only [Go.Proofs.Ythdldlpflieeoaa.ruleAll] at C))); exact ⟨rfl, rfl, M⟩); rfl))); (clear M; (try clear C); intro w2 M; simp only [List.drop_succ_cons, List.drop_zero]; have C := M.ruleAll; simp only [Go.Proofs.Ythdldlpflieeoaa.ruleAll] at C)
  go_wp2_with (first | (refine wpList_build 37 _ rfl rfl [(0, .int .i64 n), (1, .agg (tbs fun x y => t y x))] rfl _ (build_sqO _ _ _) ?_) | ((with_reducible apply wpM_sta' M 0 37 (sqs n fun x y => t y x)); rfl; rfl; rfl; rfl; (first | exact .inl (by assumption) | exact .inr rfl | exact .inr (by assumption)); exact ⟨rfl, inf_sqs.trans (congrArg some (sqs_size ..).symm), flat_sqs _ _⟩; (simp only [entCells, List.getElem?_cons_zero, List.getElem?_cons_succ, sqs_size, sqs_size]); clear M; (try clear C); intro w9 M; simp only [List.set_cons_zero, List.set_cons_succ, entBlk, entT, List.getElem?_cons_zero, List.getElem?_cons_succ] at M; have C := M.ruleAll; simp only [Go.Proofs.Ythdldlpflieeoaa.ruleAll] at C))
  refine bodyPost_ret (v := .agg (sqs n fun x y => t y x)) (by exact results_part rfl _ _ _ _ _ _ rfl und_sqs rfl inf_sqs (cells_of_blk0 (M.box 0 rfl))) rfl ?_
  exact ⟨rfl, M.below⟩
/-! ### The plain course of a switch -/
def fr (N : Nat) (S : Nat → Bool) : Nat := ((List.range N).filter fun z => !S z).length
theorem fr_add {N : Nat} {S : Nat → Bool} {y : Nat} (hy : y < N) (hS : S y = false) : fr N (addS S y) < fr N S := by
  unfold fr
  have e : ((List.range N).filter fun z => !addS S y z) = ((List.range N).filter fun z => !S z).filter fun z => !(z == y) := by
    rw [List.filter_filter]
    congr 1
    funext z
    unfold addS
    cases (z == y) <;> cases S z <;> rfl
  rw [e]
  exact List.length_filter_lt_length_iff_exists.2 ⟨y, List.mem_filter.2 ⟨List.mem_range.2 hy, by simp [hS]⟩, by simp⟩
structure SwI (N : Nat) (t : Nat → Nat → Nat) (a b : Nat) (S : Nat → Bool) (y : Nat) : Prop where
  lt : y < N
  new : S y = false
  all : ∀ z, S z = true → z < N
  led : ∀ z, z < N → S z = true → ∃ w, w < N ∧ (S w = true ∨ w = y) ∧ t b z = t a w
theorem SwI.start {N : Nat} {t : Nat → Nat → Nat} {a b y : Nat} (hy : y < N) : SwI N t a b (fun _ => false) y := ⟨hy, rfl, (fun _ h => by cases h), (fun _ _ h => by cases h)⟩
theorem SwI.alls {N : Nat} {t : Nat → Nat → Nat} {a b y : Nat} {S : Nat → Bool} (h : SwI N t a b S y) : ∀ z, addS S y z = true → z < N := fun z hz => by
  rcases addS_cases hz with e | e
  · rw [e]; exact h.lt
  · exact h.all z e
theorem SwI.next {N : Nat} {t : Nat → Nat → Nat} {a b y z : Nat} {S : Nat → Bool} (hl : Lat N t) (hb : b < N) (h : SwI N t a b S y) (hz : z < N) (hzy : z ≠ y) (e : swT t a b (addS S y) a z = swT t a b (addS S y) a y) : SwI N t a b (addS S y) z := by
  rw [swT_a (addS_at ..)] at e
  have hS : addS S y z = false := by
    cases hh : addS S y z with
    | false => rfl
    | true =>
      rw [swT_a hh] at e
      exact absurd (hl.left b z y hb hz h.lt e) hzy
  rw [swT_no hS] at e
  refine ⟨hz, hS, h.alls, fun x hx hxS => ?_⟩
  rcases addS_cases hxS with e2 | e2
  · exact ⟨z, hz, .inr rfl, by rw [e2]; exact e.symm⟩
  · obtain ⟨w, hw, h1, h2⟩ := h.led x hx e2
    refine ⟨w, hw, .inl ?_, h2⟩
    rcases h1 with h1 | h1
    · exact addS_of h1
    · rw [h1]; exact addS_at ..
theorem SwI.stop {N : Nat} {t : Nat → Nat → Nat} {a b y : Nat} {S : Nat → Bool} (hl : Lat N t) (ha : a < N) (hb : b < N) (h : SwI N t a b S y) (e : ∀ z, z < N → z = y ∨ swT t a b (addS S y) a z ≠ swT t a b (addS S y) a y) : ClS N t a b (addS S y) := fun x hx hxS => by
  rcases addS_cases hxS with e2 | e2
  · subst e2
    obtain ⟨w, hw, hv⟩ := (hl.row ha).surj (hl.lt b x hb hx)
    refine ⟨w, hw, ?_, hv.symm⟩
    cases hh : addS S x w with
    | true => rfl
    | false =>
      rcases e w hw with h1 | h1
      · subst h1; rw [addS_at] at hh; cases hh
      · rw [swT_a (addS_at ..), swT_no hh] at h1
        exact absurd hv h1
  · obtain ⟨w, hw, h1, h2⟩ := h.led x hx e2
    refine ⟨w, hw, ?_, h2⟩
    rcases h1 with h1 | h1
    · exact addS_of h1
    · rw [h1]; exact addS_at ..
theorem SwI.sq {N : Nat} {t : Nat → Nat → Nat} {a b y : Nat} {S : Nat → Bool} (hs : IsSq (N : Int) t) (ha : a < N) (hb : b < N) (hab : a ≠ b) (h : SwI N t a b S y) (e : ∀ z, z < N → z = y ∨ swT t a b (addS S y) a z ≠ swT t a b (addS S y) a y) : IsSq (N : Int) (swT t a b (addS S y)) :=
  sw_sq hs ha hb hab (h.stop (Lat.of_sq hs) ha hb e) h.alls
theorem sw_set {N : Nat} {t : Nat → Nat → Nat} {a b y : Nat} {S : Nat → Bool} (ha : a < 10) (hb : b < 10) (hy : y < 10) (hab : a ≠ b) (hS : S y = false) :
    ((sqs (N : Int) (swT t a b S)).setIfInBounds (1 + a * 10 + y) (.int .u8 ((swT t a b S b y : Nat) : Int))).setIfInBounds (1 + b * 10 + y) (.int .u8 ((swT t a b S a y : Nat) : Int)) = sqs (N : Int) (swT t a b (addS S y)) := by
  rw [sqs_set ha hy, sqs_set hb hy]
  exact sqs_ext rfl fun i j _ _ => sw_step hab hS i j
/-- How far a switch is. -/
def SwRel (N : Nat) (t : Nat → Nat → Nat) (a b b4 b8 : Nat) (w : World) (k : Nat) (v : Value) (wr : World) : Prop :=
  ∃ (S : Nat → Bool) (y : Nat), fr N S ≤ k ∧ SwI N t a b S y ∧ v = .int .u8 (y : Int) ∧ Mm no w wr [.box b8 (sqs 0 fun _ _ => 0) 37, .box b4 (sqs (N : Int) (swT t a b S)) 37]
/-- A square of order N. -/
def SqV (N : Nat) (v : Value) : Prop := ∃ t, v = .agg (sqs (N : Int) t) ∧ IsSq (N : Int) t
set_option maxRecDepth 100000 in
set_option maxHeartbeats 4000000 in
theorem l01Switch_any (N : Nat) (t : Nat → Nat → Nat) (a b s : Nat) (hs : IsSq (N : Int) t) (ha : a < N) (hb : b < N) (hst : s < N) (w : World) :
    Calls Try.prog 284 #[.agg (sqs (N : Int) t), .int .u8 (a : Int), .int .u8 (b : Int), .int .u8 (s : Int)] w fun e w' => ∃ v, e = .returned v ∧ SqV N v ∧ Below w.heap.size w w' := by
  have M := Mm.start no w
  have h0 : 1 ≤ N := by omega
  have h1 : N ≤ 10 := by have := hs.hi; omega
  have ha10 : (a : Int) < 10 := by omega
  have hb10 : (b : Int) < 10 := by omega
  have HSQ := Hid2.mk hs
  have HL := Hid2.mk (Lat.of_sq hs)
  have hs0 : sqs (N : Int) (swT t a b fun _ => false) = sqs (N : Int) t := rfl
  clear hs
  by_cases hab : a = b
  · subst hab
    go_enter Try.func284, Try.ntmps284
    go_wp2_with (first | ((with_reducible apply wpM_box' M 37 (sqs (N : Int) t)); rfl; exact ⟨rfl, rfl⟩; clear M; (try clear C); intro b4 w9 h_b4 M; have C := M.ruleAll; simp only [Go.Proofs.Ythdldlpflieeoaa.ruleAll] at C) | ((with_reducible apply wpM_alloc' M 37 (sqs 0 fun _ _ => 0)); rfl; exact ⟨rfl, _, zero_sqs _, rfl⟩; clear M; (try clear C); intro b8 w9 h_b8 M; have C := M.ruleAll; simp only [Go.Proofs.Ythdldlpflieeoaa.ruleAll] at C) | ((with_reducible apply wpM_lda' M 1 37 0 (sqs (N : Int) t)); rfl; rfl; rfl; exact ⟨rfl, inf_sqs.trans (congrArg some (sqs_size ..).symm), _, und_sqs, rfl⟩; exact whole_of rfl) | ((with_reducible apply wpM_sta' M 0 37 (sqs (N : Int) t)); rfl; rfl; rfl; rfl; (first | exact .inl (by assumption) | exact .inr rfl | exact .inr (by assumption)); exact ⟨rfl, inf_sqs.trans (congrArg some (sqs_size ..).symm), flat_sqs _ _⟩; (simp only [entCells, List.getElem?_cons_zero, List.getElem?_cons_succ, sqs_size, sqs_size]); clear M; (try clear C); intro w9 M; simp only [List.set_cons_zero, List.set_cons_succ, entBlk, entT, List.getElem?_cons_zero, List.getElem?_cons_succ] at M; have C := M.ruleAll; simp only [Go.Proofs.Ythdldlpflieeoaa.ruleAll] at C))
    refine bodyPost_ret (v := .agg (sqs (N : Int) t)) (by exact results_part rfl _ _ _ _ _ _ rfl und_sqs rfl inf_sqs (cells_of_blk0 (M.box 0 rfl))) rfl ?_
    exact ⟨_, rfl, ⟨t, rfl, HSQ.out⟩, M.below⟩
  have hab' : ((a : Int) == (b : Int)) = false := by simp; omega
  clear hs0
  go_enter Try.func284, Try.ntmps284
  go_wp2_with (first | ((with_reducible apply wpM_box' M 37 (sqs (N : Int) t)); rfl; exact ⟨rfl, rfl⟩; clear M; (try clear C); intro b4 w9 h_b4 M; have C := M.ruleAll; simp only [Go.Proofs.Ythdldlpflieeoaa.ruleAll] at C) | ((with_reducible apply wpM_alloc' M 37 (sqs 0 fun _ _ => 0)); rfl; exact ⟨rfl, _, zero_sqs _, rfl⟩; clear M; (try clear C); intro b8 w9 h_b8 M; have C := M.ruleAll; simp only [Go.Proofs.Ythdldlpflieeoaa.ruleAll] at C))
  go_loopw [9] (fun v wr => ∃ k, SwRel N t a b b4 b8 w k v wr) (fun v wr => least fun k => SwRel N t a b b4 b8 w k v wr)
  case atStart => exact ⟨fr N fun _ => false, fun _ => false, s, Nat.le_refl _, SwI.start hst, rfl, M⟩
  case round =>
    have hP := least_spec hrel
    clear hrel M
    (try clear C)
    generalize hk0 : (least fun k => SwRel N t a b b4 b8 w k _ wr) = k at hP ⊢
    obtain ⟨S, y, hk, hI, rfl, M⟩ := hP
    have HK := Hid2.mk hk0
    clear hk0
    have HI := Hid2.mk hI
    have hyN := hI.lt
    have hy10 : (y : Int) < 10 := by omega
    have HF := Hid2.mk (fr_add hI.lt hI.new)
    have HST := Hid2.mk (sw_set (N := N) (t := t) (a := a) (b := b) (y := y) (S := S) (by omega) (by omega) (by omega) hab hI.new)
    clear hI
    have c1 := sqs_get (n := (N : Int)) (t := swT t a b S) (x := a) (y := y) (by omega) (by omega)
    have c2 := sqs_get (n := (N : Int)) (t := swT t a b S) (x := b) (y := y) (by omega) (by omega)
    generalize swT t a b S a y = va at c1 HST
    generalize swT t a b S b y = vb at c2 HST
    have hne : ¬ (1 + b * 10 + y = 1 + a * 10 + y) := by omega
    have C := M.ruleAll; simp only [Go.Proofs.Ythdldlpflieeoaa.ruleAll] at C
    go_wp2
    apply wp_region_mm M 10 (by kernel_rfl) (by kernel_rfl); (simp only [List.take_succ_cons, List.take_zero]; repeat (first | exact wpText_nil | (apply wpText_cons; (intro w2 M; have C := M.ruleAll; simp only [Go.Proofs.Ythdldlpflieeoaa.ruleAll] at C; go_wp2; exact ⟨rfl, rfl, M⟩); rfl))); (clear M; (try clear C); intro w2 M; simp only [List.drop_succ_cons, List.drop_zero]; have C := M.ruleAll; simp only [Go.Proofs.Ythdldlpflieeoaa.ruleAll] at C)
    go_wp2_with (first | ((with_reducible apply wpM_st' M 1 5 (1 + a * 10 + y) ((sqs (N : Int) (swT t a b S)).setIfInBounds (1 + a * 10 + y) (.int .u8 (vb : Int)))); rfl; rfl; rfl; (first | exact .inl (by assumption) | exact .inr rfl | exact .inr (by assumption)); exact ⟨rfl, rfl, by kernel_rfl⟩; (exact Nat.lt_of_lt_of_eq (by omega) (sqs_size _ _).symm); exact rfl; clear M; (try clear C); intro w9 M; simp only [List.set_cons_zero, List.set_cons_succ, entBlk, entT, List.getElem?_cons_zero, List.getElem?_cons_succ] at M; have C := M.ruleAll; simp only [Go.Proofs.Ythdldlpflieeoaa.ruleAll] at C) | ((with_reducible apply wpM_st' M 1 5 (1 + b * 10 + y) (sqs (N : Int) (swT t a b (addS S y)))); rfl; rfl; rfl; (first | exact .inl (by assumption) | exact .inr rfl | exact .inr (by assumption)); exact ⟨rfl, rfl, by kernel_rfl⟩; (exact Nat.lt_of_lt_of_eq (by omega) ((Array.size_setIfInBounds.trans (sqs_size _ _))).symm); exact HST.out; clear M; (try clear C); intro w9 M; simp only [List.set_cons_zero, List.set_cons_succ, entBlk, entT, List.getElem?_cons_zero, List.getElem?_cons_succ] at M; have C := M.ruleAll; simp only [Go.Proofs.Ythdldlpflieeoaa.ruleAll] at C))
    clear HST c1 c2
    have HS2 := Hid2.mk (fun e => SwI.sq HSQ.out ha hb hab HI.out e)
    have HN2 := Hid2.mk (fun z hz hzy e => SwI.next HL.out hb HI.out (z := z) hz hzy e)
    obtain ⟨T, hT⟩ : ∃ T, T = swT t a b (addS S y) := ⟨_, rfl⟩
    rw [← hT] at HS2 HN2 M
    have c1 := sqs_get (n := (N : Int)) (t := T) (x := a) (y := y) (by omega) (by omega)
    have so := sqs_order (N : Int) T
    have HT := Hid2.mk hT
    clear hT
    (try clear C)
    have C := M.ruleAll; simp only [Go.Proofs.Ythdldlpflieeoaa.ruleAll] at C
    go_loopw [11] (fun v wr => ∃ z, z < N ∧ v = .int .u8 (z : Int) ∧ (∀ z', z' < z → z' = y ∨ T a z' ≠ T a y) ∧ Mm no w wr [.box b8 (sqs 0 fun _ _ => 0) 37, .box b4 (sqs (N : Int) T) 37]) (fun v _ => N - (intOf v).toNat)
    case atStart => exact ⟨0, by omega, rfl, fun _ h => by omega, M⟩
    case round =>
      obtain ⟨z, hz, rfl, hall, M9⟩ := hrel
      clear M; (try clear C)
      have M := M9
      clear M9
      have HALL := Hid2.mk hall
      clear hall
      have hz10 : (z : Int) < 10 := by omega
      have c2 := sqs_get (n := (N : Int)) (t := T) (x := a) (y := z) (by omega) (by omega)
      have C := M.ruleAll; simp only [Go.Proofs.Ythdldlpflieeoaa.ruleAll] at C
      by_cases hP : z = y ∨ T a z ≠ T a y
      · have HP := Hid2.mk hP
        by_cases hzy : z = y
        · have hzy1 : ((z : Int) == (y : Int)) = true := by simp [hzy]
          clear hzy hP
          by_cases hend : z + 1 = N
          · have hend1 : ((z : Int) + 1 == (N : Int)) = true := by simp; omega
            go_wp2
            apply wp_region_mm M 16 (by kernel_rfl) (by kernel_rfl); (simp only [List.take_succ_cons, List.take_zero]; repeat (first | exact wpText_nil | (apply wpText_cons; (intro w2 M; have C := M.ruleAll; simp only [Go.Proofs.Ythdldlpflieeoaa.ruleAll] at C; go_wp2; exact ⟨rfl, rfl, M⟩); rfl))); (clear M; (try clear C); intro w2 M; simp only [List.drop_succ_cons, List.drop_zero]; have C := M.ruleAll; simp only [Go.Proofs.Ythdldlpflieeoaa.ruleAll] at C)
            go_wp2_with (first | ((with_reducible apply wpM_lda' M 1 37 0 (sqs (N : Int) T)); rfl; rfl; rfl; exact ⟨rfl, inf_sqs.trans (congrArg some (sqs_size ..).symm), _, und_sqs, rfl⟩; exact whole_of rfl) | ((with_reducible apply wpM_sta' M 0 37 (sqs (N : Int) T)); rfl; rfl; rfl; rfl; (first | exact .inl (by assumption) | exact .inr rfl | exact .inr (by assumption)); exact ⟨rfl, inf_sqs.trans (congrArg some (sqs_size ..).symm), flat_sqs _ _⟩; (simp only [entCells, List.getElem?_cons_zero, List.getElem?_cons_succ, sqs_size, sqs_size]); clear M; (try clear C); intro w9 M; simp only [List.set_cons_zero, List.set_cons_succ, entBlk, entT, List.getElem?_cons_zero, List.getElem?_cons_succ] at M; have C := M.ruleAll; simp only [Go.Proofs.Ythdldlpflieeoaa.ruleAll] at C))
            refine bodyPost_ret (v := .agg (sqs (N : Int) T)) (by exact results_part rfl _ _ _ _ _ _ rfl und_sqs rfl inf_sqs (cells_of_blk0 (M.box 0 rfl))) rfl ?_
            exact ⟨_, rfl, ⟨T, rfl, HS2.out fun z' hz' => (show z' = y ∨ T a z' ≠ T a y by
              rcases Nat.lt_or_ge z' z with h | h
              · exact HALL.out z' h
              · rw [show z' = z by omega]; exact HP.out)⟩, M.below⟩
          · have hend1 : ((z : Int) + 1 == (N : Int)) = false := by simp; omega
            go_wp2
            apply wp_region_mm M 16 (by kernel_rfl) (by kernel_rfl); (simp only [List.take_succ_cons, List.take_zero]; repeat (first | exact wpText_nil | (apply wpText_cons; (intro w2 M; have C := M.ruleAll; simp only [Go.Proofs.Ythdldlpflieeoaa.ruleAll] at C; go_wp2; exact ⟨rfl, rfl, M⟩); rfl))); (clear M; (try clear C); intro w2 M; simp only [List.drop_succ_cons, List.drop_zero]; have C := M.ruleAll; simp only [Go.Proofs.Ythdldlpflieeoaa.ruleAll] at C)
            go_wp2
            go_roundw
            case rel => exact ⟨z + 1, by omega, by go_num, fun z' hz' => (show z' = y ∨ T a z' ≠ T a y by
              rcases Nat.lt_or_ge z' z with h | h
              · exact HALL.out z' h
              · rw [show z' = z by omega]; exact HP.out), M⟩
            case measure => simp [intOf]; omega
        · have hzy1 : ((z : Int) == (y : Int)) = false := by simp; omega
          have hne1 : ((T a z : Nat) : Int) ≠ ((T a y : Nat) : Int) := by
            have := hP.resolve_left hzy
            omega
          have hne2 : (((T a z : Nat) : Int) != ((T a y : Nat) : Int)) = true := by simpa using hne1
          clear hzy hP hne1
          by_cases hend : z + 1 = N
          · have hend1 : ((z : Int) + 1 == (N : Int)) = true := by simp; omega
            go_wp2
            apply wp_region_mm M 16 (by kernel_rfl) (by kernel_rfl); (simp only [List.take_succ_cons, List.take_zero]; repeat (first | exact wpText_nil | (apply wpText_cons; (intro w2 M; have C := M.ruleAll; simp only [Go.Proofs.Ythdldlpflieeoaa.ruleAll] at C; go_wp2; exact ⟨rfl, rfl, M⟩); rfl))); (clear M; (try clear C); intro w2 M; simp only [List.drop_succ_cons, List.drop_zero]; have C := M.ruleAll; simp only [Go.Proofs.Ythdldlpflieeoaa.ruleAll] at C)
            go_wp2_with (first | ((with_reducible apply wpM_lda' M 1 37 0 (sqs (N : Int) T)); rfl; rfl; rfl; exact ⟨rfl, inf_sqs.trans (congrArg some (sqs_size ..).symm), _, und_sqs, rfl⟩; exact whole_of rfl) | ((with_reducible apply wpM_sta' M 0 37 (sqs (N : Int) T)); rfl; rfl; rfl; rfl; (first | exact .inl (by assumption) | exact .inr rfl | exact .inr (by assumption)); exact ⟨rfl, inf_sqs.trans (congrArg some (sqs_size ..).symm), flat_sqs _ _⟩; (simp only [entCells, List.getElem?_cons_zero, List.getElem?_cons_succ, sqs_size, sqs_size]); clear M; (try clear C); intro w9 M; simp only [List.set_cons_zero, List.set_cons_succ, entBlk, entT, List.getElem?_cons_zero, List.getElem?_cons_succ] at M; have C := M.ruleAll; simp only [Go.Proofs.Ythdldlpflieeoaa.ruleAll] at C))
            refine bodyPost_ret (v := .agg (sqs (N : Int) T)) (by exact results_part rfl _ _ _ _ _ _ rfl und_sqs rfl inf_sqs (cells_of_blk0 (M.box 0 rfl))) rfl ?_
            exact ⟨_, rfl, ⟨T, rfl, HS2.out fun z' hz' => (show z' = y ∨ T a z' ≠ T a y by
              rcases Nat.lt_or_ge z' z with h | h
              · exact HALL.out z' h
              · rw [show z' = z by omega]; exact HP.out)⟩, M.below⟩
          · have hend1 : ((z : Int) + 1 == (N : Int)) = false := by simp; omega
            go_wp2
            apply wp_region_mm M 16 (by kernel_rfl) (by kernel_rfl); (simp only [List.take_succ_cons, List.take_zero]; repeat (first | exact wpText_nil | (apply wpText_cons; (intro w2 M; have C := M.ruleAll; simp only [Go.Proofs.Ythdldlpflieeoaa.ruleAll] at C; go_wp2; exact ⟨rfl, rfl, M⟩); rfl))); (clear M; (try clear C); intro w2 M; simp only [List.drop_succ_cons, List.drop_zero]; have C := M.ruleAll; simp only [Go.Proofs.Ythdldlpflieeoaa.ruleAll] at C)
            go_wp2
            go_roundw
            case rel => exact ⟨z + 1, by omega, by go_num, fun z' hz' => (show z' = y ∨ T a z' ≠ T a y by
              rcases Nat.lt_or_ge z' z with h | h
              · exact HALL.out z' h
              · rw [show z' = z by omega]; exact HP.out), M⟩
            case measure => simp [intOf]; omega
      · have hzy : ¬ z = y := fun h => hP (.inl h)
        have he : T a z = T a y := by
          by_cases h : T a z = T a y
          · exact h
          · exact absurd (.inr h) hP
        have hzy1 : ((z : Int) == (y : Int)) = false := by simp; omega
        have hne2 : (((T a z : Nat) : Int) != ((T a y : Nat) : Int)) = false := by simp [he]
        have HE := Hid2.mk (HN2.out z hz hzy he)
        clear hP he hzy
        go_wp2
        apply wp_region_mm M 16 (by kernel_rfl) (by kernel_rfl); (simp only [List.take_succ_cons, List.take_zero]; repeat (first | exact wpText_nil | (apply wpText_cons; (intro w2 M; have C := M.ruleAll; simp only [Go.Proofs.Ythdldlpflieeoaa.ruleAll] at C; go_wp2; exact ⟨rfl, rfl, M⟩); rfl))); (clear M; (try clear C); intro w2 M; simp only [List.drop_succ_cons, List.drop_zero]; have C := M.ruleAll; simp only [Go.Proofs.Ythdldlpflieeoaa.ruleAll] at C)
        go_wp2
        have hn : SwRel N t a b b4 b8 w (fr N (addS S y)) (.int .u8 (z : Int)) _ := ⟨addS S y, z, Nat.le_refl _, HE.out, rfl, by rw [← HT.out]; exact M⟩
        exact ⟨⟨_, hn⟩, Nat.lt_of_le_of_lt (least_le hn) (by rw [HK.out]; exact Nat.lt_of_lt_of_le HF.out hk)⟩
end Go.Proofs.Ythdldlpflieeoaa

/- Lists of texts: their types. -/
namespace Go.Proofs.Ythdldlpflieeoaa
set_option linter.unusedSimpArgs false
set_option linter.unusedVariables false
open Go Go.RowKit

theorem und_sls : Try.prog.underlying 226 = some (.slice 9) := by kernel_rfl
theorem inf_els : (Try.prog.info? 9).map (fun i => (i.zero, i.size, i.bytes)) = some (some (.string .empty), 1, 16) := by kernel_rfl
theorem und_slJ : Try.prog.underlying 226 = some (.slice 9) := by kernel_rfl
theorem inf_elJ : (Try.prog.info? 9).map (fun i => (i.zero, i.size, i.bytes)) = some (some (.string .empty), 1, 16) := by kernel_rfl
theorem bsl_J0 (w : World) : (Instr.buildSlice 226 0 [].toArray).run Try.prog w = .ok (.slice (some ⟨w.heap.size, 0, none⟩) 0 0) (w.alloc (.cells #[] 9)) := by kernel_rfl
theorem bsl_J1 (s : ByteArray) (w : World) : (Instr.buildSlice 226 1 [(0, Value.string s)].toArray).run Try.prog w = .ok (.slice (some ⟨w.heap.size, 0, none⟩) 1 1) (w.alloc (.cells #[.string s] 9)) := by kernel_rfl
theorem flat_J1 (s : ByteArray) : flat #[.string s] := fun u hu => by
  have : u = .string s := by simpa using hu
  subst this; rfl
end Go.Proofs.Ythdldlpflieeoaa

/- The bytes of a square's text; a row of bytes as a text. -/
namespace Go.Proofs.Ythdldlpflieeoaa
set_option linter.unusedSimpArgs false
set_option linter.unusedVariables false
open Go Go.RowKit

/-- The bytes of a row as far as k; of the first k rows. -/
def rwT (t : Nat → Nat → Nat) (x : Nat) : Nat → List Nat
  | 0 => []
  | k + 1 => rwT t x k ++ [48 + t x k]
def sqT (n : Nat) (t : Nat → Nat → Nat) : Nat → List Nat
  | 0 => []
  | x + 1 => sqT n t x ++ (if x = 0 then [] else [47]) ++ rwT t x n
theorem rwT_len (t : Nat → Nat → Nat) (x : Nat) : ∀ k, (rwT t x k).length = k
  | 0 => rfl
  | k + 1 => by rw [rwT, List.length_append, rwT_len t x k]; rfl
theorem sqT_len (n : Nat) (t : Nat → Nat → Nat) : ∀ x, (sqT n t x).length ≤ x * (n + 1)
  | 0 => Nat.zero_le _
  | x + 1 => by
    have h := sqT_len n t x
    rw [sqT, List.length_append, List.length_append, rwT_len, Nat.add_mul, Nat.one_mul]
    split
    · simp only [List.length_nil]; omega
    · simp only [List.length_singleton]; omega
theorem rwT_byt {n : Nat} {t : Nat → Nat → Nat} (h : ∀ x y, x < n → y < n → t x y < 10) {x : Nat} (hx : x < n) : ∀ k, k ≤ n → Byts (rwT t x k)
  | 0, _ => fun _ h => by cases h
  | k + 1, hk => fun b hb => by
    rw [rwT, List.mem_append, List.mem_singleton] at hb
    rcases hb with hb | rfl
    · exact rwT_byt h hx k (by omega) b hb
    · have := h x k hx (by omega); omega
theorem sqT_byt {n : Nat} {t : Nat → Nat → Nat} (h : ∀ x y, x < n → y < n → t x y < 10) : ∀ k, k ≤ n → Byts (sqT n t k)
  | 0, _ => fun _ h => by cases h
  | k + 1, hk => fun b hb => by
    rw [sqT, List.mem_append, List.mem_append] at hb
    rcases hb with (hb | hb) | hb
    · exact sqT_byt h k (by omega) b hb
    · split at hb
      · cases hb
      · rw [List.mem_singleton.1 hb]; omega
    · exact rwT_byt h (by omega) n (Nat.le_refl n) b hb
theorem sqT_pos {n : Nat} (t : Nat → Nat → Nat) (hn : 0 < n) : 0 < (sqT n t n).length := by
  obtain ⟨m, rfl⟩ : ∃ m, n = m + 1 := ⟨n - 1, by omega⟩
  rw [sqT, List.length_append, rwT_len]; omega
def u8H (l : List Nat) : List Value := l.map fun (b : Nat) => .int .u8 (b : Int)
theorem u8H_app (l : List Nat) (x : Nat) : u8H (l ++ [x]) = u8H l ++ [.int .u8 (x : Int)] := by simp [u8H]
theorem u8H_len (l : List Nat) : (u8H l).length = l.length := by simp [u8H]
theorem und_slH : Try.prog.underlying 22 = some (.slice 5) := by kernel_rfl
theorem inf_elH : (Try.prog.info? 5).map (fun i => (i.zero, i.size, i.bytes)) = some (some (.int .u8 0), 1, 1) := by kernel_rfl
theorem bsl_H0 (w : World) : (Instr.buildSlice 22 0 [].toArray).run Try.prog w = .ok (.slice (some ⟨w.heap.size, 0, none⟩) 0 0) (w.alloc (.cells #[] 5)) := by kernel_rfl
theorem bsl_H1 (x : Int) (w : World) : (Instr.buildSlice 22 1 [(0, Value.int .u8 x)].toArray).run Try.prog w = .ok (.slice (some ⟨w.heap.size, 0, none⟩) 1 1) (w.alloc (.cells #[.int .u8 x] 5)) := by kernel_rfl
theorem flat_H1 (x : Int) : flat #[.int .u8 x] := by intro v hv; simp at hv; subst hv; rfl
/-- A row of bytes as a text. -/
theorem conv_row {w : World} {B g cap : Nat} {l : List Nat} (hb : Byts l) (h : w.ownsRow B 5 1 (.slice (some ⟨g, 0, none⟩) l.length cap) l.length (u8H l)) : (convert 22 9 (.slice (some ⟨g, 0, none⟩) l.length cap)).run Try.prog w = .ok (.string (str l)) w := by
  have h1 := run_convert_bytes_back (P := Try.prog) w 22 9 5 ⟨g, 0, none⟩ cap (l.map UInt8.ofNat) und_slH (by kernel_rfl) und_str fun j hj => by
    rw [List.length_map] at hj
    rw [add_none, Nat.zero_add, World.ownsRow.cellAt h j (by omega)]
    unfold u8H
    rw [List.getElem?_map, List.getElem?_eq_getElem hj, List.getElem_map]
    have := hb _ (List.getElem_mem hj)
    simp
    omega
  rw [List.length_map] at h1
  exact h1
end Go.Proofs.Ythdldlpflieeoaa

