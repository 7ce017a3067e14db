/- Permutations made in one loop: contracts. -/
import Derived.Test.YtinjjaoikofkdaaC1
import Derived.Test.YtinjjaoikofkdaaM
namespace Go.Proofs.Ytinjjaoikofkdaa
set_option linter.unusedSimpArgs false
set_option linter.unusedVariables false
open Go.RowKit

theorem build_plc (w : World) : (Instr.build 70 #[]).run Try.prog w = .ok (.agg (bys fun _ => 0)) w := by kernel_rfl

set_option maxRecDepth 100000 in
set_option maxHeartbeats 1000000 in
theorem identity_any (n : Int) (w : World) (h0 : 0 ≤ n) (h1 : n ≤ 10) :
    Calls Try.prog 112 #[.int .i64 n] w fun e w' => e = .returned (.agg (bys (idTo n.toNat))) ∧ Below w.heap.size w w' := by
  have hz := zero_plc
  have hbd := build_plc
  go_enter Try.func112, Try.ntmps112
  go_wp2_with (first | (refine wpList_store_row rfl 70 _ _ rfl _ rfl _ rfl inf_plc _ _ (blk_new _ _ _ _ (by simp)) (by simp [bys_size]) (flat_bys _) ?_))
  clear hz hbd
  go_loopw [7] (fun i wr => ∃ k : Nat, (k : Int) ≤ n ∧ i = .int .i64 k ∧ Below w.heap.size w wr ∧ blk wr (w.heap.size) (bys fun _ => 0) 70 ∧ blk wr (w.heap.size + 1) (bys (idTo k)) 70) (fun i _ => (n - intOf i).toNat)
  case atStart => exact ⟨0, by omega, rfl, below_put (((Below.refl _ _).alloc (by first | (simp; done) | (simp; omega)) _).alloc (by first | (simp; done) | (simp; omega)) _) (by omega) _ _, blk_put_other (by repeat (first | (refine blk_new _ _ _ _ ?_; (simp; done)) | apply blk.alloc)) (by omega), (blk_put (blk_new _ _ _ _ (by simp)) _).eq (bys_ext fun i hi => by simp [idTo])⟩
  case round =>
    obtain ⟨k, hk, rfl, hB, br, bo⟩ := hrel
    by_cases hlt : (k : Int) < n
    · skip
      have fo := bo.free (k)
      have co := bo.cell (k) _ (bys_get (by omega))
      go_wp2
      go_roundw
      case rel => exact ⟨k + 1, by omega, by go_num, hB.setCell (by first | (simp; done) | (simp; omega)) _, br.other _ _ (by omega), (bo.set _ _).eq (idTo_set k)⟩
      case measure => simp [intOf]; omega
    · have hkn : k = n.toNat := by omega
      subst hkn
      go_wp2_with (first | (refine wpList_load_part rfl 70 _ rfl _ _ rfl (bys (idTo n.toNat)) _ und_plc rfl inf_plc (cells_of_blk0 bo) ?_) | (refine wpList_store_row rfl 70 _ _ rfl _ rfl _ rfl inf_plc _ _ (br) (by simp [bys_size]) (flat_bys _) ?_))
      refine bodyPost_ret (v := .agg (bys (idTo n.toNat))) (by exact results_part rfl _ _ _ _ _ _ rfl und_plc rfl inf_plc (cells_of_blk0 (blk_put br _))) rfl ?_
      exact ⟨rfl, below_put hB (by omega) _ _⟩

set_option maxRecDepth 100000 in
set_option maxHeartbeats 1000000 in
theorem l01Same_any (n : Int) (w : World) (h0 : 0 ≤ n) (h1 : n ≤ 10) :
    Calls Try.prog 123 #[.int .i64 n] w fun e w' => e = .returned (.agg (bys (idTo n.toNat))) ∧ Below w.heap.size w w' := by
  have hz := zero_plc
  have hbd := build_plc
  go_enter Try.func123, Try.ntmps123
  go_wp2_with (first | (refine wpList_store_row rfl 70 _ _ rfl _ rfl _ rfl inf_plc _ _ (blk_new _ _ _ _ (by simp)) (by simp [bys_size]) (flat_bys _) ?_))
  clear hz hbd
  go_loopw [4] (fun i wr => ∃ k : Nat, (k : Int) ≤ n ∧ i = .int .i64 k ∧ Below w.heap.size w wr ∧ blk wr (w.heap.size) (bys fun _ => 0) 70 ∧ blk wr (w.heap.size + 1) (bys (idTo k)) 70) (fun i _ => (n - intOf i).toNat)
  case atStart => exact ⟨0, by omega, rfl, below_put (((Below.refl _ _).alloc (by first | (simp; done) | (simp; omega)) _).alloc (by first | (simp; done) | (simp; omega)) _) (by omega) _ _, blk_put_other (by repeat (first | (refine blk_new _ _ _ _ ?_; (simp; done)) | apply blk.alloc)) (by omega), (blk_put (blk_new _ _ _ _ (by simp)) _).eq (bys_ext fun i hi => by simp [idTo])⟩
  case round =>
    obtain ⟨k, hk, rfl, hB, br, bo⟩ := hrel
    by_cases hlt : (k : Int) < n
    · skip
      have fo := bo.free (k)
      have co := bo.cell (k) _ (bys_get (by omega))
      go_wp2
      go_roundw
      case rel => exact ⟨k + 1, by omega, by go_num, hB.setCell (by first | (simp; done) | (simp; omega)) _, br.other _ _ (by omega), (bo.set _ _).eq (idTo_set k)⟩
      case measure => simp [intOf]; omega
    · have hkn : k = n.toNat := by omega
      subst hkn
      go_wp2_with (first | (refine wpList_load_part rfl 70 _ rfl _ _ rfl (bys (idTo n.toNat)) _ und_plc rfl inf_plc (cells_of_blk0 bo) ?_) | (refine wpList_store_row rfl 70 _ _ rfl _ rfl _ rfl inf_plc _ _ (br) (by simp [bys_size]) (flat_bys _) ?_))
      refine bodyPost_ret (v := .agg (bys (idTo n.toNat))) (by exact results_part rfl _ _ _ _ _ _ rfl und_plc rfl inf_plc (cells_of_blk0 (blk_put br _))) rfl ?_
      exact ⟨rfl, below_put hB (by omega) _ _⟩

set_option maxRecDepth 100000 in
set_option maxHeartbeats 1000000 in
theorem then_any (p q : Nat → Nat) (n : Int) (w : World) (h0 : 0 ≤ n) (h1 : n ≤ 10) (hp : ∀ i : Nat, (i : Int) < n → p i < 10) :
    Calls Try.prog 113 #[.agg (bys p), .agg (bys q), .int .i64 n] w fun e w' => e = .returned (.agg (bys (thTo p q n.toNat))) ∧ Below w.heap.size w w' := by
  have hz := zero_plc
  have hbd := build_plc
  go_enter Try.func113, Try.ntmps113
  go_wp2_with (first | (refine wpList_store_row rfl 70 _ _ rfl _ rfl _ rfl inf_plc _ _ (blk_new _ _ _ _ (by simp)) (by simp [bys_size]) (flat_bys _) ?_))
  clear hz hbd
  go_loopw [11] (fun i wr => ∃ k : Nat, (k : Int) ≤ n ∧ i = .int .i64 k ∧ Below w.heap.size w wr ∧ blk wr (w.heap.size) (bys p) 70 ∧ blk wr (w.heap.size + 1) (bys q) 70 ∧ blk wr (w.heap.size + 1 + 1) (bys fun _ => 0) 70 ∧ blk wr (w.heap.size + 1 + 1 + 1) (bys (thTo p q k)) 70) (fun i _ => (n - intOf i).toNat)
  case atStart => exact ⟨0, by omega, rfl, below_put (((((Below.refl _ _).alloc (by first | (simp; done) | (simp; omega)) _).alloc (by first | (simp; done) | (simp; omega)) _).alloc (by first | (simp; done) | (simp; omega)) _).alloc (by first | (simp; done) | (simp; omega)) _) (by omega) _ _, blk_put_other (by repeat (first | (refine blk_new _ _ _ _ ?_; (simp; done)) | apply blk.alloc)) (by omega), blk_put_other (by repeat (first | (refine blk_new _ _ _ _ ?_; (simp; done)) | apply blk.alloc)) (by omega), blk_put_other (by repeat (first | (refine blk_new _ _ _ _ ?_; (simp; done)) | apply blk.alloc)) (by omega), (blk_put (blk_new _ _ _ _ (by simp)) _).eq (bys_ext fun i hi => by simp [thTo])⟩
  case round =>
    obtain ⟨k, hk, rfl, hB, b0, b1, br, bo⟩ := hrel
    by_cases hlt : (k : Int) < n
    · have hp1 := hp k hlt
      have c0 := b0.cell k _ (bys_get (by omega))
      have c1 := b1.cell (p k) _ (bys_get hp1)
      have fo := bo.free (k)
      have co := bo.cell (k) _ (bys_get (by omega))
      go_wp2
      go_roundw
      case rel => exact ⟨k + 1, by omega, by go_num, hB.setCell (by first | (simp; done) | (simp; omega)) _, b0.other _ _ (by omega), b1.other _ _ (by omega), br.other _ _ (by omega), (bo.set _ _).eq (thTo_set p q k)⟩
      case measure => simp [intOf]; omega
    · have hkn : k = n.toNat := by omega
      subst hkn
      go_wp2_with (first | (refine wpList_load_part rfl 70 _ rfl _ _ rfl (bys (thTo p q n.toNat)) _ und_plc rfl inf_plc (cells_of_blk0 bo) ?_) | (refine wpList_store_row rfl 70 _ _ rfl _ rfl _ rfl inf_plc _ _ (br) (by simp [bys_size]) (flat_bys _) ?_))
      refine bodyPost_ret (v := .agg (bys (thTo p q n.toNat))) (by exact results_part rfl _ _ _ _ _ _ rfl und_plc rfl inf_plc (cells_of_blk0 (blk_put br _))) rfl ?_
      exact ⟨rfl, below_put hB (by omega) _ _⟩

set_option maxRecDepth 100000 in
set_option maxHeartbeats 1000000 in
theorem l01Then_any (p q : Nat → Nat) (n : Int) (w : World) (h0 : 0 ≤ n) (h1 : n ≤ 10) (hp : ∀ i : Nat, (i : Int) < n → p i < 10) :
    Calls Try.prog 124 #[.agg (bys p), .agg (bys q), .int .i64 n] w fun e w' => e = .returned (.agg (bys (thTo p q n.toNat))) ∧ Below w.heap.size w w' := by
  have hz := zero_plc
  have hbd := build_plc
  go_enter Try.func124, Try.ntmps124
  go_wp2_with (first | (refine wpList_store_row rfl 70 _ _ rfl _ rfl _ rfl inf_plc _ _ (blk_new _ _ _ _ (by simp)) (by simp [bys_size]) (flat_bys _) ?_))
  clear hz hbd
  go_loopw [8] (fun i wr => ∃ k : Nat, (k : Int) ≤ n ∧ i = .int .i64 k ∧ Below w.heap.size w wr ∧ blk wr (w.heap.size) (bys p) 70 ∧ blk wr (w.heap.size + 1) (bys q) 70 ∧ blk wr (w.heap.size + 1 + 1) (bys fun _ => 0) 70 ∧ blk wr (w.heap.size + 1 + 1 + 1) (bys (thTo p q k)) 70) (fun i _ => (n - intOf i).toNat)
  case atStart => exact ⟨0, by omega, rfl, below_put (((((Below.refl _ _).alloc (by first | (simp; done) | (simp; omega)) _).alloc (by first | (simp; done) | (simp; omega)) _).alloc (by first | (simp; done) | (simp; omega)) _).alloc (by first | (simp; done) | (simp; omega)) _) (by omega) _ _, blk_put_other (by repeat (first | (refine blk_new _ _ _ _ ?_; (simp; done)) | apply blk.alloc)) (by omega), blk_put_other (by repeat (first | (refine blk_new _ _ _ _ ?_; (simp; done)) | apply blk.alloc)) (by omega), blk_put_other (by repeat (first | (refine blk_new _ _ _ _ ?_; (simp; done)) | apply blk.alloc)) (by omega), (blk_put (blk_new _ _ _ _ (by simp)) _).eq (bys_ext fun i hi => by simp [thTo])⟩
  case round =>
    obtain ⟨k, hk, rfl, hB, b0, b1, br, bo⟩ := hrel
    by_cases hlt : (k : Int) < n
    · have hp1 := hp k hlt
      have c0 := b0.cell k _ (bys_get (by omega))
      have c1 := b1.cell (p k) _ (bys_get hp1)
      have fo := bo.free (k)
      have co := bo.cell (k) _ (bys_get (by omega))
      go_wp2
      go_roundw
      case rel => exact ⟨k + 1, by omega, by go_num, hB.setCell (by first | (simp; done) | (simp; omega)) _, b0.other _ _ (by omega), b1.other _ _ (by omega), br.other _ _ (by omega), (bo.set _ _).eq (thTo_set p q k)⟩
      case measure => simp [intOf]; omega
    · have hkn : k = n.toNat := by omega
      subst hkn
      go_wp2_with (first | (refine wpList_load_part rfl 70 _ rfl _ _ rfl (bys (thTo p q n.toNat)) _ und_plc rfl inf_plc (cells_of_blk0 bo) ?_) | (refine wpList_store_row rfl 70 _ _ rfl _ rfl _ rfl inf_plc _ _ (br) (by simp [bys_size]) (flat_bys _) ?_))
      refine bodyPost_ret (v := .agg (bys (thTo p q n.toNat))) (by exact results_part rfl _ _ _ _ _ _ rfl und_plc rfl inf_plc (cells_of_blk0 (blk_put br _))) rfl ?_
      exact ⟨rfl, below_put hB (by omega) _ _⟩

set_option maxRecDepth 100000 in
set_option maxHeartbeats 1000000 in
theorem back_any (p : Nat → Nat) (n : Int) (w : World) (h0 : 0 ≤ n) (h1 : n ≤ 10) (hp : ∀ i : Nat, (i : Int) < n → p i < 10) :
    Calls Try.prog 117 #[.agg (bys p), .int .i64 n] w fun e w' => e = .returned (.agg (bys (bkTo p n.toNat))) ∧ Below w.heap.size w w' := by
  have hz := zero_plc
  have hbd := build_plc
  go_enter Try.func117, Try.ntmps117
  go_wp2_with (first | (refine wpList_store_row rfl 70 _ _ rfl _ rfl _ rfl inf_plc _ _ (blk_new _ _ _ _ (by simp)) (by simp [bys_size]) (flat_bys _) ?_))
  clear hz hbd
  go_loopw [9] (fun i wr => ∃ k : Nat, (k : Int) ≤ n ∧ i = .int .i64 k ∧ Below w.heap.size w wr ∧ blk wr (w.heap.size) (bys p) 70 ∧ blk wr (w.heap.size + 1) (bys fun _ => 0) 70 ∧ blk wr (w.heap.size + 1 + 1) (bys (bkTo p k)) 70) (fun i _ => (n - intOf i).toNat)
  case atStart => exact ⟨0, by omega, rfl, below_put ((((Below.refl _ _).alloc (by first | (simp; done) | (simp; omega)) _).alloc (by first | (simp; done) | (simp; omega)) _).alloc (by first | (simp; done) | (simp; omega)) _) (by omega) _ _, blk_put_other (by repeat (first | (refine blk_new _ _ _ _ ?_; (simp; done)) | apply blk.alloc)) (by omega), blk_put_other (by repeat (first | (refine blk_new _ _ _ _ ?_; (simp; done)) | apply blk.alloc)) (by omega), (blk_put (blk_new _ _ _ _ (by simp)) _).eq (bys_ext fun i hi => by simp [bkTo])⟩
  case round =>
    obtain ⟨k, hk, rfl, hB, b0, br, bo⟩ := hrel
    by_cases hlt : (k : Int) < n
    · have hp1 := hp k hlt
      have c0 := b0.cell k _ (bys_get (by omega))
      have fo := bo.free (p k)
      have co := bo.cell (p k) _ (bys_get (by omega))
      go_wp2
      go_roundw
      case rel => exact ⟨k + 1, by omega, by go_num, hB.setCell (by first | (simp; done) | (simp; omega)) _, b0.other _ _ (by omega), br.other _ _ (by omega), (bo.set _ _).eq (bkTo_set p k)⟩
      case measure => simp [intOf]; omega
    · have hkn : k = n.toNat := by omega
      subst hkn
      go_wp2_with (first | (refine wpList_load_part rfl 70 _ rfl _ _ rfl (bys (bkTo p n.toNat)) _ und_plc rfl inf_plc (cells_of_blk0 bo) ?_) | (refine wpList_store_row rfl 70 _ _ rfl _ rfl _ rfl inf_plc _ _ (br) (by simp [bys_size]) (flat_bys _) ?_))
      refine bodyPost_ret (v := .agg (bys (bkTo p n.toNat))) (by exact results_part rfl _ _ _ _ _ _ rfl und_plc rfl inf_plc (cells_of_blk0 (blk_put br _))) rfl ?_
      exact ⟨rfl, below_put hB (by omega) _ _⟩

set_option maxRecDepth 100000 in
set_option maxHeartbeats 1000000 in
theorem column_any (n : Int) (t : Nat → Nat → Nat) (y : Nat) (w : World) (hy : y < 10) :
    Calls Try.prog 114 #[.agg (sqs n t), .int .u8 y] w fun e w' => e = .returned (.agg (bys (fun x => t x y))) ∧ Below w.heap.size w w' := by
  have hz := zero_plc
  have hbd := build_plc
  go_enter Try.func114, Try.ntmps114
  go_wp2_with (first | (refine wpList_store_row rfl 70 _ _ rfl _ rfl _ rfl inf_plc _ _ (blk_new _ _ _ _ (by simp)) (by simp [bys_size]) (flat_bys _) ?_))
  clear hz hbd
  go_loopw [8] (fun i wr => ∃ k : Nat, (k : Int) ≤ 10 ∧ i = .int .i64 k ∧ Below w.heap.size w wr ∧ blk wr (w.heap.size) (sqs n t) 43 ∧ blk wr (w.heap.size + 1) (bys fun _ => 0) 70 ∧ blk wr (w.heap.size + 1 + 1) (bys (clTo t y k)) 70) (fun i _ => (10 - intOf i).toNat)
  case atStart => exact ⟨0, by omega, rfl, below_put ((((Below.refl _ _).alloc (by first | (simp; done) | (simp; omega)) _).alloc (by first | (simp; done) | (simp; omega)) _).alloc (by first | (simp; done) | (simp; omega)) _) (by omega) _ _, blk_put_other (by repeat (first | (refine blk_new _ _ _ _ ?_; (simp; done)) | apply blk.alloc)) (by omega), blk_put_other (by repeat (first | (refine blk_new _ _ _ _ ?_; (simp; done)) | apply blk.alloc)) (by omega), (blk_put (blk_new _ _ _ _ (by simp)) _).eq (bys_ext fun i hi => by simp [clTo])⟩
  case round =>
    obtain ⟨k, hk, rfl, hB, b0, br, bo⟩ := hrel
    by_cases hlt : (k : Int) < 10
    · have c0 := b0.cell _ _ (sqs_get (n := n) (t := t) (x := k) (y := y) (by omega) hy)
      have fo := bo.free (k)
      have co := bo.cell (k) _ (bys_get (by omega))
      go_wp2
      go_roundw
      case rel => exact ⟨k + 1, by omega, by go_num, hB.setCell (by first | (simp; done) | (simp; omega)) _, b0.other _ _ (by omega), br.other _ _ (by omega), (bo.set _ _).eq (clTo_set t y k)⟩
      case measure => simp [intOf]; omega
    · obtain rfl : k = 10 := by omega
      rw [bys_ext (g := fun x => t x y) (clTo_all t y)] at bo
      go_wp2_with (first | (refine wpList_load_part rfl 70 _ rfl _ _ rfl (bys (fun x => t x y)) _ und_plc rfl inf_plc (cells_of_blk0 bo) ?_) | (refine wpList_store_row rfl 70 _ _ rfl _ rfl _ rfl inf_plc _ _ (br) (by simp [bys_size]) (flat_bys _) ?_))
      refine bodyPost_ret (v := .agg (bys (fun x => t x y))) (by exact results_part rfl _ _ _ _ _ _ rfl und_plc rfl inf_plc (cells_of_blk0 (blk_put br _))) rfl ?_
      exact ⟨rfl, below_put hB (by omega) _ _⟩

set_option maxRecDepth 100000 in
set_option maxHeartbeats 1000000 in
theorem l01Column_any (n : Int) (t : Nat → Nat → Nat) (y : Nat) (w : World) (h0 : 0 ≤ n) (h1 : n ≤ 10) (hy : y < 10) :
    Calls Try.prog 125 #[.agg (sqs n t), .int .u8 y] w fun e w' => e = .returned (.agg (bys (clTo t y n.toNat))) ∧ Below w.heap.size w w' := by
  have hz := zero_plc
  have hbd := build_plc
  go_enter Try.func125, Try.ntmps125
  go_wp2_with (first | (refine wpList_store_row rfl 70 _ _ rfl _ rfl _ rfl inf_plc _ _ (blk_new _ _ _ _ (by simp)) (by simp [bys_size]) (flat_bys _) ?_))
  clear hz hbd
  go_loopw [6] (fun i wr => ∃ k : Nat, (k : Int) ≤ n ∧ i = .int .i64 k ∧ Below w.heap.size w wr ∧ blk wr (w.heap.size) (sqs n t) 43 ∧ blk wr (w.heap.size + 1) (bys fun _ => 0) 70 ∧ blk wr (w.heap.size + 1 + 1) (bys (clTo t y k)) 70) (fun i _ => (n - intOf i).toNat)
  case atStart => exact ⟨0, by omega, rfl, below_put ((((Below.refl _ _).alloc (by first | (simp; done) | (simp; omega)) _).alloc (by first | (simp; done) | (simp; omega)) _).alloc (by first | (simp; done) | (simp; omega)) _) (by omega) _ _, blk_put_other (by repeat (first | (refine blk_new _ _ _ _ ?_; (simp; done)) | apply blk.alloc)) (by omega), blk_put_other (by repeat (first | (refine blk_new _ _ _ _ ?_; (simp; done)) | apply blk.alloc)) (by omega), (blk_put (blk_new _ _ _ _ (by simp)) _).eq (bys_ext fun i hi => by simp [clTo])⟩
  case round =>
    obtain ⟨k, hk, rfl, hB, b0, br, bo⟩ := hrel
    by_cases hlt : (k : Int) < n
    · have cn := b0.cell _ _ (sqs_order n t)
      have c0 := b0.cell _ _ (sqs_get (n := n) (t := t) (x := k) (y := y) (by omega) hy)
      have fo := bo.free (k)
      have co := bo.cell (k) _ (bys_get (by omega))
      go_wp2
      go_roundw
      case rel => exact ⟨k + 1, by omega, by go_num, hB.setCell (by first | (simp; done) | (simp; omega)) _, b0.other _ _ (by omega), br.other _ _ (by omega), (bo.set _ _).eq (clTo_set t y k)⟩
      case measure => simp [intOf]; omega
    · have cn := b0.cell _ _ (sqs_order n t)
      have hkn : k = n.toNat := by omega
      subst hkn
      go_wp2_with (first | (refine wpList_load_part rfl 70 _ rfl _ _ rfl (bys (clTo t y n.toNat)) _ und_plc rfl inf_plc (cells_of_blk0 bo) ?_) | (refine wpList_store_row rfl 70 _ _ rfl _ rfl _ rfl inf_plc _ _ (br) (by simp [bys_size]) (flat_bys _) ?_))
      refine bodyPost_ret (v := .agg (bys (clTo t y n.toNat))) (by exact results_part rfl _ _ _ _ _ _ rfl und_plc rfl inf_plc (cells_of_blk0 (blk_put br _))) rfl ?_
      exact ⟨rfl, below_put hB (by omega) _ _⟩

set_option maxRecDepth 100000 in
set_option maxHeartbeats 1000000 in
theorem row_any (n : Int) (t : Nat → Nat → Nat) (x : Nat) (w : World) (hx : x < 10) :
    Calls Try.prog 115 #[.agg (sqs n t), .int .u8 x] w fun e w' => e = .returned (.agg (bys (t x))) ∧ Below w.heap.size w w' := by
  have hz := zero_plc
  have b1 := (blk_new w (sqs n t) 43 w.heap.size rfl).alloc (.cells (bys fun _ => 0) 70)
  have b2 := blk_new (w.alloc (.cells (sqs n t) 43)) (bys fun _ => 0) 70 (w.heap.size + 1) (by simp)
  go_enter Try.func115, Try.ntmps115
  go_wp2_with (first | (refine wpList_load_part rfl 36 _ rfl _ _ rfl (bys (t x)) _ und_bys rfl inf_bys (cells_of_blk b1 _ _ (sqs_row hx)) ?_) | (refine wpList_store_row rfl 70 _ _ rfl _ rfl _ rfl inf_plc _ _ (b2) (by simp [bys_size]) (flat_bys _) ?_))
  refine bodyPost_ret (v := .agg (bys (t x))) (by exact results_part rfl _ _ _ _ _ _ rfl und_plc rfl inf_plc (cells_of_blk0 (blk_put b2 _))) rfl ?_
  exact ⟨rfl, below_put (((Below.refl _ _).alloc (by simp) _).alloc (by simp) _) (by omega) _ _⟩

set_option maxRecDepth 100000 in
set_option maxHeartbeats 1000000 in
theorem l01Row_any (n : Int) (t : Nat → Nat → Nat) (x : Nat) (w : World) (hx : x < 10) :
    Calls Try.prog 126 #[.agg (sqs n t), .int .u8 x] w fun e w' => e = .returned (.agg (bys (t x))) ∧ Below w.heap.size w w' := by
  have hz := zero_plc
  have b1 := (blk_new w (sqs n t) 43 w.heap.size rfl).alloc (.cells (bys fun _ => 0) 70)
  have b2 := blk_new (w.alloc (.cells (sqs n t) 43)) (bys fun _ => 0) 70 (w.heap.size + 1) (by simp)
  go_enter Try.func126, Try.ntmps126
  go_wp2_with (first | (refine wpList_load_part rfl 36 _ rfl _ _ rfl (bys (t x)) _ und_bys rfl inf_bys (cells_of_blk b1 _ _ (sqs_row hx)) ?_) | (refine wpList_store_row rfl 70 _ _ rfl _ rfl _ rfl inf_plc _ _ (b2) (by simp [bys_size]) (flat_bys _) ?_))
  refine bodyPost_ret (v := .agg (bys (t x))) (by exact results_part rfl _ _ _ _ _ _ rfl und_plc rfl inf_plc (cells_of_blk0 (blk_put b2 _))) rfl ?_
  exact ⟨rfl, below_put (((Below.refl _ _).alloc (by simp) _).alloc (by simp) _) (by omega) _ _⟩
end Go.Proofs.Ytinjjaoikofkdaa
