/- The triple that leads a square to its loop at two elements: contracts. -/
import Derived.Test.YtinjjaoikofkdaaC10
namespace Go.Proofs.Ytinjjaoikofkdaa
set_option linter.unusedSimpArgs false
set_option linter.unusedVariables false
open Go.RowKit
theorem xch_set (N e : Nat) : (bys fun j => if j = 0 then e else idTo N j).setIfInBounds e (.int .u8 ((0 : Nat) : Int)) = bys (xch N e) := bys_set _ _ _

set_option maxRecDepth 100000 in
set_option maxHeartbeats 600000 in
theorem toLoop_any (n : Int) (t : Nat → Nat → Nat) (a b : Nat) (w : World) (h0 : 0 ≤ n) (h1 : n ≤ 10) (ha : a < 10) (hb : b < 10) (hlt : ∀ x y : Nat, x < 10 → y < 10 → t x y < 10) :
    Calls Try.prog 95 #[.agg (sqs n t), .int .u8 a, .int .u8 b] w fun e w' => e = .returned (.agg (trs (thTo (fun x => t x b) (xch n.toNat (t a b)) n.toNat) (thTo (t a) (xch n.toNat (t a b)) n.toNat) (xch n.toNat (t a b)))) ∧ Below w.heap.size w w' := by
  have hz := zero_trp
  have hz2 := zero_plc
  have HL := Hid2.mk hlt
  have he := hlt a b ha hb
  clear hlt
  have hB := ((Below.refl w.heap.size w).alloc (by simp) (.cells (sqs n t) 43)).alloc (by simp) (.cells (trs (fun _ => 0) (fun _ => 0) (fun _ => 0)) 122)
  have a1 := (blk_new w (sqs n t) 43 w.heap.size rfl).alloc (.cells (trs (fun _ => 0) (fun _ => 0) (fun _ => 0)) 122)
  have a2 := blk_new (w.alloc (.cells (sqs n t) 43)) (trs (fun _ => 0) (fun _ => 0) (fun _ => 0)) 122 (w.heap.size + 1) (by simp)
  have so := sqs_order n t
  go_enter Try.func95, Try.ntmps95
  go_wp2
  apply wp_region_text (fun w' => Below w.heap.size w w' ∧ blk w' w.heap.size (sqs n t) 43 ∧ blk w' (w.heap.size + 1) (trs (fun _ => 0) (fun _ => 0) (fun _ => 0)) 122) (by kernel_rfl) (by kernel_rfl) (⟨hB.drew, a1.drew, a2.drew⟩); (repeat (first | exact wpText_nil | (apply wpText_cons; (intro w2 hS; obtain ⟨hB2, b1, b2⟩ := hS; have c0 := b1.cell _ _ (sqs_order n t) ; have c1 := b1.cell _ _ (sqs_get (n := n) (t := t) (x := a) (y := b) ha hb); go_wp2; (first | exact ⟨rfl, rfl, hB2, b1, b2⟩)); rfl)))
  intro w0 hS
  clear hB a1 a2
  obtain ⟨hB, a1, a2⟩ := hS
  go_wp2_with (first | (go_at_call 112; ((with_reducible refine (identity_any _ _ h0 h1).mono ?_); rintro e w1 ⟨rfl, hbi⟩; have a3 := a1.later hbi; have a4 := a2.later hbi; have hq3 := a3.lt; have hq4 := a4.lt; have a5 := blk_new w1 (bys fun _ => 0) 70 w1.heap.size rfl; have a6 := blk_put a5 (cs' := bys (idTo n.toNat)) 70; have cc0 := a6.cell 0 _ (bys_get (by omega)); have cf0 := a6.free 0; have a7 := (a6.set 0 (.int .u8 (t a b))).eq (bys_set _ _ _); have cf1 := a7.free (t a b); have cc1 := a7.cell (t a b) _ (bys_get he); have a8 := blk_put_other (a3.alloc (.cells (bys fun _ => 0) 70)) (c := w1.heap.size) (cs' := bys (idTo n.toNat)) (t' := 70) (by omega); have a9 := blk_put_other (a4.alloc (.cells (bys fun _ => 0) 70)) (c := w1.heap.size) (cs' := bys (idTo n.toNat)) (t' := 70) (by omega); have c1 := a8.cell _ _ (sqs_get (n := n) (t := t) (x := a) (y := b) ha hb); have e1 := ((a8.other 0 (.int .u8 (t a b)) (c := w1.heap.size) (by omega)).other (t a b) (.int .u8 ((0 : Nat) : Int)) (c := w1.heap.size) (by omega)).drew; have e2 := ((a9.other 0 (.int .u8 (t a b)) (c := w1.heap.size) (by omega)).other (t a b) (.int .u8 ((0 : Nat) : Int)) (c := w1.heap.size) (by omega)).drew; have e3 := ((a7.set (t a b) (.int .u8 ((0 : Nat) : Int))).eq (xch_set _ _)).drew; have hBs := (below_self hB hbi).size; have e4 := ((((below_put ((below_self hB hbi).alloc (below_self hB hbi).size (.cells (bys fun _ => 0) 70)) (b := w1.heap.size) (by omega) (bys (idTo n.toNat)) 70).setCell (p := ⟨w1.heap.size, 0, none⟩) (by simp; omega) (.int .u8 (t a b))).setCell (p := ⟨w1.heap.size, t a b, none⟩) (by simp; omega) (.int .u8 ((0 : Nat) : Int))).drew))) | (refine wpList_store_row rfl 70 _ _ rfl _ rfl _ rfl inf_plc _ _ (a5) (by simp [bys_size]) (flat_bys _) ?_))
  clear cc0 cf0 cf1 cc1 c1 so
  apply wp_region_text_tail 14 (fun w' => Below w.heap.size w w' ∧ blk w' w.heap.size (sqs n t) 43 ∧ blk w' w1.heap.size (bys (xch n.toNat (t a b))) 70 ∧ blk w' (w.heap.size + 1) (trs (fun _ => 0) (fun _ => 0) (fun _ => 0)) 122) (by kernel_rfl) (by kernel_rfl) (⟨e4, e1, e3, e2⟩); (simp only [List.take_succ_cons, List.take_zero]; repeat (first | exact wpText_nil | (apply wpText_cons; (intro w2 hS; obtain ⟨hB2, b1, b2, b3⟩ := hS; go_wp2_with (first | (refine wpList_load_part rfl 43 _ rfl (w.heap.size) (0) rfl (sqs n t) _ und_sqs rfl inf_sqs (cells_of_blk0 b1) ?_) | (refine wpList_load_part rfl 70 _ rfl (w1.heap.size) (0) rfl (bys (xch n.toNat (t a b))) _ und_plc rfl inf_plc (cells_of_blk0 b2) ?_) | (go_at_call 114; ((with_reducible refine (column_any n t b _ hb).mono ?_); rintro e w4 ⟨rfl, hb4⟩)) | (go_at_call 115; ((with_reducible refine (row_any n t a _ ha).mono ?_); rintro e w4 ⟨rfl, hb4⟩)) | (go_at_call 113; ((with_reducible refine (then_any (fun x => t x b) _ n _ h0 h1 (fun i hi => HL.out i b (by omega) hb)).mono ?_); rintro e w4 ⟨rfl, hb4⟩)) | (go_at_call 113; ((with_reducible refine (then_any (t a) _ n _ h0 h1 (fun i hi => HL.out a i ha (by omega))).mono ?_); rintro e w4 ⟨rfl, hb4⟩)) | (refine wpList_build 122 _ rfl rfl [(0, .agg (bys (thTo (fun x => t x b) (xch n.toNat (t a b)) n.toNat))), (1, .agg (bys (thTo (t a) (xch n.toNat (t a b)) n.toNat))), (2, .agg (bys (xch n.toNat (t a b))))] rfl _ (build_trp _ _ _ _) ?_)); (first | exact ⟨rfl, rfl, hB2, b1, b2, b3⟩ | exact ⟨rfl, rfl, below_self hB2 hb4, b1.later hb4, b2.later hb4, b3.later hb4⟩)); rfl)))
  (intro w2 hS; simp only [List.drop_succ_cons, List.drop_zero]; obtain ⟨hB2, b1, b2, b3⟩ := hS)
  go_wp2_with (first | (refine wpList_store_row rfl 122 _ _ rfl _ rfl _ rfl inf_trp _ _ (b3) (by simp [trs_size]) (flat_trs _ _ _) ?_))
  refine bodyPost_ret (v := .agg (trs (thTo (fun x => t x b) (xch n.toNat (t a b)) n.toNat) (thTo (t a) (xch n.toNat (t a b)) n.toNat) (xch n.toNat (t a b)))) (by exact results_part rfl _ _ _ _ _ _ rfl und_trp rfl inf_trp (cells_of_blk0 (blk_put b3 _))) rfl ?_
  exact ⟨rfl, below_put hB2 (by omega) _ _⟩

set_option maxRecDepth 100000 in
set_option maxHeartbeats 600000 in
theorem l02To_any (n : Int) (t : Nat → Nat → Nat) (a b : Nat) (w : World) (h0 : 0 ≤ n) (h1 : n ≤ 10) (ha : a < 10) (hb : b < 10) (hlt : ∀ x y : Nat, x < 10 → y < 10 → t x y < 10) :
    Calls Try.prog 110 #[.agg (sqs n t), .int .u8 a, .int .u8 b] w fun e w' => e = .returned (.agg (trs (thTo (fun x => t x b) (xch n.toNat (t a b)) n.toNat) (thTo (t a) (xch n.toNat (t a b)) n.toNat) (xch n.toNat (t a b)))) ∧ Below w.heap.size w w' := by
  have hz := zero_trp
  have hz2 := zero_plc
  have HL := Hid2.mk hlt
  have he := hlt a b ha hb
  clear hlt
  have hB := ((Below.refl w.heap.size w).alloc (by simp) (.cells (sqs n t) 43)).alloc (by simp) (.cells (trs (fun _ => 0) (fun _ => 0) (fun _ => 0)) 122)
  have a1 := (blk_new w (sqs n t) 43 w.heap.size rfl).alloc (.cells (trs (fun _ => 0) (fun _ => 0) (fun _ => 0)) 122)
  have a2 := blk_new (w.alloc (.cells (sqs n t) 43)) (trs (fun _ => 0) (fun _ => 0) (fun _ => 0)) 122 (w.heap.size + 1) (by simp)
  have so := sqs_order n t
  go_enter Try.func110, Try.ntmps110
  go_wp2_with (first | (go_at_call 123; ((with_reducible refine (l01Same_any _ _ h0 h1).mono ?_); rintro e w1 ⟨rfl, hbi⟩; have a3 := a1.later hbi; have a4 := a2.later hbi; have hq3 := a3.lt; have hq4 := a4.lt; have a5 := blk_new w1 (bys fun _ => 0) 70 w1.heap.size rfl; have a6 := blk_put a5 (cs' := bys (idTo n.toNat)) 70; have cc0 := a6.cell 0 _ (bys_get (by omega)); have cf0 := a6.free 0; have a7 := (a6.set 0 (.int .u8 (t a b))).eq (bys_set _ _ _); have cf1 := a7.free (t a b); have cc1 := a7.cell (t a b) _ (bys_get he); have a8 := blk_put_other (a3.alloc (.cells (bys fun _ => 0) 70)) (c := w1.heap.size) (cs' := bys (idTo n.toNat)) (t' := 70) (by omega); have a9 := blk_put_other (a4.alloc (.cells (bys fun _ => 0) 70)) (c := w1.heap.size) (cs' := bys (idTo n.toNat)) (t' := 70) (by omega); have c1 := a8.cell _ _ (sqs_get (n := n) (t := t) (x := a) (y := b) ha hb); have e1 := ((a8.other 0 (.int .u8 (t a b)) (c := w1.heap.size) (by omega)).other (t a b) (.int .u8 ((0 : Nat) : Int)) (c := w1.heap.size) (by omega)).drew; have e2 := ((a9.other 0 (.int .u8 (t a b)) (c := w1.heap.size) (by omega)).other (t a b) (.int .u8 ((0 : Nat) : Int)) (c := w1.heap.size) (by omega)).drew; have e3 := ((a7.set (t a b) (.int .u8 ((0 : Nat) : Int))).eq (xch_set _ _)).drew; have hBs := (below_self hB hbi).size; have e4 := ((((below_put ((below_self hB hbi).alloc (below_self hB hbi).size (.cells (bys fun _ => 0) 70)) (b := w1.heap.size) (by omega) (bys (idTo n.toNat)) 70).setCell (p := ⟨w1.heap.size, 0, none⟩) (by simp; omega) (.int .u8 (t a b))).setCell (p := ⟨w1.heap.size, t a b, none⟩) (by simp; omega) (.int .u8 ((0 : Nat) : Int))).drew))) | (refine wpList_store_row rfl 70 _ _ rfl _ rfl _ rfl inf_plc _ _ (a5) (by simp [bys_size]) (flat_bys _) ?_))
  clear cc0 cf0 cf1 cc1 c1 so
  apply wp_region_text_tail 14 (fun w' => Below w.heap.size w w' ∧ blk w' w.heap.size (sqs n t) 43 ∧ blk w' w1.heap.size (bys (xch n.toNat (t a b))) 70 ∧ blk w' (w.heap.size + 1) (trs (fun _ => 0) (fun _ => 0) (fun _ => 0)) 122) (by kernel_rfl) (by kernel_rfl) (⟨e4, e1, e3, e2⟩); (simp only [List.take_succ_cons, List.take_zero]; repeat (first | exact wpText_nil | (apply wpText_cons; (intro w2 hS; obtain ⟨hB2, b1, b2, b3⟩ := hS; go_wp2_with (first | (refine wpList_load_part rfl 43 _ rfl (w.heap.size) (0) rfl (sqs n t) _ und_sqs rfl inf_sqs (cells_of_blk0 b1) ?_) | (refine wpList_load_part rfl 70 _ rfl (w1.heap.size) (0) rfl (bys (xch n.toNat (t a b))) _ und_plc rfl inf_plc (cells_of_blk0 b2) ?_) | (go_at_call 125; ((with_reducible refine (l01Column_any n t b _ h0 h1 hb).mono ?_); rintro e w4 ⟨rfl, hb4⟩)) | (go_at_call 126; ((with_reducible refine (l01Row_any n t a _ ha).mono ?_); rintro e w4 ⟨rfl, hb4⟩)) | (go_at_call 124; ((with_reducible refine (l01Then_any (clTo t b n.toNat) _ n _ h0 h1 (fun i hi => by unfold clTo; rw [if_pos (by omega)]; exact HL.out i b (by omega) hb)).mono ?_); rintro e w4 ⟨rfl, hb4⟩)) | (go_at_call 124; ((with_reducible refine (l01Then_any (t a) _ n _ h0 h1 (fun i hi => HL.out a i ha (by omega))).mono ?_); rintro e w4 ⟨rfl, hb4⟩)) | (refine wpList_build 122 _ rfl rfl [(0, .agg (bys (thTo (clTo t b n.toNat) (xch n.toNat (t a b)) n.toNat))), (1, .agg (bys (thTo (t a) (xch n.toNat (t a b)) n.toNat))), (2, .agg (bys (xch n.toNat (t a b))))] rfl _ (build_trp _ _ _ _) ?_)); (first | exact ⟨rfl, rfl, hB2, b1, b2, b3⟩ | exact ⟨rfl, rfl, below_self hB2 hb4, b1.later hb4, b2.later hb4, b3.later hb4⟩)); rfl)))
  (intro w2 hS; simp only [List.drop_succ_cons, List.drop_zero]; obtain ⟨hB2, b1, b2, b3⟩ := hS)
  go_wp2_with (first | (refine wpList_store_row rfl 122 _ _ rfl _ rfl _ rfl inf_trp _ _ (b3) (by simp [trs_size]) (flat_trs _ _ _) ?_))
  refine bodyPost_ret (v := .agg (trs (thTo (clTo t b n.toNat) (xch n.toNat (t a b)) n.toNat) (thTo (t a) (xch n.toNat (t a b)) n.toNat) (xch n.toNat (t a b)))) (by exact results_part rfl _ _ _ _ _ _ rfl und_trp rfl inf_trp (cells_of_blk0 (blk_put b3 _))) rfl ?_
  exact ⟨ret_agg (trs_ext (fun i _ => by unfold thTo clTo; split <;> simp [*]) (fun _ _ => rfl) (fun _ _ => rfl)), below_put hB2 (by omega) _ _⟩
end Go.Proofs.Ytinjjaoikofkdaa
