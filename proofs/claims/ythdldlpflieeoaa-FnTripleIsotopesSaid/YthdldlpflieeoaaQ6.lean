/- The triple that leads a square to its loop at two elements: contracts. -/
import Derived.Test.YthdldlpflieeoaaQ3
import Derived.Test.YthdldlpflieeoaaQ5
import Derived.Test.YthdldlpflieeoaaQ2
import Derived.Test.YthdldlpflieeoaaQ4
import Derived.Test.YthdldlpflieeoaaQ1
import Derived.Test.YthdldlpflieeoaaRows
import Derived.ProofKit
import Derived.OpenShut
import Derived.ChangeOld
import Derived.Below
import Derived.Carry
namespace Go.Proofs.Ythdldlpflieeoaa
set_option linter.unusedSimpArgs false
set_option linter.unusedVariables false
open Go.RowKit
theorem xch_set (N e : Nat) : (bys fun j => if j = 0 then e else idTo N j).setIfInBounds e (.int .u8 ((0 : Nat) : Int)) = bys (xch N e) := bys_set _ _ _

set_option maxRecDepth 100000 in
set_option maxHeartbeats 600000 in
theorem toLoop_any (n : Int) (t : Nat → Nat → Nat) (a b : Nat) (w : World) (h0 : 0 ≤ n) (h1 : n ≤ 10) (ha : a < 10) (hb : b < 10) (hlt : ∀ x y : Nat, x < 10 → y < 10 → t x y < 10) :
    Calls Try.prog 169 #[.agg (sqs n t), .int .u8 a, .int .u8 b] w fun e w' => e = .returned (.agg (trs (thTo (fun x => t x b) (xch n.toNat (t a b)) n.toNat) (thTo (t a) (xch n.toNat (t a b)) n.toNat) (xch n.toNat (t a b)))) ∧ Below w.heap.size w w' := by
  have hz := zero_trp
  have hz2 := zero_plc
  have HL := Hid2.mk hlt
  have he := hlt a b ha hb
  clear hlt
  have hB := ((Below.refl w.heap.size w).alloc (by simp) (.cells (sqs n t) 37)).alloc (by simp) (.cells (trs (fun _ => 0) (fun _ => 0) (fun _ => 0)) 46)
  have a1 := (blk_new w (sqs n t) 37 w.heap.size rfl).alloc (.cells (trs (fun _ => 0) (fun _ => 0) (fun _ => 0)) 46)
  have a2 := blk_new (w.alloc (.cells (sqs n t) 37)) (trs (fun _ => 0) (fun _ => 0) (fun _ => 0)) 46 (w.heap.size + 1) (by simp)
  have so := sqs_order n t
  go_enter Try.func169, Try.ntmps169
  go_wp2
  apply wp_region_text (fun w' => Below w.heap.size w w' ∧ blk w' w.heap.size (sqs n t) 37 ∧ blk w' (w.heap.size + 1) (trs (fun _ => 0) (fun _ => 0) (fun _ => 0)) 46) (by kernel_rfl) (by kernel_rfl) (⟨hB.drew, a1.drew, a2.drew⟩); (repeat (first | exact wpText_nil | (apply wpText_cons; (intro w2 hS; obtain ⟨hB2, b1, b2⟩ := hS; have c0 := b1.cell _ _ (sqs_order n t) ; have c1 := b1.cell _ _ (sqs_get (n := n) (t := t) (x := a) (y := b) ha hb); go_wp2; (first | exact ⟨rfl, rfl, hB2, b1, b2⟩)); rfl)))
  intro w0 hS
  clear hB a1 a2
  obtain ⟨hB, a1, a2⟩ := hS
  go_wp2_with (first | (go_at_call 256; ((with_reducible refine (identity_any _ _ h0 h1).mono ?_); rintro e w1 ⟨rfl, hbi⟩; have a3 := a1.later hbi; have a4 := a2.later hbi; have hq3 := a3.lt; have hq4 := a4.lt; have a5 := blk_new w1 (bys fun _ => 0) 25 w1.heap.size rfl; have a6 := blk_put a5 (cs' := bys (idTo n.toNat)) 25; have cc0 := a6.cell 0 _ (bys_get (by omega)); have cf0 := a6.free 0; have a7 := (a6.set 0 (.int .u8 (t a b))).eq (bys_set _ _ _); have cf1 := a7.free (t a b); have cc1 := a7.cell (t a b) _ (bys_get he); have a8 := blk_put_other (a3.alloc (.cells (bys fun _ => 0) 25)) (c := w1.heap.size) (cs' := bys (idTo n.toNat)) (t' := 25) (by omega); have a9 := blk_put_other (a4.alloc (.cells (bys fun _ => 0) 25)) (c := w1.heap.size) (cs' := bys (idTo n.toNat)) (t' := 25) (by omega); have c1 := a8.cell _ _ (sqs_get (n := n) (t := t) (x := a) (y := b) ha hb); have e1 := ((a8.other 0 (.int .u8 (t a b)) (c := w1.heap.size) (by omega)).other (t a b) (.int .u8 ((0 : Nat) : Int)) (c := w1.heap.size) (by omega)).drew; have e2 := ((a9.other 0 (.int .u8 (t a b)) (c := w1.heap.size) (by omega)).other (t a b) (.int .u8 ((0 : Nat) : Int)) (c := w1.heap.size) (by omega)).drew; have e3 := ((a7.set (t a b) (.int .u8 ((0 : Nat) : Int))).eq (xch_set _ _)).drew; have hBs := (below_self hB hbi).size; have e4 := ((((below_put ((below_self hB hbi).alloc (below_self hB hbi).size (.cells (bys fun _ => 0) 25)) (b := w1.heap.size) (by omega) (bys (idTo n.toNat)) 25).setCell (p := ⟨w1.heap.size, 0, none⟩) (by simp; omega) (.int .u8 (t a b))).setCell (p := ⟨w1.heap.size, t a b, none⟩) (by simp; omega) (.int .u8 ((0 : Nat) : Int))).drew))) | (refine wpList_store_row rfl 25 _ _ rfl _ rfl _ rfl inf_plc _ _ (a5) (by simp [bys_size]) (flat_bys _) ?_))
  clear cc0 cf0 cf1 cc1 c1 so
  apply wp_region_text_tail 14 (fun w' => Below w.heap.size w w' ∧ blk w' w.heap.size (sqs n t) 37 ∧ blk w' w1.heap.size (bys (xch n.toNat (t a b))) 25 ∧ blk w' (w.heap.size + 1) (trs (fun _ => 0) (fun _ => 0) (fun _ => 0)) 46) (by kernel_rfl) (by kernel_rfl) (⟨e4, e1, e3, e2⟩); (simp only [List.take_succ_cons, List.take_zero]; repeat (first | exact wpText_nil | (apply wpText_cons; (intro w2 hS; obtain ⟨hB2, b1, b2, b3⟩ := hS; go_wp2_with (first | (refine wpList_load_part rfl 37 _ rfl (w.heap.size) (0) rfl (sqs n t) _ und_sqs rfl inf_sqs (cells_of_blk0 b1) ?_) | (refine wpList_load_part rfl 25 _ rfl (w1.heap.size) (0) rfl (bys (xch n.toNat (t a b))) _ und_plc rfl inf_plc (cells_of_blk0 b2) ?_) | (go_at_call 237; ((with_reducible refine (column_any n t b _ hb).mono ?_); rintro e w4 ⟨rfl, hb4⟩)) | (go_at_call 236; ((with_reducible refine (row_any n t a _ ha).mono ?_); rintro e w4 ⟨rfl, hb4⟩)) | (go_at_call 135; ((with_reducible refine (then_any (fun x => t x b) _ n _ h0 h1 (fun i hi => HL.out i b (by omega) hb)).mono ?_); rintro e w4 ⟨rfl, hb4⟩)) | (go_at_call 135; ((with_reducible refine (then_any (t a) _ n _ h0 h1 (fun i hi => HL.out a i ha (by omega))).mono ?_); rintro e w4 ⟨rfl, hb4⟩)) | (refine wpList_build 46 _ rfl rfl [(0, .agg (bys (thTo (fun x => t x b) (xch n.toNat (t a b)) n.toNat))), (1, .agg (bys (thTo (t a) (xch n.toNat (t a b)) n.toNat))), (2, .agg (bys (xch n.toNat (t a b))))] rfl _ (build_trp _ _ _ _) ?_)); (first | exact ⟨rfl, rfl, hB2, b1, b2, b3⟩ | exact ⟨rfl, rfl, below_self hB2 hb4, b1.later hb4, b2.later hb4, b3.later hb4⟩)); rfl)))
  (intro w2 hS; simp only [List.drop_succ_cons, List.drop_zero]; obtain ⟨hB2, b1, b2, b3⟩ := hS)
  go_wp2_with (first | (refine wpList_store_row rfl 46 _ _ rfl _ rfl _ rfl inf_trp _ _ (b3) (by simp [trs_size]) (flat_trs _ _ _) ?_))
  refine bodyPost_ret (v := .agg (trs (thTo (fun x => t x b) (xch n.toNat (t a b)) n.toNat) (thTo (t a) (xch n.toNat (t a b)) n.toNat) (xch n.toNat (t a b)))) (by exact results_part rfl _ _ _ _ _ _ rfl und_trp rfl inf_trp (cells_of_blk0 (blk_put b3 _))) rfl ?_
  exact ⟨rfl, below_put hB2 (by omega) _ _⟩

set_option maxRecDepth 100000 in
set_option maxHeartbeats 600000 in
theorem l02To_any (n : Int) (t : Nat → Nat → Nat) (a b : Nat) (w : World) (h0 : 0 ≤ n) (h1 : n ≤ 10) (ha : a < 10) (hb : b < 10) (hlt : ∀ x y : Nat, x < 10 → y < 10 → t x y < 10) :
    Calls Try.prog 170 #[.agg (sqs n t), .int .u8 a, .int .u8 b] w fun e w' => e = .returned (.agg (trs (thTo (fun x => t x b) (xch n.toNat (t a b)) n.toNat) (thTo (t a) (xch n.toNat (t a b)) n.toNat) (xch n.toNat (t a b)))) ∧ Below w.heap.size w w' := by
  have hz := zero_trp
  have hz2 := zero_plc
  have HL := Hid2.mk hlt
  have he := hlt a b ha hb
  clear hlt
  have hB := ((Below.refl w.heap.size w).alloc (by simp) (.cells (sqs n t) 37)).alloc (by simp) (.cells (trs (fun _ => 0) (fun _ => 0) (fun _ => 0)) 46)
  have a1 := (blk_new w (sqs n t) 37 w.heap.size rfl).alloc (.cells (trs (fun _ => 0) (fun _ => 0) (fun _ => 0)) 46)
  have a2 := blk_new (w.alloc (.cells (sqs n t) 37)) (trs (fun _ => 0) (fun _ => 0) (fun _ => 0)) 46 (w.heap.size + 1) (by simp)
  have so := sqs_order n t
  go_enter Try.func170, Try.ntmps170
  go_wp2_with (first | (go_at_call 204; ((with_reducible refine (l01Same_any _ _ h0 h1).mono ?_); rintro e w1 ⟨rfl, hbi⟩; have a3 := a1.later hbi; have a4 := a2.later hbi; have hq3 := a3.lt; have hq4 := a4.lt; have a5 := blk_new w1 (bys fun _ => 0) 25 w1.heap.size rfl; have a6 := blk_put a5 (cs' := bys (idTo n.toNat)) 25; have cc0 := a6.cell 0 _ (bys_get (by omega)); have cf0 := a6.free 0; have a7 := (a6.set 0 (.int .u8 (t a b))).eq (bys_set _ _ _); have cf1 := a7.free (t a b); have cc1 := a7.cell (t a b) _ (bys_get he); have a8 := blk_put_other (a3.alloc (.cells (bys fun _ => 0) 25)) (c := w1.heap.size) (cs' := bys (idTo n.toNat)) (t' := 25) (by omega); have a9 := blk_put_other (a4.alloc (.cells (bys fun _ => 0) 25)) (c := w1.heap.size) (cs' := bys (idTo n.toNat)) (t' := 25) (by omega); have c1 := a8.cell _ _ (sqs_get (n := n) (t := t) (x := a) (y := b) ha hb); have e1 := ((a8.other 0 (.int .u8 (t a b)) (c := w1.heap.size) (by omega)).other (t a b) (.int .u8 ((0 : Nat) : Int)) (c := w1.heap.size) (by omega)).drew; have e2 := ((a9.other 0 (.int .u8 (t a b)) (c := w1.heap.size) (by omega)).other (t a b) (.int .u8 ((0 : Nat) : Int)) (c := w1.heap.size) (by omega)).drew; have e3 := ((a7.set (t a b) (.int .u8 ((0 : Nat) : Int))).eq (xch_set _ _)).drew; have hBs := (below_self hB hbi).size; have e4 := ((((below_put ((below_self hB hbi).alloc (below_self hB hbi).size (.cells (bys fun _ => 0) 25)) (b := w1.heap.size) (by omega) (bys (idTo n.toNat)) 25).setCell (p := ⟨w1.heap.size, 0, none⟩) (by simp; omega) (.int .u8 (t a b))).setCell (p := ⟨w1.heap.size, t a b, none⟩) (by simp; omega) (.int .u8 ((0 : Nat) : Int))).drew))) | (refine wpList_store_row rfl 25 _ _ rfl _ rfl _ rfl inf_plc _ _ (a5) (by simp [bys_size]) (flat_bys _) ?_))
  clear cc0 cf0 cf1 cc1 c1 so
  apply wp_region_text_tail 14 (fun w' => Below w.heap.size w w' ∧ blk w' w.heap.size (sqs n t) 37 ∧ blk w' w1.heap.size (bys (xch n.toNat (t a b))) 25 ∧ blk w' (w.heap.size + 1) (trs (fun _ => 0) (fun _ => 0) (fun _ => 0)) 46) (by kernel_rfl) (by kernel_rfl) (⟨e4, e1, e3, e2⟩); (simp only [List.take_succ_cons, List.take_zero]; repeat (first | exact wpText_nil | (apply wpText_cons; (intro w2 hS; obtain ⟨hB2, b1, b2, b3⟩ := hS; go_wp2_with (first | (refine wpList_load_part rfl 37 _ rfl (w.heap.size) (0) rfl (sqs n t) _ und_sqs rfl inf_sqs (cells_of_blk0 b1) ?_) | (refine wpList_load_part rfl 25 _ rfl (w1.heap.size) (0) rfl (bys (xch n.toNat (t a b))) _ und_plc rfl inf_plc (cells_of_blk0 b2) ?_) | (go_at_call 257; ((with_reducible refine (l01Column_any n t b _ h0 h1 hb).mono ?_); rintro e w4 ⟨rfl, hb4⟩)) | (go_at_call 258; ((with_reducible refine (l01Row_any n t a _ ha).mono ?_); rintro e w4 ⟨rfl, hb4⟩)) | (go_at_call 137; ((with_reducible refine (l01Then_any (clTo t b n.toNat) _ n _ h0 h1 (fun i hi => by unfold clTo; rw [if_pos (by omega)]; exact HL.out i b (by omega) hb)).mono ?_); rintro e w4 ⟨rfl, hb4⟩)) | (go_at_call 137; ((with_reducible refine (l01Then_any (t a) _ n _ h0 h1 (fun i hi => HL.out a i ha (by omega))).mono ?_); rintro e w4 ⟨rfl, hb4⟩)) | (refine wpList_build 46 _ rfl rfl [(0, .agg (bys (thTo (clTo t b n.toNat) (xch n.toNat (t a b)) n.toNat))), (1, .agg (bys (thTo (t a) (xch n.toNat (t a b)) n.toNat))), (2, .agg (bys (xch n.toNat (t a b))))] rfl _ (build_trp _ _ _ _) ?_)); (first | exact ⟨rfl, rfl, hB2, b1, b2, b3⟩ | exact ⟨rfl, rfl, below_self hB2 hb4, b1.later hb4, b2.later hb4, b3.later hb4⟩)); rfl)))
  (intro w2 hS; simp only [List.drop_succ_cons, List.drop_zero]; obtain ⟨hB2, b1, b2, b3⟩ := hS)
  go_wp2_with (first | (refine wpList_store_row rfl 46 _ _ rfl _ rfl _ rfl inf_trp _ _ (b3) (by simp [trs_size]) (flat_trs _ _ _) ?_))
  refine bodyPost_ret (v := .agg (trs (thTo (clTo t b n.toNat) (xch n.toNat (t a b)) n.toNat) (thTo (t a) (xch n.toNat (t a b)) n.toNat) (xch n.toNat (t a b)))) (by exact results_part rfl _ _ _ _ _ _ rfl und_trp rfl inf_trp (cells_of_blk0 (blk_put b3 _))) rfl ?_
  exact ⟨ret_agg (trs_ext (fun i _ => by unfold thTo clTo; split <;> simp [*]) (fun _ _ => rfl) (fun _ _ => rfl)), below_put hB2 (by omega) _ _⟩
end Go.Proofs.Ythdldlpflieeoaa

/- Canonical loops and isotopes of the reference: contracts. -/
namespace Go.Proofs.Ythdldlpflieeoaa
set_option linter.unusedSimpArgs false
set_option linter.unusedVariables false
open Go Go.RowKit

/-! ### Equality of squares -/
def eqT (t u : Nat → Nat → Nat) : Bool := decide (∀ i ∈ List.range 10, eqb (t i) (u i) = true)
theorem eqT_iff {t u : Nat → Nat → Nat} : eqT t u = true ↔ EqT t u := by
  unfold eqT
  rw [decide_eq_true_iff]
  exact ⟨fun h x hx => eqb_iff.1 (h x (List.mem_range.2 hx)), fun h i hi => eqb_iff.2 (h i (List.mem_range.1 hi))⟩
theorem inf_rowJ' : (Try.prog.info? 24).isSome = true := by kernel_rfl
theorem inf_rowJ : ∃ i, Try.prog.info? 24 = some i := Option.isSome_iff_exists.1 inf_rowJ'
theorem und_tblJ : Try.prog.underlying 35 = some (.array 10 24) := by kernel_rfl
theorem tbs_extract {t : Nat → Nat → Nat} {i : Nat} (hi : i < 10) : (tbs t).extract (i * 10) (i * 10 + 10) = bys (t i) := by
  have hs : ((tbs t).extract (i * 10) (i * 10 + 10)).size = 10 := by rw [Array.size_extract, tbs_size]; omega
  refine Array.ext (by rw [hs, bys_size]) fun j h1 h2 => ?_
  have hj : j < 10 := by rw [hs] at h1; exact h1
  have e1 : (tbs t)[i * 10 + j]? = some (.int .u8 (t i j)) := tbs_get hi hj
  have e2 : (bys (t i))[j]? = some (.int .u8 (t i j)) := bys_get hj
  have h3 : ((tbs t).extract (i * 10) (i * 10 + 10))[j]? = some (.int .u8 (t i j)) := by
    rw [Array.getElem?_extract_of_lt (by rw [tbs_size]; omega), ← Array.getElem?_eq_getElem]
    exact e1
  rw [Array.getElem?_eq_getElem h1] at h3
  rw [Array.getElem?_eq_getElem h2] at e2
  rw [Option.some.inj h3, Option.some.inj e2]
theorem sqs_extract {n : Int} {t : Nat → Nat → Nat} : (sqs n t).extract 1 (1 + 100) = tbs t := by
  have hs : ((sqs n t).extract 1 (1 + 100)).size = 100 := by rw [Array.size_extract, sqs_size]; rfl
  refine Array.ext (by rw [hs, tbs_size]) fun j h1 h2 => ?_
  have hj : j < 100 := by rw [hs] at h1; exact h1
  have e2 : (tbs t)[j]? = some ((tbs t)[j]'h2) := Array.getElem?_eq_getElem h2
  have e1 := sqs_tbs (n := n) j _ e2
  have h3 : ((sqs n t).extract 1 (1 + 100))[j]? = some ((tbs t)[j]'h2) := by
    rw [Array.getElem?_extract_of_lt (by rw [sqs_size]; omega), ← Array.getElem?_eq_getElem]
    exact e1
  rw [Array.getElem?_eq_getElem h1] at h3
  exact Option.some.inj h3
theorem part_row (t : Nat → Nat → Nat) (i : Nat) (hi : i < 10) (w : World) : (part 24 (tbs t) (i * Try.prog.cellsOf 24)).run Try.prog w = .ok (.agg (bys (t i))) w := by
  have hc : Try.prog.cellsOf 24 = 10 := by kernel_rfl
  obtain ⟨d, hd⟩ := inf_rowJ
  have ha : (isAgg 24).run Try.prog w = .ok true w := by
    unfold isAgg
    rw [Sem.run_bind, run_underlying und_bys w]
    rfl
  unfold part
  rw [Sem.run_bind, ha]
  simp only [Result.andThen_ok, if_true, Sem.run_bind, run_sizeOf w hd, Sem.run_pure, hc, tbs_extract hi]
theorem eqItems_tbs (d : Nat) (t u : Nat → Nat → Nat) (w : World) : ∀ l : List Nat, (∀ i ∈ l, i < 10) →
    (Op.eqItems (d + 2) 24 (Try.prog.cellsOf 24) (tbs t) (tbs u) l).run Try.prog w = .ok (decide (∀ i ∈ l, eqb (t i) (u i) = true)) w
  | [], _ => by simp [Op.eqItems]
  | i :: l, h => by
    have ih := eqItems_tbs d t u w l fun j hj => h j (List.mem_cons_of_mem _ hj)
    simp only [Op.eqItems, Sem.run_bind, part_row t i (h i List.mem_cons_self) w, part_row u i (h i List.mem_cons_self) w, Result.andThen_ok, equal_bys d _ und_bys]
    cases e : eqb (t i) (u i) with
    | true =>
      simp only [Bool.not_true, Bool.false_eq_true, if_false, ih]
      simp [e]
    | false => simp [e]
theorem equal_tbs (d : Nat) (t u : Nat → Nat → Nat) (w : World) : (Op.equalIn (d + 3) 35 (.agg (tbs t)) (.agg (tbs u))).run Try.prog w = .ok (eqT t u) w := by
  obtain ⟨i, hi⟩ := inf_rowJ
  rw [run_equalIn_array w (d + 2) (tbs t) (tbs u) und_tblJ hi, eqItems_tbs d t u w _ (by simp)]
  rfl
theorem sq_fields : ∃ f0 f1 : Field, (Try.prog.fieldsOf 37).toList = [f0, f1] ∧ (f0.name ≠ "_" ∧ f0.type = 2 ∧ f0.offset = 0) ∧ (f1.name ≠ "_" ∧ f1.type = 35 ∧ f1.offset = 1) :=
  ⟨(Try.prog.fieldsOf 37)[0]!, (Try.prog.fieldsOf 37)[1]!, by kernel_rfl, ⟨by decide +kernel, by kernel_rfl, by kernel_rfl⟩, by decide +kernel, by kernel_rfl, by kernel_rfl⟩
theorem und_i64J : Try.prog.underlying 2 = some (.int .i64) := by kernel_rfl
theorem inf_tblJ' : (Try.prog.info? 35).isSome = true := by kernel_rfl
theorem inf_tblJ : ∃ i, Try.prog.info? 35 = some i := Option.isSome_iff_exists.1 inf_tblJ'
theorem part_ord (n : Int) (t : Nat → Nat → Nat) (w : World) : (part 2 (sqs n t) 0).run Try.prog w = .ok (.int .i64 n) w := by
  have ha : (isAgg 2).run Try.prog w = .ok false w := by
    unfold isAgg
    rw [Sem.run_bind, run_underlying und_i64J w]
    rfl
  unfold part
  rw [Sem.run_bind, ha]
  simp [sqs_order]
theorem part_tbl (n : Int) (t : Nat → Nat → Nat) (w : World) : (part 35 (sqs n t) 1).run Try.prog w = .ok (.agg (tbs t)) w := by
  have hc : Try.prog.cellsOf 35 = 100 := by kernel_rfl
  obtain ⟨d, hd⟩ := inf_tblJ
  have ha : (isAgg 35).run Try.prog w = .ok true w := by
    unfold isAgg
    rw [Sem.run_bind, run_underlying und_tblJ w]
    rfl
  unfold part
  rw [Sem.run_bind, ha]
  simp only [Result.andThen_ok, if_true, Sem.run_bind, run_sizeOf w hd, Sem.run_pure, hc, sqs_extract]
theorem eql_sq (n m : Int) (t u : Nat → Nat → Nat) (w : World) : (binOp .eql 37 (.agg (sqs n t)) (.agg (sqs m u))).run Try.prog w = .ok (.bool (n == m && eqT t u)) w := by
  obtain ⟨f0, f1, hf, ⟨a1, a2, a3⟩, b1, b2, b3⟩ := sq_fields
  have hk := run_equalIn_struct (P := Try.prog) w 9999 37 (sqs n t) (sqs m u) (by kernel_rfl) (by kernel_rfl)
  rw [hf] at hk
  have he : (Op.equalIn 10000 37 (.agg (sqs n t)) (.agg (sqs m u))).run Try.prog w = .ok (n == m && eqT t u) w := by
    rw [hk]
    simp only [Op.eqFields, ne_eq, a1, b1, not_false_eq_true, if_true, a2, a3, b2, b3, Sem.run_bind, part_ord, part_tbl, Result.andThen_ok, run_equalIn_int w 9998 2 .i64 .i64 _ _ und_i64J]
    by_cases e : n = m
    · have e' : (n == m) = true := by simp [e]
      rw [e']
      simp only [Bool.not_true, Bool.false_eq_true, if_false, Sem.run_bind, part_tbl, Result.andThen_ok, equal_tbs 9996, Bool.true_and]
      cases eqT t u <;> simp
    · have e' : (n == m) = false := by simp [e]
      rw [e']
      simp
  rw [run_eql_struct, he]; rfl
theorem egt_sqs : Try.prog.eqGuardType Try.prog.depth 37 = false := by kernel_rfl

/-! ### The reference's canonical loops -/
set_option maxRecDepth 100000 in
set_option maxHeartbeats 1000000 in
theorem l02Lower_any (s t : Nat → Nat → Nat) (w : World) : Calls Try.prog 187 #[.agg (tbs s), .agg (tbs t)] w fun e w' => e = .returned (.bool (lowB s t 10 0)) ∧ Below w.heap.size w w' := by
  have M := Mm.start no w
  go_enter Try.func187, Try.ntmps187
  go_wp2_with (first | ((with_reducible apply wpM_box' M 35 (tbs s)); rfl; exact ⟨rfl, rfl⟩; clear M; (try clear C); intro bf w9 h_bf M; have C := M.ruleAll; simp only [Go.Proofs.Ythdldlpflieeoaa.ruleAll] at C) | ((with_reducible apply wpM_box' M 35 (tbs t)); rfl; exact ⟨rfl, rfl⟩; clear M; (try clear C); intro bg w9 h_bg M; have C := M.ruleAll; simp only [Go.Proofs.Ythdldlpflieeoaa.ruleAll] at C))
  go_loopw [5] (fun i wr => ∃ k : Nat, k ≤ 10 ∧ i = .int .i64 (k : Int) ∧ lowB s t (10 - k) k = lowB s t 10 0 ∧ Mm no w wr [.box bg (tbs t) 35, .box bf (tbs s) 35]) (fun i _ => 10 - (intOf i).toNat)
  case atStart => exact ⟨0, by omega, rfl, rfl, M⟩
  case round =>
    obtain ⟨k, hk, rfl, hl, M9⟩ := hrel
    clear M; (try clear C)
    have M := M9
    clear M9
    have C := M.ruleAll; simp only [Go.Proofs.Ythdldlpflieeoaa.ruleAll] at C
    by_cases hlt : k < 10
    · have hlt' : (k : Int) < 10 := by omega
      rw [show 10 - k = (10 - (k + 1)) + 1 by omega, lowB_succ] at hl
      cases he : eqb (s k) (t k) with
      | true =>
        rw [if_pos he] at hl
        have HL := Hid2.mk hl
        clear hl
        go_wp2
        apply wp_region_mm M 6 (by kernel_rfl) (by kernel_rfl); (simp only [List.take_succ_cons, List.take_zero]; repeat (first | exact wpText_nil | (apply wpText_cons; (intro w2 M; have C := M.ruleAll; simp only [Go.Proofs.Ythdldlpflieeoaa.ruleAll] at C; go_wp2_with (first | ((with_reducible apply wpM_lda' M 1 24 (k * 10) (bys (s k))); rfl; rfl; rfl; exact ⟨rfl, inf_bys.trans (congrArg some (bys_size ..).symm), _, und_bys, rfl⟩; exact tbs_row hlt) | ((with_reducible apply wpM_lda' M 0 24 (k * 10) (bys (t k))); rfl; rfl; rfl; exact ⟨rfl, inf_bys.trans (congrArg some (bys_size ..).symm), _, und_bys, rfl⟩; exact tbs_row hlt)); exact ⟨rfl, rfl, M⟩); rfl))); (clear M; (try clear C); intro w2 M; simp only [List.drop_succ_cons, List.drop_zero]; have C := M.ruleAll; simp only [Go.Proofs.Ythdldlpflieeoaa.ruleAll] at C)
        go_wp2_with (first | (refine wpList_agg_g .neq 24 _ _ _ rfl rfl (bys (s k)) (bys (t k)) rfl rfl egt_bys _ ((neq_bys _ _ _).trans (by rw [he])) ?_))
        go_roundw
        case rel => exact ⟨k + 1, by omega, by go_num, HL.out, M⟩
        case measure => simp [intOf]; omega
      | false =>
        rw [if_neg (by rw [he]; decide)] at hl
        have HL := Hid2.mk hl
        clear hl
        go_wp2
        apply wp_region_mm M 6 (by kernel_rfl) (by kernel_rfl); (simp only [List.take_succ_cons, List.take_zero]; repeat (first | exact wpText_nil | (apply wpText_cons; (intro w2 M; have C := M.ruleAll; simp only [Go.Proofs.Ythdldlpflieeoaa.ruleAll] at C; go_wp2_with (first | ((with_reducible apply wpM_lda' M 1 24 (k * 10) (bys (s k))); rfl; rfl; rfl; exact ⟨rfl, inf_bys.trans (congrArg some (bys_size ..).symm), _, und_bys, rfl⟩; exact tbs_row hlt) | ((with_reducible apply wpM_lda' M 0 24 (k * 10) (bys (t k))); rfl; rfl; rfl; exact ⟨rfl, inf_bys.trans (congrArg some (bys_size ..).symm), _, und_bys, rfl⟩; exact tbs_row hlt)); exact ⟨rfl, rfl, M⟩); rfl))); (clear M; (try clear C); intro w2 M; simp only [List.drop_succ_cons, List.drop_zero]; have C := M.ruleAll; simp only [Go.Proofs.Ythdldlpflieeoaa.ruleAll] at C)
        go_wp2_with (first | (refine wpList_agg_g .neq 24 _ _ _ rfl rfl (bys (s k)) (bys (t k)) rfl rfl egt_bys _ ((neq_bys _ _ _).trans (by rw [he])) ?_))
        apply wp_region_mm M 6 (by kernel_rfl) (by kernel_rfl); (simp only [List.take_succ_cons, List.take_zero]; repeat (first | exact wpText_nil | (apply wpText_cons; (intro w2 M; have C := M.ruleAll; simp only [Go.Proofs.Ythdldlpflieeoaa.ruleAll] at C; go_wp2_with (first | ((with_reducible apply wpM_lda' M 1 24 (k * 10) (bys (s k))); rfl; rfl; rfl; exact ⟨rfl, inf_bys.trans (congrArg some (bys_size ..).symm), _, und_bys, rfl⟩; exact tbs_row hlt) | ((with_reducible apply wpM_lda' M 0 24 (k * 10) (bys (t k))); rfl; rfl; rfl; exact ⟨rfl, inf_bys.trans (congrArg some (bys_size ..).symm), _, und_bys, rfl⟩; exact tbs_row hlt)); exact ⟨rfl, rfl, M⟩); rfl))); (clear M; (try clear C); intro w2 M; simp only [List.drop_succ_cons, List.drop_zero]; have C := M.ruleAll; simp only [Go.Proofs.Ythdldlpflieeoaa.ruleAll] at C)
        go_wp2_with (first | (go_at_call 268; ((with_reducible refine (l02Less_any (s k) (t k) _).mono ?_); rintro e w1 ⟨rfl, hb⟩; have hsz := M.size; (try (have G9 := G.later hb; clear G; have G := G9; clear G9)); have M9 := M.later hb; clear M; (try clear C); have M := M9; clear M9; have C := M.ruleAll; simp only [Go.Proofs.Ythdldlpflieeoaa.ruleAll] at C)))
        go_ret
        exact ⟨by rw [← HL.out]; rfl, M.below⟩
    · obtain rfl : k = 10 := by omega
      have HL := Hid2.mk hl
      clear hl
      go_wp2
      go_ret
      exact ⟨by rw [← HL.out]; rfl, M.below⟩

/-- What the permutations behind the first rounds make. -/
def tryL (N : Nat) (t : Nat → Nat → Nat) (d k : Nat) (p : Nat → Nat) : List (Nat → Nat → Nat) := (lvs d k p).map fun r => isoW N t r r r (N * N)
def accT (N : Nat) (t : Nat → Nat → Nat) (d k : Nat) (p : Nat → Nat) (b : Nat → Nat → Nat) (j : Nat) : Nat → Nat → Nat := lowest b ((List.range j).flatMap fun i => tryL N t d (k + 1) (swp p k (k + i)))
theorem lowest_app (b : Nat → Nat → Nat) (l l' : List (Nat → Nat → Nat)) : lowest b (l ++ l') = lowest (lowest b l) l' := List.foldl_append ..
theorem accT_succ (N : Nat) (t : Nat → Nat → Nat) (d k : Nat) (p : Nat → Nat) (b : Nat → Nat → Nat) (j : Nat) : accT N t d k p b (j + 1) = lowest (accT N t d k p b j) (tryL N t d (k + 1) (swp p k (k + j))) := by
  unfold accT
  rw [List.range_succ, List.flatMap_append, lowest_app]
  simp
theorem accT_all (N : Nat) (t : Nat → Nat → Nat) (d k : Nat) (p : Nat → Nat) (b : Nat → Nat → Nat) : accT N t d k p b (d + 1) = lowest b (tryL N t (d + 1) k p) := by
  unfold accT tryL
  rw [lvs, List.map_flatMap]
theorem swp_cells {p : Nat → Nat} {k i : Nat} : (bys fun j => if j = k then p i else p j).setIfInBounds i (.int .u8 (p k : Int)) = bys (swp p k i) := bys_set _ _ _

set_option maxRecDepth 100000 in
set_option maxHeartbeats 4000000 in
theorem l02Try_any (N : Nat) (t : Nat → Nat → Nat) (h0 : 1 ≤ N) (h1 : N ≤ 10) (ht : ∀ x y : Nat, x < N → y < N → t x y < 10) :
    ∀ (d k : Nat) (p : Nat → Nat) (b : Nat → Nat → Nat) (w : World), k + d = N → Pm N p →
    Calls Try.prog 267 #[.agg (sqs (N : Int) t), .agg (sqs (N : Int) b), .agg (bys p), .int .i64 (k : Int)] w fun e w' => e = .returned (.agg (sqs (N : Int) (lowest b (tryL N t d k p)))) ∧ Below w.heap.size w w' := by
  intro d
  induction d with
  | zero =>
    intro k p b w hkN hp
    obtain rfl : k = N := by omega
    have M := Mm.start no w
    have so1 := sqs_order (k : Int) t
    have so2 := sqs_order (k : Int) b
    have hI := fun w1 => l02Isotope_any (k : Int) t p p p w1 (by omega) (by omega) (fun i hi => by have := hp.lt i (by omega); omega) (fun i hi => by have := hp.lt i (by omega); omega) (fun x y hx hy => ht x y (by omega) (by omega))
    have HR := Hid2.mk (show lowest b (tryL k t 0 k p) = lowStep b (isoW k t p p p (k * k)) from rfl)
    rw [Int.toNat_natCast] at hI
    have hLo := fun w1 => l02Lower_any (isoW k t p p p (k * k)) b w1
    generalize isoW k t p p p (k * k) = o at hI HR hLo
    have hkk : ((k : Int) == (k : Int)) = true := by simp
    clear ht hp
    cases hl : lowB o b 10 0 with
    | true =>
      simp only [hl] at hLo
      have HS := Hid2.mk (show lowStep b o = o by unfold lowStep; rw [if_pos hl])
      clear hl
      go_enter Try.func267, Try.ntmps267
      go_wp2_with (first | ((with_reducible apply wpM_box' M 37 (sqs (k : Int) t)); rfl; exact ⟨rfl, rfl⟩; clear M; (try clear C); intro b4 w9 h_b4 M; have C := M.ruleAll; simp only [Go.Proofs.Ythdldlpflieeoaa.ruleAll] at C) | ((with_reducible apply wpM_box' M 37 (sqs (k : Int) b)); rfl; exact ⟨rfl, rfl⟩; clear M; (try clear C); intro b5 w9 h_b5 M; have C := M.ruleAll; simp only [Go.Proofs.Ythdldlpflieeoaa.ruleAll] at C) | ((with_reducible apply wpM_box' M 25 (bys p)); rfl; exact ⟨rfl, rfl⟩; clear M; (try clear C); intro b6 w9 h_b6 M; have C := M.ruleAll; simp only [Go.Proofs.Ythdldlpflieeoaa.ruleAll] at C) | ((fail_if_success have := h_b8); ((with_reducible apply wpM_alloc' M 37 (sqs 0 fun _ _ => 0)); rfl; exact ⟨rfl, _, zero_sqs _, rfl⟩; clear M; (try clear C); intro b8 w9 h_b8 M; have C := M.ruleAll; simp only [Go.Proofs.Ythdldlpflieeoaa.ruleAll] at C)) | ((with_reducible apply wpM_alloc' M 37 (sqs 0 fun _ _ => 0)); rfl; exact ⟨rfl, _, zero_sqs _, rfl⟩; clear M; (try clear C); intro b10 w9 h_b10 M; have C := M.ruleAll; simp only [Go.Proofs.Ythdldlpflieeoaa.ruleAll] at C) | ((with_reducible apply wpM_lda' M 3 37 0 (sqs (k : Int) t)); rfl; rfl; rfl; exact ⟨rfl, inf_sqs.trans (congrArg some (sqs_size ..).symm), _, und_sqs, rfl⟩; exact whole_of rfl) | ((with_reducible apply wpM_lda' M 1 25 0 (bys p)); rfl; rfl; rfl; exact ⟨rfl, inf_plc.trans (congrArg some (bys_size ..).symm), _, und_plc, rfl⟩; exact whole_of rfl) | (refine wpList_build 46 _ rfl rfl [(0, .agg (bys p)), (1, .agg (bys p)), (2, .agg (bys p))] rfl _ (build_trp _ _ _ _) ?_) | (go_at_call 159; ((with_reducible refine (hI _).mono ?_); rintro e w1 ⟨rfl, hb⟩; have hsz := M.size; (try (have G9 := G.later hb; clear G; have G := G9; clear G9)); have M9 := M.later hb; clear M; (try clear C); have M := M9; clear M9; have C := M.ruleAll; simp only [Go.Proofs.Ythdldlpflieeoaa.ruleAll] at C)) | ((with_reducible apply wpM_sta' M 0 37 (sqs (k : Int) o)); rfl; rfl; rfl; rfl; (first | exact .inl (by assumption) | exact .inr rfl | exact .inr (by assumption)); exact ⟨rfl, inf_sqs.trans (congrArg some (sqs_size ..).symm), flat_sqs _ _⟩; (simp only [entCells, List.getElem?_cons_zero, List.getElem?_cons_succ, sqs_size, sqs_size]); clear M; (try clear C); intro w9 M; simp only [List.set_cons_zero, List.set_cons_succ, entBlk, entT, List.getElem?_cons_zero, List.getElem?_cons_succ] at M; have C := M.ruleAll; simp only [Go.Proofs.Ythdldlpflieeoaa.ruleAll] at C) | ((with_reducible apply wpM_lda' M 0 35 (1) (tbs o)); rfl; rfl; rfl; exact ⟨rfl, inf_tbl.trans (congrArg some (tbs_size ..).symm), _, und_tbl, rfl⟩; exact sqs_tbs) | ((with_reducible apply wpM_lda' M 3 35 (1) (tbs b)); rfl; rfl; rfl; exact ⟨rfl, inf_tbl.trans (congrArg some (tbs_size ..).symm), _, und_tbl, rfl⟩; exact sqs_tbs) | (go_at_call 187; ((with_reducible refine (hLo _).mono ?_); rintro e w1 ⟨rfl, hb⟩; have hsz := M.size; (try (have G9 := G.later hb; clear G; have G := G9; clear G9)); have M9 := M.later hb; clear M; (try clear C); have M := M9; clear M9; have C := M.ruleAll; simp only [Go.Proofs.Ythdldlpflieeoaa.ruleAll] at C)) | ((with_reducible apply wpM_lda' M 0 37 0 (sqs (k : Int) o)); rfl; rfl; rfl; exact ⟨rfl, inf_sqs.trans (congrArg some (sqs_size ..).symm), _, und_sqs, rfl⟩; exact whole_of rfl) | ((with_reducible apply wpM_sta' M 1 37 (sqs (k : Int) o)); rfl; rfl; rfl; rfl; (first | exact .inl (by assumption) | exact .inr rfl | exact .inr (by assumption)); exact ⟨rfl, inf_sqs.trans (congrArg some (sqs_size ..).symm), flat_sqs _ _⟩; (simp only [entCells, List.getElem?_cons_zero, List.getElem?_cons_succ, sqs_size, sqs_size]); clear M; (try clear C); intro w9 M; simp only [List.set_cons_zero, List.set_cons_succ, entBlk, entT, List.getElem?_cons_zero, List.getElem?_cons_succ] at M; have C := M.ruleAll; simp only [Go.Proofs.Ythdldlpflieeoaa.ruleAll] at C))
      refine bodyPost_ret (v := .agg (sqs (k : Int) o)) (by exact results_part rfl _ _ _ _ _ _ rfl und_sqs rfl inf_sqs (cells_of_blk0 (M.box 1 rfl))) rfl ?_
      exact ⟨by rw [HR.out, HS.out], M.below⟩
    | false =>
      simp only [hl] at hLo
      have HS := Hid2.mk (show lowStep b o = b by unfold lowStep; rw [if_neg (by rw [hl]; decide)])
      clear hl
      go_enter Try.func267, Try.ntmps267
      go_wp2_with (first | ((with_reducible apply wpM_box' M 37 (sqs (k : Int) t)); rfl; exact ⟨rfl, rfl⟩; clear M; (try clear C); intro b4 w9 h_b4 M; have C := M.ruleAll; simp only [Go.Proofs.Ythdldlpflieeoaa.ruleAll] at C) | ((with_reducible apply wpM_box' M 37 (sqs (k : Int) b)); rfl; exact ⟨rfl, rfl⟩; clear M; (try clear C); intro b5 w9 h_b5 M; have C := M.ruleAll; simp only [Go.Proofs.Ythdldlpflieeoaa.ruleAll] at C) | ((with_reducible apply wpM_box' M 25 (bys p)); rfl; exact ⟨rfl, rfl⟩; clear M; (try clear C); intro b6 w9 h_b6 M; have C := M.ruleAll; simp only [Go.Proofs.Ythdldlpflieeoaa.ruleAll] at C) | ((fail_if_success have := h_b8); ((with_reducible apply wpM_alloc' M 37 (sqs 0 fun _ _ => 0)); rfl; exact ⟨rfl, _, zero_sqs _, rfl⟩; clear M; (try clear C); intro b8 w9 h_b8 M; have C := M.ruleAll; simp only [Go.Proofs.Ythdldlpflieeoaa.ruleAll] at C)) | ((with_reducible apply wpM_alloc' M 37 (sqs 0 fun _ _ => 0)); rfl; exact ⟨rfl, _, zero_sqs _, rfl⟩; clear M; (try clear C); intro b10 w9 h_b10 M; have C := M.ruleAll; simp only [Go.Proofs.Ythdldlpflieeoaa.ruleAll] at C) | ((with_reducible apply wpM_lda' M 3 37 0 (sqs (k : Int) t)); rfl; rfl; rfl; exact ⟨rfl, inf_sqs.trans (congrArg some (sqs_size ..).symm), _, und_sqs, rfl⟩; exact whole_of rfl) | ((with_reducible apply wpM_lda' M 1 25 0 (bys p)); rfl; rfl; rfl; exact ⟨rfl, inf_plc.trans (congrArg some (bys_size ..).symm), _, und_plc, rfl⟩; exact whole_of rfl) | (refine wpList_build 46 _ rfl rfl [(0, .agg (bys p)), (1, .agg (bys p)), (2, .agg (bys p))] rfl _ (build_trp _ _ _ _) ?_) | (go_at_call 159; ((with_reducible refine (hI _).mono ?_); rintro e w1 ⟨rfl, hb⟩; have hsz := M.size; (try (have G9 := G.later hb; clear G; have G := G9; clear G9)); have M9 := M.later hb; clear M; (try clear C); have M := M9; clear M9; have C := M.ruleAll; simp only [Go.Proofs.Ythdldlpflieeoaa.ruleAll] at C)) | ((with_reducible apply wpM_sta' M 0 37 (sqs (k : Int) o)); rfl; rfl; rfl; rfl; (first | exact .inl (by assumption) | exact .inr rfl | exact .inr (by assumption)); exact ⟨rfl, inf_sqs.trans (congrArg some (sqs_size ..).symm), flat_sqs _ _⟩; (simp only [entCells, List.getElem?_cons_zero, List.getElem?_cons_succ, sqs_size, sqs_size]); clear M; (try clear C); intro w9 M; simp only [List.set_cons_zero, List.set_cons_succ, entBlk, entT, List.getElem?_cons_zero, List.getElem?_cons_succ] at M; have C := M.ruleAll; simp only [Go.Proofs.Ythdldlpflieeoaa.ruleAll] at C) | ((with_reducible apply wpM_lda' M 0 35 (1) (tbs o)); rfl; rfl; rfl; exact ⟨rfl, inf_tbl.trans (congrArg some (tbs_size ..).symm), _, und_tbl, rfl⟩; exact sqs_tbs) | ((with_reducible apply wpM_lda' M 3 35 (1) (tbs b)); rfl; rfl; rfl; exact ⟨rfl, inf_tbl.trans (congrArg some (tbs_size ..).symm), _, und_tbl, rfl⟩; exact sqs_tbs) | (go_at_call 187; ((with_reducible refine (hLo _).mono ?_); rintro e w1 ⟨rfl, hb⟩; have hsz := M.size; (try (have G9 := G.later hb; clear G; have G := G9; clear G9)); have M9 := M.later hb; clear M; (try clear C); have M := M9; clear M9; have C := M.ruleAll; simp only [Go.Proofs.Ythdldlpflieeoaa.ruleAll] at C)) | ((with_reducible apply wpM_lda' M 3 37 0 (sqs (k : Int) b)); rfl; rfl; rfl; exact ⟨rfl, inf_sqs.trans (congrArg some (sqs_size ..).symm), _, und_sqs, rfl⟩; exact whole_of rfl) | ((with_reducible apply wpM_sta' M 1 37 (sqs (k : Int) b)); rfl; rfl; rfl; rfl; (first | exact .inl (by assumption) | exact .inr rfl | exact .inr (by assumption)); exact ⟨rfl, inf_sqs.trans (congrArg some (sqs_size ..).symm), flat_sqs _ _⟩; (simp only [entCells, List.getElem?_cons_zero, List.getElem?_cons_succ, sqs_size, sqs_size]); clear M; (try clear C); intro w9 M; simp only [List.set_cons_zero, List.set_cons_succ, entBlk, entT, List.getElem?_cons_zero, List.getElem?_cons_succ] at M; have C := M.ruleAll; simp only [Go.Proofs.Ythdldlpflieeoaa.ruleAll] at C))
      refine bodyPost_ret (v := .agg (sqs (k : Int) b)) (by exact results_part rfl _ _ _ _ _ _ rfl und_sqs rfl inf_sqs (cells_of_blk0 (M.box 1 rfl))) rfl ?_
      exact ⟨by rw [HR.out, HS.out], M.below⟩
  | succ d IH0 =>
    intro k p b w hkN hp
    have M := Mm.start no w
    have so1 := sqs_order (N : Int) t
    have hklt : k < N := by omega
    have hkn : ((k : Int) == (N : Int)) = false := by rw [beq_eq_false_iff_ne]; omega
    have HA0 := Hid2.mk (show accT N t d k p b 0 = b from rfl)
    have HALL := Hid2.mk (accT_all N t d k p b)
    have ek : ((k + 1 : Nat) : Int) = (k : Int) + 1 := by omega
    have IH := Hid2.mk (fun (m : Nat) (hm : k ≤ m ∧ m < N) (b' : Nat → Nat → Nat) (w1 : World) => ek ▸ IH0 (k + 1) (swp p k m) b' w1 (by omega) (swp_pm hp hklt hm.2))
    have HP := Hid2.mk hp
    have hk10 : k < 10 := by omega
    have hki : (k : Int) < 10 := by omega
    have hpk := bys_get (f := p) hk10
    clear IH0 hp ht ek
    go_enter Try.func267, Try.ntmps267
    go_wp2_with (first | ((with_reducible apply wpM_box' M 37 (sqs (N : Int) t)); rfl; exact ⟨rfl, rfl⟩; clear M; (try clear C); intro b4 w9 h_b4 M; have C := M.ruleAll; simp only [Go.Proofs.Ythdldlpflieeoaa.ruleAll] at C) | ((with_reducible apply wpM_box' M 37 (sqs (N : Int) b)); rfl; exact ⟨rfl, rfl⟩; clear M; (try clear C); intro b5 w9 h_b5 M; have C := M.ruleAll; simp only [Go.Proofs.Ythdldlpflieeoaa.ruleAll] at C) | ((with_reducible apply wpM_box' M 25 (bys p)); rfl; exact ⟨rfl, rfl⟩; clear M; (try clear C); intro b6 w9 h_b6 M; have C := M.ruleAll; simp only [Go.Proofs.Ythdldlpflieeoaa.ruleAll] at C) | ((with_reducible apply wpM_alloc' M 37 (sqs 0 fun _ _ => 0)); rfl; exact ⟨rfl, _, zero_sqs _, rfl⟩; clear M; (try clear C); intro b8 w9 h_b8 M; have C := M.ruleAll; simp only [Go.Proofs.Ythdldlpflieeoaa.ruleAll] at C))
    go_loopw [11, 12] (fun i _ wr => ∃ m : Nat, k ≤ m ∧ m ≤ N ∧ i = .int .i64 (m : Int) ∧ Mm no w wr [.box b8 (sqs 0 fun _ _ => 0) 37, .box b6 (bys p) 25, .box b5 (sqs (N : Int) (accT N t d k p b (m - k))) 37, .box b4 (sqs (N : Int) t) 37]) (fun i _ _ => N - (intOf i).toNat)
    case atStart => exact ⟨k, by omega, by omega, rfl, by rw [Nat.sub_self, HA0.out]; exact M⟩
    case round =>
      obtain ⟨m, hm0, hm1, rfl, M9⟩ := hrel
      clear M; (try clear C)
      have M := M9
      clear M9
      have C := M.ruleAll; simp only [Go.Proofs.Ythdldlpflieeoaa.ruleAll] at C
      by_cases hlt : m < N
      · have hlt' : (m : Int) < (N : Int) := by omega
        have hm10 : m < 10 := by omega
        have hmi : (m : Int) < 10 := by omega
        have hpm := bys_get (f := p) hm10
        have HN := Hid2.mk (show accT N t d k p b (m + 1 - k) = lowest (accT N t d k p b (m - k)) (tryL N t d (k + 1) (swp p k m)) by
          rw [show m + 1 - k = (m - k) + 1 by omega, accT_succ, show k + (m - k) = m by omega])
        have hI := IH.out m ⟨hm0, hlt⟩ (accT N t d k p b (m - k))
        generalize accT N t d k p b (m - k) = B at M HN hI C ⊢
        generalize tryL N t d (k + 1) (swp p k m) = TL at HN hI
        go_wp2_with (first | ((with_reducible apply wpM_lda' M 1 25 0 (bys p)); rfl; rfl; rfl; exact ⟨rfl, inf_plc.trans (congrArg some (bys_size ..).symm), _, und_plc, rfl⟩; exact whole_of rfl) | ((with_reducible apply wpM_alloc' M 25 (bys fun _ => 0)); rfl; exact ⟨rfl, _, zero_plc _, rfl⟩; clear M; (try clear C); intro b12 w9 h_b12 M; have C := M.ruleAll; simp only [Go.Proofs.Ythdldlpflieeoaa.ruleAll] at C) | ((with_reducible apply wpM_sta' M 0 25 (bys p)); rfl; rfl; rfl; rfl; (first | exact .inl (by assumption) | exact .inr rfl | exact .inr (by assumption)); exact ⟨rfl, inf_plc.trans (congrArg some (bys_size ..).symm), flat_bys _⟩; (simp only [entCells, List.getElem?_cons_zero, List.getElem?_cons_succ, bys_size, bys_size]); clear M; (try clear C); intro w9 M; simp only [List.set_cons_zero, List.set_cons_succ, entBlk, entT, List.getElem?_cons_zero, List.getElem?_cons_succ] at M; have C := M.ruleAll; simp only [Go.Proofs.Ythdldlpflieeoaa.ruleAll] at C) | ((with_reducible apply wpM_st' M 0 5 (k) (bys (fun j => if j = k then p m else p j))); rfl; rfl; rfl; (first | exact .inl (by assumption) | exact .inr rfl | exact .inr (by assumption)); exact ⟨rfl, rfl, by kernel_rfl⟩; (exact Nat.lt_of_lt_of_eq (by omega) (bys_size _).symm); exact bys_set _ _ _; clear M; (try clear C); intro w9 M; simp only [List.set_cons_zero, List.set_cons_succ, entBlk, entT, List.getElem?_cons_zero, List.getElem?_cons_succ] at M; have C := M.ruleAll; simp only [Go.Proofs.Ythdldlpflieeoaa.ruleAll] at C) | ((with_reducible apply wpM_st' M 0 5 (m) (bys (swp p k m))); rfl; rfl; rfl; (first | exact .inl (by assumption) | exact .inr rfl | exact .inr (by assumption)); exact ⟨rfl, rfl, by kernel_rfl⟩; (exact Nat.lt_of_lt_of_eq (by omega) (bys_size _).symm); exact swp_cells; clear M; (try clear C); intro w9 M; simp only [List.set_cons_zero, List.set_cons_succ, entBlk, entT, List.getElem?_cons_zero, List.getElem?_cons_succ] at M; have C := M.ruleAll; simp only [Go.Proofs.Ythdldlpflieeoaa.ruleAll] at C) | ((with_reducible apply wpM_lda' M 4 37 0 (sqs (N : Int) t)); rfl; rfl; rfl; exact ⟨rfl, inf_sqs.trans (congrArg some (sqs_size ..).symm), _, und_sqs, rfl⟩; exact whole_of rfl) | ((with_reducible apply wpM_lda' M 3 37 0 (sqs (N : Int) B)); rfl; rfl; rfl; exact ⟨rfl, inf_sqs.trans (congrArg some (sqs_size ..).symm), _, und_sqs, rfl⟩; exact whole_of rfl) | ((with_reducible apply wpM_lda' M 0 25 0 (bys (swp p k m))); rfl; rfl; rfl; exact ⟨rfl, inf_plc.trans (congrArg some (bys_size ..).symm), _, und_plc, rfl⟩; exact whole_of rfl) | (go_at_call 267; ((with_reducible refine (hI _).mono ?_); rintro e w1 ⟨rfl, hb⟩; have hsz := M.size; (try (have G9 := G.later hb; clear G; have G := G9; clear G9)); have M9 := M.later hb; clear M; (try clear C); have M := M9; clear M9; have C := M.ruleAll; simp only [Go.Proofs.Ythdldlpflieeoaa.ruleAll] at C)) | ((with_reducible apply wpM_sta' M 3 37 (sqs (N : Int) (lowest B TL))); rfl; rfl; rfl; rfl; (first | exact .inl (by assumption) | exact .inr rfl | exact .inr (by assumption)); exact ⟨rfl, inf_sqs.trans (congrArg some (sqs_size ..).symm), flat_sqs _ _⟩; (simp only [entCells, List.getElem?_cons_zero, List.getElem?_cons_succ, sqs_size, sqs_size]); clear M; (try clear C); intro w9 M; simp only [List.set_cons_zero, List.set_cons_succ, entBlk, entT, List.getElem?_cons_zero, List.getElem?_cons_succ] at M; have C := M.ruleAll; simp only [Go.Proofs.Ythdldlpflieeoaa.ruleAll] at C))
        go_roundw
        case rel => exact ⟨m + 1, by omega, by omega, by go_num, by rw [HN.out]; exact M.drop 0⟩
        case measure => simp [intOf]; omega
      · obtain rfl : m = N := by omega
        have hge : ¬ ((m : Int) < (m : Int)) := by omega
        have HE := Hid2.mk (show accT m t d k p b (m - k) = lowest b (tryL m t (d + 1) k p) by rw [show m - k = d + 1 by omega]; exact HALL.out)
        generalize accT m t d k p b (m - k) = B at M HE C ⊢
        go_wp2_with (first | ((with_reducible apply wpM_lda' M 2 37 0 (sqs (m : Int) B)); rfl; rfl; rfl; exact ⟨rfl, inf_sqs.trans (congrArg some (sqs_size ..).symm), _, und_sqs, rfl⟩; exact whole_of rfl) | ((with_reducible apply wpM_sta' M 0 37 (sqs (m : Int) B)); rfl; rfl; rfl; rfl; (first | exact .inl (by assumption) | exact .inr rfl | exact .inr (by assumption)); exact ⟨rfl, inf_sqs.trans (congrArg some (sqs_size ..).symm), flat_sqs _ _⟩; (simp only [entCells, List.getElem?_cons_zero, List.getElem?_cons_succ, sqs_size, sqs_size]); clear M; (try clear C); intro w9 M; simp only [List.set_cons_zero, List.set_cons_succ, entBlk, entT, List.getElem?_cons_zero, List.getElem?_cons_succ] at M; have C := M.ruleAll; simp only [Go.Proofs.Ythdldlpflieeoaa.ruleAll] at C))
        refine bodyPost_ret (v := .agg (sqs (m : Int) B)) (by exact results_part rfl _ _ _ _ _ _ rfl und_sqs rfl inf_sqs (cells_of_blk0 (M.box 0 rfl))) rfl ?_
        exact ⟨by rw [HE.out], M.below⟩
end Go.Proofs.Ythdldlpflieeoaa

/- Isotopes, triples there and back, autotopisms: contracts on both sides. Printed by gen/x13.py. -/
namespace Go.Proofs.Ythdldlpflieeoaa
set_option linter.unusedSimpArgs false
set_option linter.unusedVariables false
open Go Go.RowKit

noncomputable def ioB (n : Int) (t : Nat → Nat → Nat) (f g h : Nat → Nat) : Bool := isSq n t && triB n f g h
def ioT (n : Int) (t : Nat → Nat → Nat) (f g h : Nat → Nat) : Nat → Nat → Nat := isoW n.toNat t f g h (n.toNat * n.toNat)
/-- A square or none, with its code. -/
def sqR (b : Bool) (n : Int) (t : Nat → Nat → Nat) : Value := .tuple #[.agg (sqs (bif b then n else 0) (bif b then t else fun _ _ => 0)), .int .i64 (bif b then 0 else 1)]
def trR (b : Bool) (f g h : Nat → Nat) : Value := .tuple #[.agg (trs (bif b then f else fun _ => 0) (bif b then g else fun _ => 0) (bif b then h else fun _ => 0)), .int .i64 (bif b then 0 else 1)]
theorem io_pre {n : Int} {t : Nat → Nat → Nat} {f g h : Nat → Nat} (hs : isSq n t = true) (ht : triB n f g h = true) : 1 ≤ n ∧ n ≤ 10 ∧ (∀ i : Nat, (i : Int) < n → f i < 10) ∧ (∀ i : Nat, (i : Int) < n → g i < 10) ∧ (∀ x y : Nat, (x : Int) < n → (y : Int) < n → t x y < 10) := by
  have h1 := isSq_true.1 hs
  obtain ⟨h2, h3, h4⟩ := triB_true.1 ht
  have lo := h1.lo
  have hi := h1.hi
  refine ⟨lo, hi, fun i hi => ?_, fun i hi => ?_, fun x y hx hy => ?_⟩
  · have := h2.lt i (by omega) hi; omega
  · have := h3.lt i (by omega) hi; omega
  · have := (h1.rows.row x (by omega) hx).lt y (by omega) hy; omega
theorem tri_pre {n : Int} {f g h : Nat → Nat} (ht : triB n f g h = true) : 0 ≤ n ∧ n ≤ 10 ∧ (∀ i : Nat, (i : Int) < n → f i < 10) ∧ (∀ i : Nat, (i : Int) < n → g i < 10) ∧ (∀ i : Nat, (i : Int) < n → h i < 10) := by
  obtain ⟨h2, h3, h4⟩ := triB_true.1 ht
  have lo := h2.lo
  have hi := h2.hi
  refine ⟨by omega, hi, fun i hi => ?_, fun i hi => ?_, fun i hi => ?_⟩
  · have := h2.lt i (by omega) hi; omega
  · have := h3.lt i (by omega) hi; omega
  · have := h4.lt i (by omega) hi; omega
theorem build_sq0X (w : World) : (Instr.build 37 #[]).run Try.prog w = .ok (.agg (sqs 0 fun _ _ => 0)) w := by kernel_rfl
theorem build_tr0X (w : World) : (Instr.build 46 #[]).run Try.prog w = .ok (.agg (trs (fun _ => 0) (fun _ => 0) (fun _ => 0))) w := by kernel_rfl
theorem l02Is_any (n : Int) (f g h : Nat → Nat) (hf : Byt f) (hg : Byt g) (hh : Byt h) (w : World) :
    Calls Try.prog 162 #[.agg (trs f g h), .int .i64 n] w fun e w' => e = .returned (.bool (triB n f g h)) ∧ Below w.heap.size w w' := by
  have M := Mm.start no w
  have H1 := Hid2.mk (fun w1 => l01Perm_any n f w1 hf)
  have H2 := Hid2.mk (fun w1 => l01Perm_any n g w1 hg)
  have H3 := Hid2.mk (fun w1 => l01Perm_any n h w1 hh)
  clear hf hg hh
  unfold triB
  cases h1 : isPm n f <;> cases h2 : isPm n g <;> cases h3 : isPm n h <;> rw [h1] at H1 <;> rw [h2] at H2 <;> rw [h3] at H3
  all_goals
    go_enter Try.func162, Try.ntmps162
    go_wp2_with (first | ((with_reducible apply wpM_box' M 46 (trs f g h)); rfl; exact ⟨rfl, rfl⟩; clear M; (try clear C); intro b2 w9 h_b2 M; have C := M.ruleAll; simp only [Go.Proofs.Ythdldlpflieeoaa.ruleAll] at C) | ((with_reducible apply wpM_lda' M 0 25 (0) (bys f)); rfl; rfl; rfl; exact ⟨rfl, inf_plc.trans (congrArg some (bys_size ..).symm), _, und_plc, rfl⟩; exact trs_first) | ((with_reducible apply wpM_lda' M 0 25 (10) (bys g)); rfl; rfl; rfl; exact ⟨rfl, inf_plc.trans (congrArg some (bys_size ..).symm), _, und_plc, rfl⟩; exact trs_second) | ((with_reducible apply wpM_lda' M 0 25 (20) (bys h)); rfl; rfl; rfl; exact ⟨rfl, inf_plc.trans (congrArg some (bys_size ..).symm), _, und_plc, rfl⟩; exact trs_third) | (go_at_call 136; ((with_reducible refine (H1.out _).mono ?_); rintro e w1 ⟨rfl, hb⟩; have hsz := M.size; (try (have G9 := G.later hb; clear G; have G := G9; clear G9)); have M9 := M.later hb; clear M; (try clear C); have M := M9; clear M9; have C := M.ruleAll; simp only [Go.Proofs.Ythdldlpflieeoaa.ruleAll] at C)) | (go_at_call 136; ((with_reducible refine (H2.out _).mono ?_); rintro e w1 ⟨rfl, hb⟩; have hsz := M.size; (try (have G9 := G.later hb; clear G; have G := G9; clear G9)); have M9 := M.later hb; clear M; (try clear C); have M := M9; clear M9; have C := M.ruleAll; simp only [Go.Proofs.Ythdldlpflieeoaa.ruleAll] at C)) | (go_at_call 136; ((with_reducible refine (H3.out _).mono ?_); rintro e w1 ⟨rfl, hb⟩; have hsz := M.size; (try (have G9 := G.later hb; clear G; have G := G9; clear G9)); have M9 := M.later hb; clear M; (try clear C); have M := M9; clear M9; have C := M.ruleAll; simp only [Go.Proofs.Ythdldlpflieeoaa.ruleAll] at C)))
    go_ret
    exact ⟨rfl, M.below⟩

set_option maxRecDepth 100000 in
set_option maxHeartbeats 4000000 in
theorem l02Code_any (n : Int) (t : Nat → Nat → Nat) (f g h : Nat → Nat) (ht : Byt2 t) (hf : Byt f) (hg : Byt g) (hh : Byt h) (w : World) :
    Calls Try.prog 158 #[.agg (sqs n t), .agg (trs f g h)] w fun e w' => e = .returned (.int .i64 (bif ioB n t f g h then 0 else 1)) ∧ Below w.heap.size w w' := by
  have M := Mm.start no w
  have H1 := Hid2.mk (fun w1 => l01Is_any n t w1 ht)
  have H2 := Hid2.mk (fun w1 => l02Is_any n f g h hf hg hh w1)
  have so := sqs_order n t
  clear ht hf hg hh
  unfold ioB
  cases h1 : isSq n t <;> cases h2 : triB n f g h <;> rw [h1] at H1 <;> rw [h2] at H2
  all_goals
    go_enter Try.func158, Try.ntmps158
    go_wp2_with (first | ((with_reducible apply wpM_box' M 37 (sqs n t)); rfl; exact ⟨rfl, rfl⟩; clear M; (try clear C); intro b2 w9 h_b2 M; have C := M.ruleAll; simp only [Go.Proofs.Ythdldlpflieeoaa.ruleAll] at C) | ((with_reducible apply wpM_box' M 46 (trs f g h)); rfl; exact ⟨rfl, rfl⟩; clear M; (try clear C); intro b3 w9 h_b3 M; have C := M.ruleAll; simp only [Go.Proofs.Ythdldlpflieeoaa.ruleAll] at C) | ((with_reducible apply wpM_lda' M 1 37 0 (sqs n t)); rfl; rfl; rfl; exact ⟨rfl, inf_sqs.trans (congrArg some (sqs_size ..).symm), _, und_sqs, rfl⟩; exact whole_of rfl) | ((with_reducible apply wpM_lda' M 0 46 0 (trs f g h)); rfl; rfl; rfl; exact ⟨rfl, inf_trp.trans (congrArg some (trs_size ..).symm), _, und_trp, rfl⟩; exact whole_of rfl) | (go_at_call 147; ((with_reducible refine (H1.out _).mono ?_); rintro e w1 ⟨rfl, hb⟩; have hsz := M.size; (try (have G9 := G.later hb; clear G; have G := G9; clear G9)); have M9 := M.later hb; clear M; (try clear C); have M := M9; clear M9; have C := M.ruleAll; simp only [Go.Proofs.Ythdldlpflieeoaa.ruleAll] at C)) | (go_at_call 162; ((with_reducible refine (H2.out _).mono ?_); rintro e w1 ⟨rfl, hb⟩; have hsz := M.size; (try (have G9 := G.later hb; clear G; have G := G9; clear G9)); have M9 := M.later hb; clear M; (try clear C); have M := M9; clear M9; have C := M.ruleAll; simp only [Go.Proofs.Ythdldlpflieeoaa.ruleAll] at C)))
    go_ret
    exact ⟨rfl, M.below⟩

set_option maxRecDepth 100000 in
set_option maxHeartbeats 4000000 in
theorem isotopeOf_any (n : Int) (t : Nat → Nat → Nat) (f g h : Nat → Nat) (ht : Byt2 t) (hf : Byt f) (hg : Byt g) (hh : Byt h) (w : World) :
    Calls Try.prog 33 #[.agg (sqs n t), .agg (trs f g h)] w fun e w' => e = .returned (sqR (ioB n t f g h) n (ioT n t f g h)) ∧ Below w.heap.size w w' := by
  have M := Mm.start no w
  have H1 := Hid2.mk (fun w1 => isSquare_any n t w1 ht)
  have H2 := Hid2.mk (fun w1 => isTriple_any n f g h hf hg hh w1)
  have so := sqs_order n t
  have HI := Hid2.mk (fun (hs : isSq n t = true) (hp : triB n f g h = true) w1 => (show Calls Try.prog 157 #[.agg (sqs n t), .agg (trs f g h)] w1 fun e w' => e = .returned (.agg (sqs n (ioT n t f g h))) ∧ Below w1.heap.size w1 w' from by
    obtain ⟨p1, p2, p3, p4, p5⟩ := io_pre hs hp
    exact isotope_any n t f g h w1 p1 p2 p3 p4 p5))
  clear ht hf hg hh
  cases hb : ioB n t f g h with
  | true =>
    obtain ⟨h1, h2⟩ : isSq n t = true ∧ triB n f g h = true := by unfold ioB at hb; rwa [Bool.and_eq_true] at hb
    have HIS := Hid2.mk (fun w1 => HI.out h1 h2 w1)
    generalize ioT n t f g h = u at HIS ⊢
    rw [h1] at H1
    rw [h2] at H2
    go_enter Try.func33, Try.ntmps33
    go_wp2_with (first | ((with_reducible apply wpM_box' M 37 (sqs n t)); rfl; exact ⟨rfl, rfl⟩; clear M; (try clear C); intro b2 w9 h_b2 M; have C := M.ruleAll; simp only [Go.Proofs.Ythdldlpflieeoaa.ruleAll] at C) | ((with_reducible apply wpM_box' M 46 (trs f g h)); rfl; exact ⟨rfl, rfl⟩; clear M; (try clear C); intro b3 w9 h_b3 M; have C := M.ruleAll; simp only [Go.Proofs.Ythdldlpflieeoaa.ruleAll] at C) | ((with_reducible apply wpM_alloc' M 37 (sqs 0 fun _ _ => 0)); rfl; exact ⟨rfl, _, zero_sqs _, rfl⟩; clear M; (try clear C); intro b4 w9 h_b4 M; have C := M.ruleAll; simp only [Go.Proofs.Ythdldlpflieeoaa.ruleAll] at C) | ((with_reducible apply wpM_lda' M 2 37 0 (sqs n t)); rfl; rfl; rfl; exact ⟨rfl, inf_sqs.trans (congrArg some (sqs_size ..).symm), _, und_sqs, rfl⟩; exact whole_of rfl) | ((with_reducible apply wpM_lda' M 1 46 0 (trs f g h)); rfl; rfl; rfl; exact ⟨rfl, inf_trp.trans (congrArg some (trs_size ..).symm), _, und_trp, rfl⟩; exact whole_of rfl) | (go_at_call 24; ((with_reducible refine (H1.out _).mono ?_); rintro e w1 ⟨rfl, hb⟩; have hsz := M.size; (try (have G9 := G.later hb; clear G; have G := G9; clear G9)); have M9 := M.later hb; clear M; (try clear C); have M := M9; clear M9; have C := M.ruleAll; simp only [Go.Proofs.Ythdldlpflieeoaa.ruleAll] at C)) | (go_at_call 41; ((with_reducible refine (H2.out _).mono ?_); rintro e w1 ⟨rfl, hb⟩; have hsz := M.size; (try (have G9 := G.later hb; clear G; have G := G9; clear G9)); have M9 := M.later hb; clear M; (try clear C); have M := M9; clear M9; have C := M.ruleAll; simp only [Go.Proofs.Ythdldlpflieeoaa.ruleAll] at C)) | (go_at_call 157; ((with_reducible refine (HIS.out _).mono ?_); rintro e w1 ⟨rfl, hb⟩; have hsz := M.size; (try (have G9 := G.later hb; clear G; have G := G9; clear G9)); have M9 := M.later hb; clear M; (try clear C); have M := M9; clear M9; have C := M.ruleAll; simp only [Go.Proofs.Ythdldlpflieeoaa.ruleAll] at C)) | ((with_reducible apply wpM_sta' M 0 37 (sqs n u)); rfl; rfl; rfl; rfl; (first | exact .inl (by assumption) | exact .inr rfl | exact .inr (by assumption)); exact ⟨rfl, inf_sqs.trans (congrArg some (sqs_size ..).symm), flat_sqs _ _⟩; (simp only [entCells, List.getElem?_cons_zero, List.getElem?_cons_succ, sqs_size, sqs_size]); clear M; (try clear C); intro w9 M; simp only [List.set_cons_zero, List.set_cons_succ, entBlk, entT, List.getElem?_cons_zero, List.getElem?_cons_succ] at M; have C := M.ruleAll; simp only [Go.Proofs.Ythdldlpflieeoaa.ruleAll] at C))
    refine bodyPost_ret (v := .tuple #[.agg (sqs n u), .int .i64 0]) (by exact results_part2 rfl _ _ _ _ (sqs n u) _ rfl und_sqs rfl inf_sqs (cells_of_blk0 (M.box 0 rfl)) _ rfl) rfl ?_
    exact ⟨rfl, M.below⟩
  | false =>
    generalize ioT n t f g h = u
    cases h1 : isSq n t <;> cases h2 : triB n f g h <;> rw [h1] at H1 <;> rw [h2] at H2
    case true.true => unfold ioB at hb; rw [h1, h2] at hb; cases hb
    all_goals
      clear hb
      go_enter Try.func33, Try.ntmps33
      go_wp2_with (first | ((with_reducible apply wpM_box' M 37 (sqs n t)); rfl; exact ⟨rfl, rfl⟩; clear M; (try clear C); intro b2 w9 h_b2 M; have C := M.ruleAll; simp only [Go.Proofs.Ythdldlpflieeoaa.ruleAll] at C) | ((with_reducible apply wpM_box' M 46 (trs f g h)); rfl; exact ⟨rfl, rfl⟩; clear M; (try clear C); intro b3 w9 h_b3 M; have C := M.ruleAll; simp only [Go.Proofs.Ythdldlpflieeoaa.ruleAll] at C) | ((with_reducible apply wpM_alloc' M 37 (sqs 0 fun _ _ => 0)); rfl; exact ⟨rfl, _, zero_sqs _, rfl⟩; clear M; (try clear C); intro b4 w9 h_b4 M; have C := M.ruleAll; simp only [Go.Proofs.Ythdldlpflieeoaa.ruleAll] at C) | ((with_reducible apply wpM_lda' M 2 37 0 (sqs n t)); rfl; rfl; rfl; exact ⟨rfl, inf_sqs.trans (congrArg some (sqs_size ..).symm), _, und_sqs, rfl⟩; exact whole_of rfl) | ((with_reducible apply wpM_lda' M 1 46 0 (trs f g h)); rfl; rfl; rfl; exact ⟨rfl, inf_trp.trans (congrArg some (trs_size ..).symm), _, und_trp, rfl⟩; exact whole_of rfl) | (go_at_call 24; ((with_reducible refine (H1.out _).mono ?_); rintro e w1 ⟨rfl, hb⟩; have hsz := M.size; (try (have G9 := G.later hb; clear G; have G := G9; clear G9)); have M9 := M.later hb; clear M; (try clear C); have M := M9; clear M9; have C := M.ruleAll; simp only [Go.Proofs.Ythdldlpflieeoaa.ruleAll] at C)) | (go_at_call 41; ((with_reducible refine (H2.out _).mono ?_); rintro e w1 ⟨rfl, hb⟩; have hsz := M.size; (try (have G9 := G.later hb; clear G; have G := G9; clear G9)); have M9 := M.later hb; clear M; (try clear C); have M := M9; clear M9; have C := M.ruleAll; simp only [Go.Proofs.Ythdldlpflieeoaa.ruleAll] at C)) | (refine wpList_build 37 _ rfl rfl [] rfl _ (build_sq0X _) ?_) | ((with_reducible apply wpM_sta' M 0 37 (sqs 0 fun _ _ => 0)); rfl; rfl; rfl; rfl; (first | exact .inl (by assumption) | exact .inr rfl | exact .inr (by assumption)); exact ⟨rfl, inf_sqs.trans (congrArg some (sqs_size ..).symm), flat_sqs _ _⟩; (simp only [entCells, List.getElem?_cons_zero, List.getElem?_cons_succ, sqs_size, sqs_size]); clear M; (try clear C); intro w9 M; simp only [List.set_cons_zero, List.set_cons_succ, entBlk, entT, List.getElem?_cons_zero, List.getElem?_cons_succ] at M; have C := M.ruleAll; simp only [Go.Proofs.Ythdldlpflieeoaa.ruleAll] at C))
      refine bodyPost_ret (v := .tuple #[.agg (sqs 0 fun _ _ => 0), .int .i64 1]) (by exact results_part2 rfl _ _ _ _ (sqs 0 fun _ _ => 0) _ rfl und_sqs rfl inf_sqs (cells_of_blk0 (M.box 0 rfl)) _ rfl) rfl ?_
      exact ⟨rfl, M.below⟩

set_option maxRecDepth 100000 in
set_option maxHeartbeats 4000000 in
theorem specIsotopeOf_any (n : Int) (t : Nat → Nat → Nat) (f g h : Nat → Nat) (ht : Byt2 t) (hf : Byt f) (hg : Byt g) (hh : Byt h) (w : World) :
    Calls Try.prog 34 #[.agg (sqs n t), .agg (trs f g h)] w fun e w' => e = .returned (sqR (ioB n t f g h) n (ioT n t f g h)) ∧ Below w.heap.size w w' := by
  have M := Mm.start no w
  have H1 := Hid2.mk (l02Code_any n t f g h ht hf hg hh)
  have so := sqs_order n t
  have HI := Hid2.mk (fun (hs : isSq n t = true) (hp : triB n f g h = true) w1 => (show Calls Try.prog 159 #[.agg (sqs n t), .agg (trs f g h)] w1 fun e w' => e = .returned (.agg (sqs n (ioT n t f g h))) ∧ Below w1.heap.size w1 w' from by
    obtain ⟨p1, p2, p3, p4, p5⟩ := io_pre hs hp
    exact l02Isotope_any n t f g h w1 p1 p2 p3 p4 p5))
  clear ht hf hg hh
  cases hb : ioB n t f g h with
  | true =>
    obtain ⟨h1, h2⟩ : isSq n t = true ∧ triB n f g h = true := by unfold ioB at hb; rwa [Bool.and_eq_true] at hb
    have HIS := Hid2.mk (fun w1 => HI.out h1 h2 w1)
    generalize ioT n t f g h = u at HIS ⊢
    rw [hb] at H1
    clear hb
    go_enter Try.func34, Try.ntmps34
    go_wp2_with (first | ((with_reducible apply wpM_box' M 37 (sqs n t)); rfl; exact ⟨rfl, rfl⟩; clear M; (try clear C); intro b2 w9 h_b2 M; have C := M.ruleAll; simp only [Go.Proofs.Ythdldlpflieeoaa.ruleAll] at C) | ((with_reducible apply wpM_box' M 46 (trs f g h)); rfl; exact ⟨rfl, rfl⟩; clear M; (try clear C); intro b3 w9 h_b3 M; have C := M.ruleAll; simp only [Go.Proofs.Ythdldlpflieeoaa.ruleAll] at C) | ((with_reducible apply wpM_alloc' M 37 (sqs 0 fun _ _ => 0)); rfl; exact ⟨rfl, _, zero_sqs _, rfl⟩; clear M; (try clear C); intro b4 w9 h_b4 M; have C := M.ruleAll; simp only [Go.Proofs.Ythdldlpflieeoaa.ruleAll] at C) | ((with_reducible apply wpM_lda' M 2 37 0 (sqs n t)); rfl; rfl; rfl; exact ⟨rfl, inf_sqs.trans (congrArg some (sqs_size ..).symm), _, und_sqs, rfl⟩; exact whole_of rfl) | ((with_reducible apply wpM_lda' M 1 46 0 (trs f g h)); rfl; rfl; rfl; exact ⟨rfl, inf_trp.trans (congrArg some (trs_size ..).symm), _, und_trp, rfl⟩; exact whole_of rfl) | (go_at_call 158; ((with_reducible refine (H1.out _).mono ?_); rintro e w1 ⟨rfl, hb⟩; have hsz := M.size; (try (have G9 := G.later hb; clear G; have G := G9; clear G9)); have M9 := M.later hb; clear M; (try clear C); have M := M9; clear M9; have C := M.ruleAll; simp only [Go.Proofs.Ythdldlpflieeoaa.ruleAll] at C)) | (go_at_call 159; ((with_reducible refine (HIS.out _).mono ?_); rintro e w1 ⟨rfl, hb⟩; have hsz := M.size; (try (have G9 := G.later hb; clear G; have G := G9; clear G9)); have M9 := M.later hb; clear M; (try clear C); have M := M9; clear M9; have C := M.ruleAll; simp only [Go.Proofs.Ythdldlpflieeoaa.ruleAll] at C)) | ((with_reducible apply wpM_sta' M 0 37 (sqs n u)); rfl; rfl; rfl; rfl; (first | exact .inl (by assumption) | exact .inr rfl | exact .inr (by assumption)); exact ⟨rfl, inf_sqs.trans (congrArg some (sqs_size ..).symm), flat_sqs _ _⟩; (simp only [entCells, List.getElem?_cons_zero, List.getElem?_cons_succ, sqs_size, sqs_size]); clear M; (try clear C); intro w9 M; simp only [List.set_cons_zero, List.set_cons_succ, entBlk, entT, List.getElem?_cons_zero, List.getElem?_cons_succ] at M; have C := M.ruleAll; simp only [Go.Proofs.Ythdldlpflieeoaa.ruleAll] at C))
    refine bodyPost_ret (v := .tuple #[.agg (sqs n u), .int .i64 0]) (by exact results_part2 rfl _ _ _ _ (sqs n u) _ rfl und_sqs rfl inf_sqs (cells_of_blk0 (M.box 0 rfl)) _ rfl) rfl ?_
    exact ⟨rfl, M.below⟩
  | false =>
    rw [hb] at H1
    generalize ioT n t f g h = u
    clear hb
    go_enter Try.func34, Try.ntmps34
    go_wp2_with (first | ((with_reducible apply wpM_box' M 37 (sqs n t)); rfl; exact ⟨rfl, rfl⟩; clear M; (try clear C); intro b2 w9 h_b2 M; have C := M.ruleAll; simp only [Go.Proofs.Ythdldlpflieeoaa.ruleAll] at C) | ((with_reducible apply wpM_box' M 46 (trs f g h)); rfl; exact ⟨rfl, rfl⟩; clear M; (try clear C); intro b3 w9 h_b3 M; have C := M.ruleAll; simp only [Go.Proofs.Ythdldlpflieeoaa.ruleAll] at C) | ((with_reducible apply wpM_alloc' M 37 (sqs 0 fun _ _ => 0)); rfl; exact ⟨rfl, _, zero_sqs _, rfl⟩; clear M; (try clear C); intro b4 w9 h_b4 M; have C := M.ruleAll; simp only [Go.Proofs.Ythdldlpflieeoaa.ruleAll] at C) | ((with_reducible apply wpM_lda' M 2 37 0 (sqs n t)); rfl; rfl; rfl; exact ⟨rfl, inf_sqs.trans (congrArg some (sqs_size ..).symm), _, und_sqs, rfl⟩; exact whole_of rfl) | ((with_reducible apply wpM_lda' M 1 46 0 (trs f g h)); rfl; rfl; rfl; exact ⟨rfl, inf_trp.trans (congrArg some (trs_size ..).symm), _, und_trp, rfl⟩; exact whole_of rfl) | (go_at_call 158; ((with_reducible refine (H1.out _).mono ?_); rintro e w1 ⟨rfl, hb⟩; have hsz := M.size; (try (have G9 := G.later hb; clear G; have G := G9; clear G9)); have M9 := M.later hb; clear M; (try clear C); have M := M9; clear M9; have C := M.ruleAll; simp only [Go.Proofs.Ythdldlpflieeoaa.ruleAll] at C)) | (refine wpList_build 37 _ rfl rfl [] rfl _ (build_sq0X _) ?_) | ((with_reducible apply wpM_sta' M 0 37 (sqs 0 fun _ _ => 0)); rfl; rfl; rfl; rfl; (first | exact .inl (by assumption) | exact .inr rfl | exact .inr (by assumption)); exact ⟨rfl, inf_sqs.trans (congrArg some (sqs_size ..).symm), flat_sqs _ _⟩; (simp only [entCells, List.getElem?_cons_zero, List.getElem?_cons_succ, sqs_size, sqs_size]); clear M; (try clear C); intro w9 M; simp only [List.set_cons_zero, List.set_cons_succ, entBlk, entT, List.getElem?_cons_zero, List.getElem?_cons_succ] at M; have C := M.ruleAll; simp only [Go.Proofs.Ythdldlpflieeoaa.ruleAll] at C))
    refine bodyPost_ret (v := .tuple #[.agg (sqs 0 fun _ _ => 0), .int .i64 1]) (by exact results_part2 rfl _ _ _ _ (sqs 0 fun _ _ => 0) _ rfl und_sqs rfl inf_sqs (cells_of_blk0 (M.box 0 rfl)) _ rfl) rfl ?_
    exact ⟨rfl, M.below⟩
end Go.Proofs.Ythdldlpflieeoaa

/- Triples one behind the other and back, autotopisms: contracts on both sides. Printed by gen/x14.py. -/
namespace Go.Proofs.Ythdldlpflieeoaa
set_option linter.unusedSimpArgs false
set_option linter.unusedVariables false
open Go Go.RowKit


set_option maxRecDepth 100000 in
set_option maxHeartbeats 4000000 in
theorem specIsTriple_any (n : Int) (f g h : Nat → Nat) (hf : Byt f) (hg : Byt g) (hh : Byt h) (w : World) :
    Calls Try.prog 42 #[.agg (trs f g h), .int .i64 n] w fun e w' => e = .returned (.bool (triB n f g h)) ∧ Below w.heap.size w w' := by
  have M := Mm.start no w
  have H1 := Hid2.mk (l02Is_any n f g h hf hg hh)
  clear hf hg hh
  go_enter Try.func42, Try.ntmps42
  go_wp2_with (first | ((with_reducible apply wpM_box' M 46 (trs f g h)); rfl; exact ⟨rfl, rfl⟩; clear M; (try clear C); intro b2 w9 h_b2 M; have C := M.ruleAll; simp only [Go.Proofs.Ythdldlpflieeoaa.ruleAll] at C) | ((with_reducible apply wpM_lda' M 0 46 0 (trs f g h)); rfl; rfl; rfl; exact ⟨rfl, inf_trp.trans (congrArg some (trs_size ..).symm), _, und_trp, rfl⟩; exact whole_of rfl) | (go_at_call 162; ((with_reducible refine (H1.out _).mono ?_); rintro e w1 ⟨rfl, hb⟩; have hsz := M.size; (try (have G9 := G.later hb; clear G; have G := G9; clear G9)); have M9 := M.later hb; clear M; (try clear C); have M := M9; clear M9; have C := M.ruleAll; simp only [Go.Proofs.Ythdldlpflieeoaa.ruleAll] at C)))
  go_ret
  exact ⟨rfl, M.below⟩

set_option maxRecDepth 100000 in
set_option maxHeartbeats 4000000 in
theorem thenTriplesOf_any (n : Int) (f g h p q r : Nat → Nat) (hf : Byt f) (hg : Byt g) (hh : Byt h) (hp : Byt p) (hq : Byt q) (hr : Byt r) (w : World) :
    Calls Try.prog 36 #[.agg (trs f g h), .agg (trs p q r), .int .i64 n] w fun e w' => e = .returned (trR (triB n f g h && triB n p q r) (thTo f p n.toNat) (thTo g q n.toNat) (thTo h r n.toNat)) ∧ Below w.heap.size w w' := by
  have M := Mm.start no w
  have H1 := Hid2.mk (isTriple_any n f g h hf hg hh)
  have H2 := Hid2.mk (isTriple_any n p q r hp hq hr)
  have HI := Hid2.mk (fun (h1 : triB n f g h = true) w1 => (show Calls Try.prog 161 #[.agg (trs f g h), .agg (trs p q r), .int .i64 n] w1 fun e w' => e = .returned (.agg (trs (thTo f p n.toNat) (thTo g q n.toNat) (thTo h r n.toNat))) ∧ Below w1.heap.size w1 w' from by
    obtain ⟨p1, p2, p3, p4, p5⟩ := tri_pre h1
    exact thenTriples_any f g h p q r n w1 p1 p2 p3 p4 p5))
  clear hf hg hh hp hq hr
  generalize thTo f p n.toNat = x at HI ⊢
  generalize thTo g q n.toNat = y at HI ⊢
  generalize thTo h r n.toNat = z at HI ⊢
  cases h1 : triB n f g h <;> cases h2 : triB n p q r <;> rw [h1] at H1 <;> rw [h2] at H2
  case true.true =>
    have HIS := Hid2.mk (HI.out h1)
    go_enter Try.func36, Try.ntmps36
    go_wp2_with (first | ((fail_if_success have := h_b3); ((with_reducible apply wpM_box' M 46 (trs f g h)); rfl; exact ⟨rfl, rfl⟩; clear M; (try clear C); intro b3 w9 h_b3 M; have C := M.ruleAll; simp only [Go.Proofs.Ythdldlpflieeoaa.ruleAll] at C)) | ((with_reducible apply wpM_box' M 46 (trs p q r)); rfl; exact ⟨rfl, rfl⟩; clear M; (try clear C); intro b4 w9 h_b4 M; have C := M.ruleAll; simp only [Go.Proofs.Ythdldlpflieeoaa.ruleAll] at C) | ((with_reducible apply wpM_alloc' M 46 (trs (fun _ => 0) (fun _ => 0) (fun _ => 0))); rfl; exact ⟨rfl, _, zero_trp _, rfl⟩; clear M; (try clear C); intro b6 w9 h_b6 M; have C := M.ruleAll; simp only [Go.Proofs.Ythdldlpflieeoaa.ruleAll] at C) | ((with_reducible apply wpM_lda' M 2 46 0 (trs f g h)); rfl; rfl; rfl; exact ⟨rfl, inf_trp.trans (congrArg some (trs_size ..).symm), _, und_trp, rfl⟩; exact whole_of rfl) | ((with_reducible apply wpM_lda' M 1 46 0 (trs p q r)); rfl; rfl; rfl; exact ⟨rfl, inf_trp.trans (congrArg some (trs_size ..).symm), _, und_trp, rfl⟩; exact whole_of rfl) | (go_at_call 41; ((with_reducible refine (H1.out _).mono ?_); rintro e w1 ⟨rfl, hb⟩; have hsz := M.size; (try (have G9 := G.later hb; clear G; have G := G9; clear G9)); have M9 := M.later hb; clear M; (try clear C); have M := M9; clear M9; have C := M.ruleAll; simp only [Go.Proofs.Ythdldlpflieeoaa.ruleAll] at C)) | (go_at_call 41; ((with_reducible refine (H2.out _).mono ?_); rintro e w1 ⟨rfl, hb⟩; have hsz := M.size; (try (have G9 := G.later hb; clear G; have G := G9; clear G9)); have M9 := M.later hb; clear M; (try clear C); have M := M9; clear M9; have C := M.ruleAll; simp only [Go.Proofs.Ythdldlpflieeoaa.ruleAll] at C)) | (go_at_call 161; ((with_reducible refine (HIS.out _).mono ?_); rintro e w1 ⟨rfl, hb⟩; have hsz := M.size; (try (have G9 := G.later hb; clear G; have G := G9; clear G9)); have M9 := M.later hb; clear M; (try clear C); have M := M9; clear M9; have C := M.ruleAll; simp only [Go.Proofs.Ythdldlpflieeoaa.ruleAll] at C)) | ((with_reducible apply wpM_sta' M 0 46 (trs x y z)); rfl; rfl; rfl; rfl; (first | exact .inl (by assumption) | exact .inr rfl | exact .inr (by assumption)); exact ⟨rfl, inf_trp.trans (congrArg some (trs_size ..).symm), flat_trs _ _ _⟩; (simp only [entCells, List.getElem?_cons_zero, List.getElem?_cons_succ, trs_size, trs_size]); clear M; (try clear C); intro w9 M; simp only [List.set_cons_zero, List.set_cons_succ, entBlk, entT, List.getElem?_cons_zero, List.getElem?_cons_succ] at M; have C := M.ruleAll; simp only [Go.Proofs.Ythdldlpflieeoaa.ruleAll] at C))
    refine bodyPost_ret (v := .tuple #[.agg (trs x y z), .int .i64 0]) (by exact results_part2 rfl _ _ _ _ (trs x y z) _ rfl und_trp rfl inf_trp (cells_of_blk0 (M.box 0 rfl)) _ rfl) rfl ?_
    exact ⟨rfl, M.below⟩
  all_goals
    go_enter Try.func36, Try.ntmps36
    go_wp2_with (first | ((fail_if_success have := h_b3); ((with_reducible apply wpM_box' M 46 (trs f g h)); rfl; exact ⟨rfl, rfl⟩; clear M; (try clear C); intro b3 w9 h_b3 M; have C := M.ruleAll; simp only [Go.Proofs.Ythdldlpflieeoaa.ruleAll] at C)) | ((with_reducible apply wpM_box' M 46 (trs p q r)); rfl; exact ⟨rfl, rfl⟩; clear M; (try clear C); intro b4 w9 h_b4 M; have C := M.ruleAll; simp only [Go.Proofs.Ythdldlpflieeoaa.ruleAll] at C) | ((with_reducible apply wpM_alloc' M 46 (trs (fun _ => 0) (fun _ => 0) (fun _ => 0))); rfl; exact ⟨rfl, _, zero_trp _, rfl⟩; clear M; (try clear C); intro b6 w9 h_b6 M; have C := M.ruleAll; simp only [Go.Proofs.Ythdldlpflieeoaa.ruleAll] at C) | ((with_reducible apply wpM_lda' M 2 46 0 (trs f g h)); rfl; rfl; rfl; exact ⟨rfl, inf_trp.trans (congrArg some (trs_size ..).symm), _, und_trp, rfl⟩; exact whole_of rfl) | ((with_reducible apply wpM_lda' M 1 46 0 (trs p q r)); rfl; rfl; rfl; exact ⟨rfl, inf_trp.trans (congrArg some (trs_size ..).symm), _, und_trp, rfl⟩; exact whole_of rfl) | (go_at_call 41; ((with_reducible refine (H1.out _).mono ?_); rintro e w1 ⟨rfl, hb⟩; have hsz := M.size; (try (have G9 := G.later hb; clear G; have G := G9; clear G9)); have M9 := M.later hb; clear M; (try clear C); have M := M9; clear M9; have C := M.ruleAll; simp only [Go.Proofs.Ythdldlpflieeoaa.ruleAll] at C)) | (go_at_call 41; ((with_reducible refine (H2.out _).mono ?_); rintro e w1 ⟨rfl, hb⟩; have hsz := M.size; (try (have G9 := G.later hb; clear G; have G := G9; clear G9)); have M9 := M.later hb; clear M; (try clear C); have M := M9; clear M9; have C := M.ruleAll; simp only [Go.Proofs.Ythdldlpflieeoaa.ruleAll] at C)) | (refine wpList_build 46 _ rfl rfl [] rfl _ (build_tr0X _) ?_) | ((with_reducible apply wpM_sta' M 0 46 (trs (fun _ => 0) (fun _ => 0) (fun _ => 0))); rfl; rfl; rfl; rfl; (first | exact .inl (by assumption) | exact .inr rfl | exact .inr (by assumption)); exact ⟨rfl, inf_trp.trans (congrArg some (trs_size ..).symm), flat_trs _ _ _⟩; (simp only [entCells, List.getElem?_cons_zero, List.getElem?_cons_succ, trs_size, trs_size]); clear M; (try clear C); intro w9 M; simp only [List.set_cons_zero, List.set_cons_succ, entBlk, entT, List.getElem?_cons_zero, List.getElem?_cons_succ] at M; have C := M.ruleAll; simp only [Go.Proofs.Ythdldlpflieeoaa.ruleAll] at C))
    refine bodyPost_ret (v := .tuple #[.agg (trs (fun _ => 0) (fun _ => 0) (fun _ => 0)), .int .i64 1]) (by exact results_part2 rfl _ _ _ _ (trs (fun _ => 0) (fun _ => 0) (fun _ => 0)) _ rfl und_trp rfl inf_trp (cells_of_blk0 (M.box 0 rfl)) _ rfl) rfl ?_
    exact ⟨rfl, M.below⟩

set_option maxRecDepth 100000 in
set_option maxHeartbeats 4000000 in
theorem specThenTriples_any (n : Int) (f g h p q r : Nat → Nat) (hf : Byt f) (hg : Byt g) (hh : Byt h) (hp : Byt p) (hq : Byt q) (hr : Byt r) (w : World) :
    Calls Try.prog 37 #[.agg (trs f g h), .agg (trs p q r), .int .i64 n] w fun e w' => e = .returned (trR (triB n f g h && triB n p q r) (thTo f p n.toNat) (thTo g q n.toNat) (thTo h r n.toNat)) ∧ Below w.heap.size w w' := by
  have M := Mm.start no w
  have H1 := Hid2.mk (l02Is_any n f g h hf hg hh)
  have H2 := Hid2.mk (l02Is_any n p q r hp hq hr)
  have HI := Hid2.mk (fun (h1 : triB n f g h = true) w1 => (show Calls Try.prog 163 #[.agg (trs f g h), .agg (trs p q r), .int .i64 n] w1 fun e w' => e = .returned (.agg (trs (thTo f p n.toNat) (thTo g q n.toNat) (thTo h r n.toNat))) ∧ Below w1.heap.size w1 w' from by
    obtain ⟨p1, p2, p3, p4, p5⟩ := tri_pre h1
    exact l02Then_any f g h p q r n w1 p1 p2 p3 p4 p5))
  clear hf hg hh hp hq hr
  generalize thTo f p n.toNat = x at HI ⊢
  generalize thTo g q n.toNat = y at HI ⊢
  generalize thTo h r n.toNat = z at HI ⊢
  cases h1 : triB n f g h <;> cases h2 : triB n p q r <;> rw [h1] at H1 <;> rw [h2] at H2
  case true.true =>
    have HIS := Hid2.mk (HI.out h1)
    go_enter Try.func37, Try.ntmps37
    go_wp2_with (first | ((fail_if_success have := h_b3); ((with_reducible apply wpM_box' M 46 (trs f g h)); rfl; exact ⟨rfl, rfl⟩; clear M; (try clear C); intro b3 w9 h_b3 M; have C := M.ruleAll; simp only [Go.Proofs.Ythdldlpflieeoaa.ruleAll] at C)) | ((with_reducible apply wpM_box' M 46 (trs p q r)); rfl; exact ⟨rfl, rfl⟩; clear M; (try clear C); intro b4 w9 h_b4 M; have C := M.ruleAll; simp only [Go.Proofs.Ythdldlpflieeoaa.ruleAll] at C) | ((with_reducible apply wpM_alloc' M 46 (trs (fun _ => 0) (fun _ => 0) (fun _ => 0))); rfl; exact ⟨rfl, _, zero_trp _, rfl⟩; clear M; (try clear C); intro b6 w9 h_b6 M; have C := M.ruleAll; simp only [Go.Proofs.Ythdldlpflieeoaa.ruleAll] at C) | ((with_reducible apply wpM_lda' M 2 46 0 (trs f g h)); rfl; rfl; rfl; exact ⟨rfl, inf_trp.trans (congrArg some (trs_size ..).symm), _, und_trp, rfl⟩; exact whole_of rfl) | ((with_reducible apply wpM_lda' M 1 46 0 (trs p q r)); rfl; rfl; rfl; exact ⟨rfl, inf_trp.trans (congrArg some (trs_size ..).symm), _, und_trp, rfl⟩; exact whole_of rfl) | (go_at_call 162; ((with_reducible refine (H1.out _).mono ?_); rintro e w1 ⟨rfl, hb⟩; have hsz := M.size; (try (have G9 := G.later hb; clear G; have G := G9; clear G9)); have M9 := M.later hb; clear M; (try clear C); have M := M9; clear M9; have C := M.ruleAll; simp only [Go.Proofs.Ythdldlpflieeoaa.ruleAll] at C)) | (go_at_call 162; ((with_reducible refine (H2.out _).mono ?_); rintro e w1 ⟨rfl, hb⟩; have hsz := M.size; (try (have G9 := G.later hb; clear G; have G := G9; clear G9)); have M9 := M.later hb; clear M; (try clear C); have M := M9; clear M9; have C := M.ruleAll; simp only [Go.Proofs.Ythdldlpflieeoaa.ruleAll] at C)) | (go_at_call 163; ((with_reducible refine (HIS.out _).mono ?_); rintro e w1 ⟨rfl, hb⟩; have hsz := M.size; (try (have G9 := G.later hb; clear G; have G := G9; clear G9)); have M9 := M.later hb; clear M; (try clear C); have M := M9; clear M9; have C := M.ruleAll; simp only [Go.Proofs.Ythdldlpflieeoaa.ruleAll] at C)) | ((with_reducible apply wpM_sta' M 0 46 (trs x y z)); rfl; rfl; rfl; rfl; (first | exact .inl (by assumption) | exact .inr rfl | exact .inr (by assumption)); exact ⟨rfl, inf_trp.trans (congrArg some (trs_size ..).symm), flat_trs _ _ _⟩; (simp only [entCells, List.getElem?_cons_zero, List.getElem?_cons_succ, trs_size, trs_size]); clear M; (try clear C); intro w9 M; simp only [List.set_cons_zero, List.set_cons_succ, entBlk, entT, List.getElem?_cons_zero, List.getElem?_cons_succ] at M; have C := M.ruleAll; simp only [Go.Proofs.Ythdldlpflieeoaa.ruleAll] at C))
    refine bodyPost_ret (v := .tuple #[.agg (trs x y z), .int .i64 0]) (by exact results_part2 rfl _ _ _ _ (trs x y z) _ rfl und_trp rfl inf_trp (cells_of_blk0 (M.box 0 rfl)) _ rfl) rfl ?_
    exact ⟨rfl, M.below⟩
  all_goals
    go_enter Try.func37, Try.ntmps37
    go_wp2_with (first | ((fail_if_success have := h_b3); ((with_reducible apply wpM_box' M 46 (trs f g h)); rfl; exact ⟨rfl, rfl⟩; clear M; (try clear C); intro b3 w9 h_b3 M; have C := M.ruleAll; simp only [Go.Proofs.Ythdldlpflieeoaa.ruleAll] at C)) | ((with_reducible apply wpM_box' M 46 (trs p q r)); rfl; exact ⟨rfl, rfl⟩; clear M; (try clear C); intro b4 w9 h_b4 M; have C := M.ruleAll; simp only [Go.Proofs.Ythdldlpflieeoaa.ruleAll] at C) | ((with_reducible apply wpM_alloc' M 46 (trs (fun _ => 0) (fun _ => 0) (fun _ => 0))); rfl; exact ⟨rfl, _, zero_trp _, rfl⟩; clear M; (try clear C); intro b6 w9 h_b6 M; have C := M.ruleAll; simp only [Go.Proofs.Ythdldlpflieeoaa.ruleAll] at C) | ((with_reducible apply wpM_lda' M 2 46 0 (trs f g h)); rfl; rfl; rfl; exact ⟨rfl, inf_trp.trans (congrArg some (trs_size ..).symm), _, und_trp, rfl⟩; exact whole_of rfl) | ((with_reducible apply wpM_lda' M 1 46 0 (trs p q r)); rfl; rfl; rfl; exact ⟨rfl, inf_trp.trans (congrArg some (trs_size ..).symm), _, und_trp, rfl⟩; exact whole_of rfl) | (go_at_call 162; ((with_reducible refine (H1.out _).mono ?_); rintro e w1 ⟨rfl, hb⟩; have hsz := M.size; (try (have G9 := G.later hb; clear G; have G := G9; clear G9)); have M9 := M.later hb; clear M; (try clear C); have M := M9; clear M9; have C := M.ruleAll; simp only [Go.Proofs.Ythdldlpflieeoaa.ruleAll] at C)) | (go_at_call 162; ((with_reducible refine (H2.out _).mono ?_); rintro e w1 ⟨rfl, hb⟩; have hsz := M.size; (try (have G9 := G.later hb; clear G; have G := G9; clear G9)); have M9 := M.later hb; clear M; (try clear C); have M := M9; clear M9; have C := M.ruleAll; simp only [Go.Proofs.Ythdldlpflieeoaa.ruleAll] at C)) | (refine wpList_build 46 _ rfl rfl [] rfl _ (build_tr0X _) ?_) | ((with_reducible apply wpM_sta' M 0 46 (trs (fun _ => 0) (fun _ => 0) (fun _ => 0))); rfl; rfl; rfl; rfl; (first | exact .inl (by assumption) | exact .inr rfl | exact .inr (by assumption)); exact ⟨rfl, inf_trp.trans (congrArg some (trs_size ..).symm), flat_trs _ _ _⟩; (simp only [entCells, List.getElem?_cons_zero, List.getElem?_cons_succ, trs_size, trs_size]); clear M; (try clear C); intro w9 M; simp only [List.set_cons_zero, List.set_cons_succ, entBlk, entT, List.getElem?_cons_zero, List.getElem?_cons_succ] at M; have C := M.ruleAll; simp only [Go.Proofs.Ythdldlpflieeoaa.ruleAll] at C))
    refine bodyPost_ret (v := .tuple #[.agg (trs (fun _ => 0) (fun _ => 0) (fun _ => 0)), .int .i64 1]) (by exact results_part2 rfl _ _ _ _ (trs (fun _ => 0) (fun _ => 0) (fun _ => 0)) _ rfl und_trp rfl inf_trp (cells_of_blk0 (M.box 0 rfl)) _ rfl) rfl ?_
    exact ⟨rfl, M.below⟩

set_option maxRecDepth 100000 in
set_option maxHeartbeats 4000000 in
theorem backTripleOf_any (n : Int) (f g h : Nat → Nat) (hf : Byt f) (hg : Byt g) (hh : Byt h) (w : World) :
    Calls Try.prog 39 #[.agg (trs f g h), .int .i64 n] w fun e w' => e = .returned (trR (triB n f g h) (bkTo f n.toNat) (bkTo g n.toNat) (bkTo h n.toNat)) ∧ Below w.heap.size w w' := by
  have M := Mm.start no w
  have H1 := Hid2.mk (isTriple_any n f g h hf hg hh)
  have HI := Hid2.mk (fun (h1 : triB n f g h = true) w1 => (show Calls Try.prog 165 #[.agg (trs f g h), .int .i64 n] w1 fun e w' => e = .returned (.agg (trs (bkTo f n.toNat) (bkTo g n.toNat) (bkTo h n.toNat))) ∧ Below w1.heap.size w1 w' from by
    obtain ⟨p1, p2, p3, p4, p5⟩ := tri_pre h1
    exact backTriple_any f g h n w1 p1 p2 p3 p4 p5))
  clear hf hg hh
  generalize bkTo f n.toNat = x at HI ⊢
  generalize bkTo g n.toNat = y at HI ⊢
  generalize bkTo h n.toNat = z at HI ⊢
  cases h1 : triB n f g h <;> rw [h1] at H1
  case true =>
    have HIS := Hid2.mk (HI.out h1)
    go_enter Try.func39, Try.ntmps39
    go_wp2_with (first | ((with_reducible apply wpM_box' M 46 (trs f g h)); rfl; exact ⟨rfl, rfl⟩; clear M; (try clear C); intro b2 w9 h_b2 M; have C := M.ruleAll; simp only [Go.Proofs.Ythdldlpflieeoaa.ruleAll] at C) | ((with_reducible apply wpM_alloc' M 46 (trs (fun _ => 0) (fun _ => 0) (fun _ => 0))); rfl; exact ⟨rfl, _, zero_trp _, rfl⟩; clear M; (try clear C); intro b4 w9 h_b4 M; have C := M.ruleAll; simp only [Go.Proofs.Ythdldlpflieeoaa.ruleAll] at C) | ((with_reducible apply wpM_lda' M 1 46 0 (trs f g h)); rfl; rfl; rfl; exact ⟨rfl, inf_trp.trans (congrArg some (trs_size ..).symm), _, und_trp, rfl⟩; exact whole_of rfl) | (go_at_call 41; ((with_reducible refine (H1.out _).mono ?_); rintro e w1 ⟨rfl, hb⟩; have hsz := M.size; (try (have G9 := G.later hb; clear G; have G := G9; clear G9)); have M9 := M.later hb; clear M; (try clear C); have M := M9; clear M9; have C := M.ruleAll; simp only [Go.Proofs.Ythdldlpflieeoaa.ruleAll] at C)) | (go_at_call 165; ((with_reducible refine (HIS.out _).mono ?_); rintro e w1 ⟨rfl, hb⟩; have hsz := M.size; (try (have G9 := G.later hb; clear G; have G := G9; clear G9)); have M9 := M.later hb; clear M; (try clear C); have M := M9; clear M9; have C := M.ruleAll; simp only [Go.Proofs.Ythdldlpflieeoaa.ruleAll] at C)) | ((with_reducible apply wpM_sta' M 0 46 (trs x y z)); rfl; rfl; rfl; rfl; (first | exact .inl (by assumption) | exact .inr rfl | exact .inr (by assumption)); exact ⟨rfl, inf_trp.trans (congrArg some (trs_size ..).symm), flat_trs _ _ _⟩; (simp only [entCells, List.getElem?_cons_zero, List.getElem?_cons_succ, trs_size, trs_size]); clear M; (try clear C); intro w9 M; simp only [List.set_cons_zero, List.set_cons_succ, entBlk, entT, List.getElem?_cons_zero, List.getElem?_cons_succ] at M; have C := M.ruleAll; simp only [Go.Proofs.Ythdldlpflieeoaa.ruleAll] at C))
    refine bodyPost_ret (v := .tuple #[.agg (trs x y z), .int .i64 0]) (by exact results_part2 rfl _ _ _ _ (trs x y z) _ rfl und_trp rfl inf_trp (cells_of_blk0 (M.box 0 rfl)) _ rfl) rfl ?_
    exact ⟨rfl, M.below⟩
  case false =>
    go_enter Try.func39, Try.ntmps39
    go_wp2_with (first | ((with_reducible apply wpM_box' M 46 (trs f g h)); rfl; exact ⟨rfl, rfl⟩; clear M; (try clear C); intro b2 w9 h_b2 M; have C := M.ruleAll; simp only [Go.Proofs.Ythdldlpflieeoaa.ruleAll] at C) | ((with_reducible apply wpM_alloc' M 46 (trs (fun _ => 0) (fun _ => 0) (fun _ => 0))); rfl; exact ⟨rfl, _, zero_trp _, rfl⟩; clear M; (try clear C); intro b4 w9 h_b4 M; have C := M.ruleAll; simp only [Go.Proofs.Ythdldlpflieeoaa.ruleAll] at C) | ((with_reducible apply wpM_lda' M 1 46 0 (trs f g h)); rfl; rfl; rfl; exact ⟨rfl, inf_trp.trans (congrArg some (trs_size ..).symm), _, und_trp, rfl⟩; exact whole_of rfl) | (go_at_call 41; ((with_reducible refine (H1.out _).mono ?_); rintro e w1 ⟨rfl, hb⟩; have hsz := M.size; (try (have G9 := G.later hb; clear G; have G := G9; clear G9)); have M9 := M.later hb; clear M; (try clear C); have M := M9; clear M9; have C := M.ruleAll; simp only [Go.Proofs.Ythdldlpflieeoaa.ruleAll] at C)) | (refine wpList_build 46 _ rfl rfl [] rfl _ (build_tr0X _) ?_) | ((with_reducible apply wpM_sta' M 0 46 (trs (fun _ => 0) (fun _ => 0) (fun _ => 0))); rfl; rfl; rfl; rfl; (first | exact .inl (by assumption) | exact .inr rfl | exact .inr (by assumption)); exact ⟨rfl, inf_trp.trans (congrArg some (trs_size ..).symm), flat_trs _ _ _⟩; (simp only [entCells, List.getElem?_cons_zero, List.getElem?_cons_succ, trs_size, trs_size]); clear M; (try clear C); intro w9 M; simp only [List.set_cons_zero, List.set_cons_succ, entBlk, entT, List.getElem?_cons_zero, List.getElem?_cons_succ] at M; have C := M.ruleAll; simp only [Go.Proofs.Ythdldlpflieeoaa.ruleAll] at C))
    refine bodyPost_ret (v := .tuple #[.agg (trs (fun _ => 0) (fun _ => 0) (fun _ => 0)), .int .i64 1]) (by exact results_part2 rfl _ _ _ _ (trs (fun _ => 0) (fun _ => 0) (fun _ => 0)) _ rfl und_trp rfl inf_trp (cells_of_blk0 (M.box 0 rfl)) _ rfl) rfl ?_
    exact ⟨rfl, M.below⟩

set_option maxRecDepth 100000 in
set_option maxHeartbeats 4000000 in
theorem specBackTriple_any (n : Int) (f g h : Nat → Nat) (hf : Byt f) (hg : Byt g) (hh : Byt h) (w : World) :
    Calls Try.prog 40 #[.agg (trs f g h), .int .i64 n] w fun e w' => e = .returned (trR (triB n f g h) (bkTo f n.toNat) (bkTo g n.toNat) (bkTo h n.toNat)) ∧ Below w.heap.size w w' := by
  have M := Mm.start no w
  have H1 := Hid2.mk (l02Is_any n f g h hf hg hh)
  have HI := Hid2.mk (fun (h1 : triB n f g h = true) w1 => (show Calls Try.prog 166 #[.agg (trs f g h), .int .i64 n] w1 fun e w' => e = .returned (.agg (trs (bkTo f n.toNat) (bkTo g n.toNat) (bkTo h n.toNat))) ∧ Below w1.heap.size w1 w' from by
    obtain ⟨p1, p2, p3, p4, p5⟩ := tri_pre h1
    exact l02Back_any f g h n w1 p1 p2 p3 p4 p5))
  clear hf hg hh
  generalize bkTo f n.toNat = x at HI ⊢
  generalize bkTo g n.toNat = y at HI ⊢
  generalize bkTo h n.toNat = z at HI ⊢
  cases h1 : triB n f g h <;> rw [h1] at H1
  case true =>
    have HIS := Hid2.mk (HI.out h1)
    go_enter Try.func40, Try.ntmps40
    go_wp2_with (first | ((with_reducible apply wpM_box' M 46 (trs f g h)); rfl; exact ⟨rfl, rfl⟩; clear M; (try clear C); intro b2 w9 h_b2 M; have C := M.ruleAll; simp only [Go.Proofs.Ythdldlpflieeoaa.ruleAll] at C) | ((with_reducible apply wpM_alloc' M 46 (trs (fun _ => 0) (fun _ => 0) (fun _ => 0))); rfl; exact ⟨rfl, _, zero_trp _, rfl⟩; clear M; (try clear C); intro b4 w9 h_b4 M; have C := M.ruleAll; simp only [Go.Proofs.Ythdldlpflieeoaa.ruleAll] at C) | ((with_reducible apply wpM_lda' M 1 46 0 (trs f g h)); rfl; rfl; rfl; exact ⟨rfl, inf_trp.trans (congrArg some (trs_size ..).symm), _, und_trp, rfl⟩; exact whole_of rfl) | (go_at_call 162; ((with_reducible refine (H1.out _).mono ?_); rintro e w1 ⟨rfl, hb⟩; have hsz := M.size; (try (have G9 := G.later hb; clear G; have G := G9; clear G9)); have M9 := M.later hb; clear M; (try clear C); have M := M9; clear M9; have C := M.ruleAll; simp only [Go.Proofs.Ythdldlpflieeoaa.ruleAll] at C)) | (go_at_call 166; ((with_reducible refine (HIS.out _).mono ?_); rintro e w1 ⟨rfl, hb⟩; have hsz := M.size; (try (have G9 := G.later hb; clear G; have G := G9; clear G9)); have M9 := M.later hb; clear M; (try clear C); have M := M9; clear M9; have C := M.ruleAll; simp only [Go.Proofs.Ythdldlpflieeoaa.ruleAll] at C)) | ((with_reducible apply wpM_sta' M 0 46 (trs x y z)); rfl; rfl; rfl; rfl; (first | exact .inl (by assumption) | exact .inr rfl | exact .inr (by assumption)); exact ⟨rfl, inf_trp.trans (congrArg some (trs_size ..).symm), flat_trs _ _ _⟩; (simp only [entCells, List.getElem?_cons_zero, List.getElem?_cons_succ, trs_size, trs_size]); clear M; (try clear C); intro w9 M; simp only [List.set_cons_zero, List.set_cons_succ, entBlk, entT, List.getElem?_cons_zero, List.getElem?_cons_succ] at M; have C := M.ruleAll; simp only [Go.Proofs.Ythdldlpflieeoaa.ruleAll] at C))
    refine bodyPost_ret (v := .tuple #[.agg (trs x y z), .int .i64 0]) (by exact results_part2 rfl _ _ _ _ (trs x y z) _ rfl und_trp rfl inf_trp (cells_of_blk0 (M.box 0 rfl)) _ rfl) rfl ?_
    exact ⟨rfl, M.below⟩
  case false =>
    go_enter Try.func40, Try.ntmps40
    go_wp2_with (first | ((with_reducible apply wpM_box' M 46 (trs f g h)); rfl; exact ⟨rfl, rfl⟩; clear M; (try clear C); intro b2 w9 h_b2 M; have C := M.ruleAll; simp only [Go.Proofs.Ythdldlpflieeoaa.ruleAll] at C) | ((with_reducible apply wpM_alloc' M 46 (trs (fun _ => 0) (fun _ => 0) (fun _ => 0))); rfl; exact ⟨rfl, _, zero_trp _, rfl⟩; clear M; (try clear C); intro b4 w9 h_b4 M; have C := M.ruleAll; simp only [Go.Proofs.Ythdldlpflieeoaa.ruleAll] at C) | ((with_reducible apply wpM_lda' M 1 46 0 (trs f g h)); rfl; rfl; rfl; exact ⟨rfl, inf_trp.trans (congrArg some (trs_size ..).symm), _, und_trp, rfl⟩; exact whole_of rfl) | (go_at_call 162; ((with_reducible refine (H1.out _).mono ?_); rintro e w1 ⟨rfl, hb⟩; have hsz := M.size; (try (have G9 := G.later hb; clear G; have G := G9; clear G9)); have M9 := M.later hb; clear M; (try clear C); have M := M9; clear M9; have C := M.ruleAll; simp only [Go.Proofs.Ythdldlpflieeoaa.ruleAll] at C)) | (refine wpList_build 46 _ rfl rfl [] rfl _ (build_tr0X _) ?_) | ((with_reducible apply wpM_sta' M 0 46 (trs (fun _ => 0) (fun _ => 0) (fun _ => 0))); rfl; rfl; rfl; rfl; (first | exact .inl (by assumption) | exact .inr rfl | exact .inr (by assumption)); exact ⟨rfl, inf_trp.trans (congrArg some (trs_size ..).symm), flat_trs _ _ _⟩; (simp only [entCells, List.getElem?_cons_zero, List.getElem?_cons_succ, trs_size, trs_size]); clear M; (try clear C); intro w9 M; simp only [List.set_cons_zero, List.set_cons_succ, entBlk, entT, List.getElem?_cons_zero, List.getElem?_cons_succ] at M; have C := M.ruleAll; simp only [Go.Proofs.Ythdldlpflieeoaa.ruleAll] at C))
    refine bodyPost_ret (v := .tuple #[.agg (trs (fun _ => 0) (fun _ => 0) (fun _ => 0)), .int .i64 1]) (by exact results_part2 rfl _ _ _ _ (trs (fun _ => 0) (fun _ => 0) (fun _ => 0)) _ rfl und_trp rfl inf_trp (cells_of_blk0 (M.box 0 rfl)) _ rfl) rfl ?_
    exact ⟨rfl, M.below⟩

/-- Whether a triple is an autotopism. -/
noncomputable def auB (n : Int) (t : Nat → Nat → Nat) (f g h : Nat → Nat) : Bool := ioB n t f g h && eqT (ioT n t f g h) t
def auR (b c : Bool) : Value := .tuple #[.bool (b && c), .int .i64 (bif b then 0 else 1)]

set_option maxRecDepth 100000 in
set_option maxHeartbeats 4000000 in
theorem isAutotopism_any (n : Int) (t : Nat → Nat → Nat) (f g h : Nat → Nat) (ht : Byt2 t) (hf : Byt f) (hg : Byt g) (hh : Byt h) (w : World) :
    Calls Try.prog 44 #[.agg (sqs n t), .agg (trs f g h)] w fun e w' => e = .returned (auR (ioB n t f g h) (eqT (ioT n t f g h) t)) ∧ Below w.heap.size w w' := by
  have M := Mm.start no w
  have H1 := Hid2.mk (fun w1 => isSquare_any n t w1 ht)
  have H2 := Hid2.mk (fun w1 => isTriple_any n f g h hf hg hh w1)
  have so := sqs_order n t
  have HI := Hid2.mk (fun (hs : isSq n t = true) (hp : triB n f g h = true) w1 => (show Calls Try.prog 157 #[.agg (sqs n t), .agg (trs f g h)] w1 fun e w' => e = .returned (.agg (sqs n (ioT n t f g h))) ∧ Below w1.heap.size w1 w' from by
    obtain ⟨p1, p2, p3, p4, p5⟩ := io_pre hs hp
    exact isotope_any n t f g h w1 p1 p2 p3 p4 p5))
  have HE := Hid2.mk (fun u w1 => eql_sq n n u t w1)
  have hnn : (n == n) = true := by simp
  clear ht hf hg hh
  cases hb : ioB n t f g h with
  | true =>
    obtain ⟨h1, h2⟩ : isSq n t = true ∧ triB n f g h = true := by unfold ioB at hb; rwa [Bool.and_eq_true] at hb
    have HIS := Hid2.mk (fun w1 => HI.out h1 h2 w1)
    generalize ioT n t f g h = u at HIS ⊢
    rw [h1] at H1
    rw [h2] at H2
    cases hq : eqT u t
    all_goals
      have HEQ := Hid2.mk (fun w1 => HE.out u w1)
      rw [hnn, hq] at HEQ
      go_enter Try.func44, Try.ntmps44
      go_wp2_with (first | ((with_reducible apply wpM_box' M 37 (sqs n t)); rfl; exact ⟨rfl, rfl⟩; clear M; (try clear C); intro b2 w9 h_b2 M; have C := M.ruleAll; simp only [Go.Proofs.Ythdldlpflieeoaa.ruleAll] at C) | ((with_reducible apply wpM_box' M 46 (trs f g h)); rfl; exact ⟨rfl, rfl⟩; clear M; (try clear C); intro b3 w9 h_b3 M; have C := M.ruleAll; simp only [Go.Proofs.Ythdldlpflieeoaa.ruleAll] at C) | ((with_reducible apply wpM_lda' M 1 37 0 (sqs n t)); rfl; rfl; rfl; exact ⟨rfl, inf_sqs.trans (congrArg some (sqs_size ..).symm), _, und_sqs, rfl⟩; exact whole_of rfl) | ((with_reducible apply wpM_lda' M 0 46 0 (trs f g h)); rfl; rfl; rfl; exact ⟨rfl, inf_trp.trans (congrArg some (trs_size ..).symm), _, und_trp, rfl⟩; exact whole_of rfl) | (go_at_call 24; ((with_reducible refine (H1.out _).mono ?_); rintro e w1 ⟨rfl, hb⟩; have hsz := M.size; (try (have G9 := G.later hb; clear G; have G := G9; clear G9)); have M9 := M.later hb; clear M; (try clear C); have M := M9; clear M9; have C := M.ruleAll; simp only [Go.Proofs.Ythdldlpflieeoaa.ruleAll] at C)) | (go_at_call 41; ((with_reducible refine (H2.out _).mono ?_); rintro e w1 ⟨rfl, hb⟩; have hsz := M.size; (try (have G9 := G.later hb; clear G; have G := G9; clear G9)); have M9 := M.later hb; clear M; (try clear C); have M := M9; clear M9; have C := M.ruleAll; simp only [Go.Proofs.Ythdldlpflieeoaa.ruleAll] at C)))
      apply wp_region_mm M 5 (by kernel_rfl) (by kernel_rfl); (simp only [List.take_succ_cons, List.take_zero]; repeat (first | exact wpText_nil | (apply wpText_cons; (intro w2 M; have C := M.ruleAll; simp only [Go.Proofs.Ythdldlpflieeoaa.ruleAll] at C; go_wp2_with (first | ((with_reducible apply wpM_lda' M 1 37 0 (sqs n t)); rfl; rfl; rfl; exact ⟨rfl, inf_sqs.trans (congrArg some (sqs_size ..).symm), _, und_sqs, rfl⟩; exact whole_of rfl) | ((with_reducible apply wpM_lda' M 0 46 0 (trs f g h)); rfl; rfl; rfl; exact ⟨rfl, inf_trp.trans (congrArg some (trs_size ..).symm), _, und_trp, rfl⟩; exact whole_of rfl) | (go_at_call 157; ((with_reducible refine (HIS.out _).mono ?_); rintro e w1 ⟨rfl, hb⟩; have hsz := M.size; (try (have G9 := G.later hb; clear G; have G := G9; clear G9)); have M9 := M.later hb; clear M; (try clear C); have M := M9; clear M9; have C := M.ruleAll; simp only [Go.Proofs.Ythdldlpflieeoaa.ruleAll] at C)) | (refine wpList_agg_g .eql 37 _ _ _ rfl rfl (sqs n u) (sqs n t) rfl rfl egt_sqs _ (HEQ.out _) ?_)); exact ⟨rfl, rfl, M⟩); rfl))); (clear M; (try clear C); intro w2 M; simp only [List.drop_succ_cons, List.drop_zero]; have C := M.ruleAll; simp only [Go.Proofs.Ythdldlpflieeoaa.ruleAll] at C)
      go_wp2
      go_ret2
      exact ⟨rfl, M.below⟩
  | false =>
    generalize eqT (ioT n t f g h) t = c
    cases h1 : isSq n t <;> cases h2 : triB n f g h <;> rw [h1] at H1 <;> rw [h2] at H2
    case true.true => unfold ioB at hb; rw [h1, h2] at hb; cases hb
    all_goals
      clear hb
      go_enter Try.func44, Try.ntmps44
      go_wp2_with (first | ((with_reducible apply wpM_box' M 37 (sqs n t)); rfl; exact ⟨rfl, rfl⟩; clear M; (try clear C); intro b2 w9 h_b2 M; have C := M.ruleAll; simp only [Go.Proofs.Ythdldlpflieeoaa.ruleAll] at C) | ((with_reducible apply wpM_box' M 46 (trs f g h)); rfl; exact ⟨rfl, rfl⟩; clear M; (try clear C); intro b3 w9 h_b3 M; have C := M.ruleAll; simp only [Go.Proofs.Ythdldlpflieeoaa.ruleAll] at C) | ((with_reducible apply wpM_lda' M 1 37 0 (sqs n t)); rfl; rfl; rfl; exact ⟨rfl, inf_sqs.trans (congrArg some (sqs_size ..).symm), _, und_sqs, rfl⟩; exact whole_of rfl) | ((with_reducible apply wpM_lda' M 0 46 0 (trs f g h)); rfl; rfl; rfl; exact ⟨rfl, inf_trp.trans (congrArg some (trs_size ..).symm), _, und_trp, rfl⟩; exact whole_of rfl) | (go_at_call 24; ((with_reducible refine (H1.out _).mono ?_); rintro e w1 ⟨rfl, hb⟩; have hsz := M.size; (try (have G9 := G.later hb; clear G; have G := G9; clear G9)); have M9 := M.later hb; clear M; (try clear C); have M := M9; clear M9; have C := M.ruleAll; simp only [Go.Proofs.Ythdldlpflieeoaa.ruleAll] at C)) | (go_at_call 41; ((with_reducible refine (H2.out _).mono ?_); rintro e w1 ⟨rfl, hb⟩; have hsz := M.size; (try (have G9 := G.later hb; clear G; have G := G9; clear G9)); have M9 := M.later hb; clear M; (try clear C); have M := M9; clear M9; have C := M.ruleAll; simp only [Go.Proofs.Ythdldlpflieeoaa.ruleAll] at C)))
      go_ret2
      exact ⟨rfl, M.below⟩

set_option maxRecDepth 100000 in
set_option maxHeartbeats 4000000 in
theorem specIsAutotopism_any (n : Int) (t : Nat → Nat → Nat) (f g h : Nat → Nat) (ht : Byt2 t) (hf : Byt f) (hg : Byt g) (hh : Byt h) (w : World) :
    Calls Try.prog 45 #[.agg (sqs n t), .agg (trs f g h)] w fun e w' => e = .returned (auR (ioB n t f g h) (eqT (ioT n t f g h) t)) ∧ Below w.heap.size w w' := by
  have M := Mm.start no w
  have H1 := Hid2.mk (l02Code_any n t f g h ht hf hg hh)
  have so := sqs_order n t
  have HI := Hid2.mk (fun (hs : isSq n t = true) (hp : triB n f g h = true) w1 => (show Calls Try.prog 159 #[.agg (sqs n t), .agg (trs f g h)] w1 fun e w' => e = .returned (.agg (sqs n (ioT n t f g h))) ∧ Below w1.heap.size w1 w' from by
    obtain ⟨p1, p2, p3, p4, p5⟩ := io_pre hs hp
    exact l02Isotope_any n t f g h w1 p1 p2 p3 p4 p5))
  have HE := Hid2.mk (fun u w1 => eql_sq n n u t w1)
  have hnn : (n == n) = true := by simp
  clear ht hf hg hh
  cases hb : ioB n t f g h with
  | true =>
    obtain ⟨h1, h2⟩ : isSq n t = true ∧ triB n f g h = true := by unfold ioB at hb; rwa [Bool.and_eq_true] at hb
    have HIS := Hid2.mk (fun w1 => HI.out h1 h2 w1)
    generalize ioT n t f g h = u at HIS ⊢
    rw [hb] at H1
    clear hb
    cases hq : eqT u t
    all_goals
      have HEQ := Hid2.mk (fun w1 => HE.out u w1)
      rw [hnn, hq] at HEQ
      go_enter Try.func45, Try.ntmps45
      go_wp2_with (first | ((with_reducible apply wpM_box' M 37 (sqs n t)); rfl; exact ⟨rfl, rfl⟩; clear M; (try clear C); intro b2 w9 h_b2 M; have C := M.ruleAll; simp only [Go.Proofs.Ythdldlpflieeoaa.ruleAll] at C) | ((with_reducible apply wpM_box' M 46 (trs f g h)); rfl; exact ⟨rfl, rfl⟩; clear M; (try clear C); intro b3 w9 h_b3 M; have C := M.ruleAll; simp only [Go.Proofs.Ythdldlpflieeoaa.ruleAll] at C) | ((with_reducible apply wpM_lda' M 1 37 0 (sqs n t)); rfl; rfl; rfl; exact ⟨rfl, inf_sqs.trans (congrArg some (sqs_size ..).symm), _, und_sqs, rfl⟩; exact whole_of rfl) | ((with_reducible apply wpM_lda' M 0 46 0 (trs f g h)); rfl; rfl; rfl; exact ⟨rfl, inf_trp.trans (congrArg some (trs_size ..).symm), _, und_trp, rfl⟩; exact whole_of rfl) | (go_at_call 158; ((with_reducible refine (H1.out _).mono ?_); rintro e w1 ⟨rfl, hb⟩; have hsz := M.size; (try (have G9 := G.later hb; clear G; have G := G9; clear G9)); have M9 := M.later hb; clear M; (try clear C); have M := M9; clear M9; have C := M.ruleAll; simp only [Go.Proofs.Ythdldlpflieeoaa.ruleAll] at C)))
      apply wp_region_mm M 5 (by kernel_rfl) (by kernel_rfl); (simp only [List.take_succ_cons, List.take_zero]; repeat (first | exact wpText_nil | (apply wpText_cons; (intro w2 M; have C := M.ruleAll; simp only [Go.Proofs.Ythdldlpflieeoaa.ruleAll] at C; go_wp2_with (first | ((with_reducible apply wpM_lda' M 1 37 0 (sqs n t)); rfl; rfl; rfl; exact ⟨rfl, inf_sqs.trans (congrArg some (sqs_size ..).symm), _, und_sqs, rfl⟩; exact whole_of rfl) | ((with_reducible apply wpM_lda' M 0 46 0 (trs f g h)); rfl; rfl; rfl; exact ⟨rfl, inf_trp.trans (congrArg some (trs_size ..).symm), _, und_trp, rfl⟩; exact whole_of rfl) | (go_at_call 159; ((with_reducible refine (HIS.out _).mono ?_); rintro e w1 ⟨rfl, hb⟩; have hsz := M.size; (try (have G9 := G.later hb; clear G; have G := G9; clear G9)); have M9 := M.later hb; clear M; (try clear C); have M := M9; clear M9; have C := M.ruleAll; simp only [Go.Proofs.Ythdldlpflieeoaa.ruleAll] at C)) | (refine wpList_agg_g .eql 37 _ _ _ rfl rfl (sqs n u) (sqs n t) rfl rfl egt_sqs _ (HEQ.out _) ?_)); exact ⟨rfl, rfl, M⟩); rfl))); (clear M; (try clear C); intro w2 M; simp only [List.drop_succ_cons, List.drop_zero]; have C := M.ruleAll; simp only [Go.Proofs.Ythdldlpflieeoaa.ruleAll] at C)
      go_wp2
      go_ret2
      exact ⟨rfl, M.below⟩
  | false =>
    generalize eqT (ioT n t f g h) t = c
    rw [hb] at H1
    clear hb
    go_enter Try.func45, Try.ntmps45
    go_wp2_with (first | ((with_reducible apply wpM_box' M 37 (sqs n t)); rfl; exact ⟨rfl, rfl⟩; clear M; (try clear C); intro b2 w9 h_b2 M; have C := M.ruleAll; simp only [Go.Proofs.Ythdldlpflieeoaa.ruleAll] at C) | ((with_reducible apply wpM_box' M 46 (trs f g h)); rfl; exact ⟨rfl, rfl⟩; clear M; (try clear C); intro b3 w9 h_b3 M; have C := M.ruleAll; simp only [Go.Proofs.Ythdldlpflieeoaa.ruleAll] at C) | ((with_reducible apply wpM_lda' M 1 37 0 (sqs n t)); rfl; rfl; rfl; exact ⟨rfl, inf_sqs.trans (congrArg some (sqs_size ..).symm), _, und_sqs, rfl⟩; exact whole_of rfl) | ((with_reducible apply wpM_lda' M 0 46 0 (trs f g h)); rfl; rfl; rfl; exact ⟨rfl, inf_trp.trans (congrArg some (trs_size ..).symm), _, und_trp, rfl⟩; exact whole_of rfl) | (go_at_call 158; ((with_reducible refine (H1.out _).mono ?_); rintro e w1 ⟨rfl, hb⟩; have hsz := M.size; (try (have G9 := G.later hb; clear G; have G := G9; clear G9)); have M9 := M.later hb; clear M; (try clear C); have M := M9; clear M9; have C := M.ruleAll; simp only [Go.Proofs.Ythdldlpflieeoaa.ruleAll] at C)))
    go_ret2
    exact ⟨rfl, M.below⟩
end Go.Proofs.Ythdldlpflieeoaa

/- Terms as plain mathematics: which bytes are a term, its value at three elements, and the first place where two terms differ. -/
namespace Go.Proofs.Ythdldlpflieeoaa
set_option linter.unusedSimpArgs false
set_option linter.unusedVariables false

/-! ### Which bytes are a term -/
def isLeafB (b : Nat) : Bool := b == 120 || b == 121 || b == 122 || b == 101
def isOpB (b : Nat) : Bool := b == 42 || b == 92 || b == 47
/-- How many values there are after one more byte. -/
def tmStep (b v : Nat) : Option Nat := if isLeafB b = true then some (v + 1) else if isOpB b = true ∧ 2 ≤ v then some (v - 1) else none
/-- How many values there are behind the bytes, if they are the beginning of a term. -/
def tmTo (f : Nat → Nat) : Nat → Option Nat
  | 0 => some 0
  | k + 1 => match tmTo f k with | some v => tmStep (f k) v | none => none
theorem tmTo_none {f : Nat → Nat} {k : Nat} (h : tmTo f k = none) : ∀ m, k ≤ m → tmTo f m = none := by
  intro m hm
  induction m with
  | zero => obtain rfl : k = 0 := by omega
            exact h
  | succ m ih =>
    by_cases e : k = m + 1
    · subst e; exact h
    · rw [tmTo, ih (by omega)]
theorem tmTo_le {f : Nat → Nat} : ∀ {k v : Nat}, tmTo f k = some v → v ≤ k
  | 0, v, h => by cases h; exact Nat.le_refl _
  | k + 1, v, h => by
    rw [tmTo] at h
    split at h
    · rename_i u hu
      have := tmTo_le hu
      simp only [tmStep] at h
      split at h
      · cases h; omega
      · split at h
        · cases h; omega
        · cases h
    · cases h
def isTm (f : Nat → Nat) (n : Nat) : Bool := decide (tmTo f n = some 1) && decide (n ≤ 40)
theorem isTm_iff {f : Nat → Nat} {n : Nat} : isTm f n = true ↔ tmTo f n = some 1 ∧ n ≤ 40 := by simp [isTm]
theorem isTm_none {f : Nat → Nat} {n k : Nat} (h : tmTo f k = none) (hk : k ≤ n) : isTm f n = false := by
  cases e : isTm f n with
  | false => rfl
  | true =>
    have h1 := (isTm_iff.1 e).1
    rw [tmTo_none h n hk] at h1; cases h1
/-- A beginning of a term is a beginning at each place. -/
theorem tmTo_some {f : Nat → Nat} {n v : Nat} (h : tmTo f n = some v) {k : Nat} (hk : k ≤ n) : ∃ u, tmTo f k = some u := by
  cases e : tmTo f k with
  | some u => exact ⟨u, rfl⟩
  | none => rw [tmTo_none e n hk] at h; cases h

/-! ### Quotients -/
open Classical in
/-- The y with t x y = z. -/
noncomputable def lq (t : Nat → Nat → Nat) (x z : Nat) : Nat := if h : ∃ y, t x y = z ∧ ∀ j, j < y → t x j ≠ z then h.choose else 0
theorem lq_at {t : Nat → Nat → Nat} {x y z : Nat} (h : t x y = z) (hm : ∀ j, j < y → t x j ≠ z) : lq t x z = y := by
  have hx : ∃ y, t x y = z ∧ ∀ j, j < y → t x j ≠ z := ⟨y, h, hm⟩
  rw [lq, dif_pos hx]
  have h2 := hx.choose_spec
  rcases Nat.lt_trichotomy hx.choose y with h3 | h3 | h3
  · exact absurd h2.1 (hm _ h3)
  · exact h3
  · exact absurd h (h2.2 _ h3)
/-- What the row of a square has at y is led back to y. -/
theorem lq_row {n : Int} {t : Nat → Nat → Nat} (hs : IsSq n t) {x y : Nat} (hx : (x : Int) < n) (hy : (y : Int) < n) : lq t x (t x y) = y :=
  lq_at rfl fun j hj => by
    have := hs.hi
    exact fun e => (hs.rows.row x (by omega) hx).inj y j (by omega) hj hy e.symm
theorem IsSq.turn {n : Int} {t : Nat → Nat → Nat} (hs : IsSq n t) : IsSq n (fun x y => t y x) := ⟨hs.lo, hs.hi, hs.cols, hs.rows⟩
/-- Each number is in each row. -/
theorem row_has {n : Int} {t : Nat → Nat → Nat} (hs : IsSq n t) {x z : Nat} (hx : (x : Int) < n) (hz : (z : Int) < n) : ∃ y : Nat, (y : Int) < n ∧ t x y = z := by
  have h1 := hs.lo
  have h2 := hs.hi
  have hr := hs.rows.row x (by omega) hx
  obtain ⟨y, hy, e⟩ := surj_of_inj n.toNat (t x) (fun i hi => by have := hr.lt i (by omega) (by omega); omega) (fun i j hi hj e => by
    rcases Nat.lt_trichotomy i j with h | h | h
    · exact absurd e.symm (hr.inj j i (by omega) h (by omega))
    · exact h
    · exact absurd e (hr.inj i j (by omega) h (by omega))) z (by omega)
  exact ⟨y, by omega, e⟩
theorem lq_lt {n : Int} {t : Nat → Nat → Nat} (hs : IsSq n t) {x z : Nat} (hx : (x : Int) < n) (hz : (z : Int) < n) : (lq t x z : Int) < n ∧ t x (lq t x z) = z ∧ ∀ j, j < lq t x z → t x j ≠ z := by
  obtain ⟨y, hy, rfl⟩ := row_has hs hx hz
  rw [lq_row hs hx hy]
  refine ⟨hy, rfl, fun j hj => ?_⟩
  have := hs.hi
  exact fun e => (hs.rows.row x (by omega) hx).inj y j (by omega) hj hy e.symm

/-! ### The value of a term -/
/-- The product or a quotient. -/
noncomputable def apB (t : Nat → Nat → Nat) (b a c : Nat) : Nat := if b = 42 then t a c else if b = 47 then lq (fun x y => t y x) c a else lq t a c
theorem apB_lt {n : Int} {t : Nat → Nat → Nat} (hs : IsSq n t) {b a c : Nat} (ha : (a : Int) < n) (hc : (c : Int) < n) : (apB t b a c : Int) < n := by
  have := hs.hi
  unfold apB
  split
  · exact (hs.rows.row a (by omega) ha).lt c (by omega) hc
  · split
    · exact (lq_lt hs.turn hc ha).1
    · exact (lq_lt hs ha hc).1
/-- What a leaf stands for. -/
def lfB (x y z b : Nat) : Nat := if b = 120 then x else if b = 121 then y else if b = 122 then z else 0
/-- One byte more: the values, the last one first. -/
noncomputable def evStep (t : Nat → Nat → Nat) (x y z b : Nat) (s : List Nat) : List Nat :=
  if isLeafB b = true then lfB x y z b :: s else match s with | c :: a :: r => apB t b a c :: r | _ => []
noncomputable def evTo (t : Nat → Nat → Nat) (x y z : Nat) (f : Nat → Nat) : Nat → List Nat
  | 0 => []
  | k + 1 => evStep t x y z (f k) (evTo t x y z f k)
theorem evTo_length {t : Nat → Nat → Nat} {x y z : Nat} {f : Nat → Nat} : ∀ {k v : Nat}, tmTo f k = some v → (evTo t x y z f k).length = v
  | 0, v, h => by cases h; rfl
  | k + 1, v, h => by
    rw [tmTo] at h
    split at h
    · rename_i u hu
      have ih := evTo_length (t := t) (x := x) (y := y) (z := z) hu
      rw [evTo]
      simp only [tmStep] at h
      simp only [evStep]
      split at h
      · rename_i hl; cases h; rw [if_pos hl]; simp [ih]
      · rename_i hl
        rw [if_neg hl]
        split at h
        · rename_i ho
          cases h
          revert ih
          rcases evTo t x y z f k with _ | ⟨c, _ | ⟨a, r⟩⟩
          · intro ih; simp at ih; omega
          · intro ih; simp at ih; omega
          · intro ih; simp at ih ⊢; omega
        · cases h
    · cases h
theorem evTo_lt {n : Int} {t : Nat → Nat → Nat} (hs : IsSq n t) {x y z : Nat} (hx : (x : Int) < n) (hy : (y : Int) < n) (hz : (z : Int) < n) {f : Nat → Nat} : ∀ k, ∀ v ∈ evTo t x y z f k, (v : Int) < n
  | 0 => by intro v hv; cases hv
  | k + 1 => by
    have ih := evTo_lt hs hx hy hz (f := f) k
    have := hs.lo
    rw [evTo]
    revert ih
    generalize evTo t x y z f k = s
    intro ih v hv
    unfold evStep at hv
    by_cases hl : isLeafB (f k) = true
    · rw [if_pos hl] at hv
      rcases List.mem_cons.1 hv with rfl | hv
      · unfold lfB; repeat' split
        all_goals omega
      · exact ih v hv
    · rw [if_neg hl] at hv
      rcases s with _ | ⟨c, _ | ⟨a, r⟩⟩
      · cases hv
      · cases hv
      · rcases List.mem_cons.1 hv with rfl | hv
        · exact apB_lt hs (ih a (by simp)) (ih c (by simp))
        · exact ih v (by simp [hv])
/-- The value of a term. -/
noncomputable def evB (t : Nat → Nat → Nat) (x y z : Nat) (f : Nat → Nat) (m : Nat) : Nat := (evTo t x y z f m).headD 0
theorem evB_lt {n : Int} {t : Nat → Nat → Nat} (hs : IsSq n t) {x y z : Nat} (hx : (x : Int) < n) (hy : (y : Int) < n) (hz : (z : Int) < n) (f : Nat → Nat) (m : Nat) : (evB t x y z f m : Int) < n := by
  have h := evTo_lt hs hx hy hz (f := f) m
  have := hs.lo
  unfold evB
  revert h
  rcases evTo t x y z f m with _ | ⟨v, r⟩
  · intro _; show ((0 : Nat) : Int) < n; omega
  · intro h; exact h v (by simp)
/-- A variable that does not occur does not matter. -/
theorem evTo_free {t : Nat → Nat → Nat} {x y z x' y' z' : Nat} {f : Nat → Nat} : ∀ {m : Nat}, (∀ k, k < m → lfB x y z (f k) = lfB x' y' z' (f k)) → evTo t x y z f m = evTo t x' y' z' f m
  | 0, _ => rfl
  | m + 1, h => by
    rw [evTo, evTo, evTo_free fun k hk => h k (by omega)]
    simp only [evStep, h m (by omega)]

/-! ### The first place -/
/-- What a function gives first. -/
def fstTo {β : Type} (f : Nat → Option β) : Nat → Option β
  | 0 => none
  | k + 1 => match fstTo f k with | some v => some v | none => f k
theorem fstTo_none {β : Type} {f : Nat → Option β} : ∀ {n : Nat}, fstTo f n = none ↔ ∀ k, k < n → f k = none
  | 0 => ⟨fun _ k h => absurd h (by omega), fun _ => rfl⟩
  | n + 1 => by
    rw [fstTo]
    have ih := fstTo_none (f := f) (n := n)
    constructor
    · intro h k hk
      split at h
      · cases h
      · rename_i e
        by_cases h2 : k = n
        · subst h2; exact h
        · exact ih.1 e k (by omega)
    · intro h
      rw [ih.2 fun k hk => h k (by omega)]
      exact h n (by omega)
theorem fstTo_at {β : Type} {f : Nat → Option β} {k : Nat} {v : β} (h0 : ∀ j, j < k → f j = none) (h : f k = some v) : ∀ n, k < n → fstTo f n = some v
  | 0, hk => absurd hk (by omega)
  | n + 1, hk => by
    rw [fstTo]
    by_cases e : k = n
    · subst e; rw [fstTo_none.2 h0]; exact h
    · rw [fstTo_at h0 h n (by omega)]
/-- Where it is the same but for its own number, the first one will do. -/
theorem fstTo_one {β γ : Type} {f : Nat → Option β} (g : Option γ) (j : Nat → γ → β) (h : ∀ k, f k = g.map (j k)) {n : Nat} (hn : 1 ≤ n) : fstTo f n = fstTo f 1 := by
  cases e : g with
  | none =>
    rw [fstTo_none.2 fun k _ => by rw [h, e]; rfl, fstTo_none.2 fun k _ => by rw [h, e]; rfl]
  | some u =>
    rw [fstTo_at (k := 0) (v := j 0 u) (fun _ h => absurd h (by omega)) (by rw [h, e]; rfl) n (by omega), fstTo_at (k := 0) (v := j 0 u) (fun _ h => absurd h (by omega)) (by rw [h, e]; rfl) 1 (by omega)]
/-- The first of three numbers at which something is so. -/
def fst3 (p : Nat → Nat → Nat → Bool) (a b c : Nat) : Option (Nat × Nat × Nat) := fstTo (fun x => fstTo (fun y => fstTo (fun z => if p x y z = true then some (x, y, z) else none) c) b) a
theorem fstTo_map {β γ : Type} (g : β → γ) (f : Nat → Option β) : ∀ n, fstTo (fun k => (f k).map g) n = (fstTo f n).map g
  | 0 => rfl
  | n + 1 => by
    rw [fstTo, fstTo, fstTo_map g f n]
    cases fstTo f n <;> rfl
theorem fstTo_congr {β : Type} {f g : Nat → Option β} {n : Nat} (h : ∀ k, k < n → f k = g k) : fstTo f n = fstTo g n := by
  induction n with
  | zero => rfl
  | succ n ih => rw [fstTo, fstTo, ih fun k hk => h k (by omega), h n (by omega)]
theorem fst3_x {p : Nat → Nat → Nat → Bool} {n b c : Nat} (hn : 1 ≤ n) (h : ∀ x y z, p x y z = p 0 y z) : fst3 p n b c = fst3 p 1 b c := by
  unfold fst3
  refine fstTo_one (fstTo (fun y => fstTo (fun z => if p 0 y z = true then some (y, z) else none) c) b) (fun x u => (x, u.1, u.2)) (fun x => ?_) hn
  rw [← fstTo_map]
  congr 1; funext y
  rw [← fstTo_map]
  congr 1; funext z
  rw [h x y z]
  split <;> rfl
theorem fst3_y {p : Nat → Nat → Nat → Bool} {a n c : Nat} (hn : 1 ≤ n) (h : ∀ x y z, p x y z = p x 0 z) : fst3 p a n c = fst3 p a 1 c := by
  unfold fst3
  congr 1; funext x
  refine fstTo_one (fstTo (fun z => if p x 0 z = true then some (x, z) else none) c) (fun y u => (u.1, y, u.2)) (fun y => ?_) hn
  rw [← fstTo_map]
  congr 1; funext z
  rw [h x y z]
  split <;> rfl
theorem fst3_z {p : Nat → Nat → Nat → Bool} {a b n : Nat} (hn : 1 ≤ n) (h : ∀ x y z, p x y z = p x y 0) : fst3 p a b n = fst3 p a b 1 := by
  unfold fst3
  congr 1; funext x; congr 1; funext y
  refine fstTo_one (if p x y 0 = true then some (x, y) else none) (fun z u => (u.1, u.2, z)) (fun z => ?_) hn
  rw [h x y z]
  split <;> rfl

/-- Where an identity does not hold. -/
noncomputable def neB (t : Nat → Nat → Nat) (f : Nat → Nat) (m : Nat) (g : Nat → Nat) (l : Nat) (x y z : Nat) : Bool := decide (evB t x y z f m ≠ evB t x y z g l)
/-- A byte occurs. -/
def occB (f : Nat → Nat) (m b : Nat) : Bool := decide (∃ k, k < m ∧ f k = b)
/-- How far a variable runs. -/
def rngB (n : Nat) (f : Nat → Nat) (m : Nat) (g : Nat → Nat) (l b : Nat) : Nat := if occB f m b = true ∨ occB g l b = true then n else 1
theorem occB_false {f : Nat → Nat} {m b : Nat} (h : ¬ occB f m b = true) : ∀ k, k < m → f k ≠ b := fun k hk e => h (by rw [occB, decide_eq_true_eq]; exact ⟨k, hk, e⟩)
theorem neB_congr {t : Nat → Nat → Nat} {f g : Nat → Nat} {m l x y z x' y' z' : Nat} (h1 : ∀ k, k < m → lfB x y z (f k) = lfB x' y' z' (f k)) (h2 : ∀ k, k < l → lfB x y z (g k) = lfB x' y' z' (g k)) : neB t f m g l x y z = neB t f m g l x' y' z' := by
  unfold neB evB; rw [evTo_free h1, evTo_free h2]
/-- The reference runs through no variable that does not occur, and finds the same place. -/
theorem fails_same {t : Nat → Nat → Nat} {f g : Nat → Nat} {n m l : Nat} (hn : 1 ≤ n) :
    fst3 (neB t f m g l) (rngB n f m g l 120) (rngB n f m g l 121) (rngB n f m g l 122) = fst3 (neB t f m g l) n n n := by
  have ex : ∀ a b, fst3 (neB t f m g l) (rngB n f m g l 120) a b = fst3 (neB t f m g l) n a b := fun a b => by
    unfold rngB; split
    · rfl
    · rename_i h
      rw [not_or] at h
      exact (fst3_x hn fun x y z => neB_congr (fun k hk => by simp [lfB, occB_false h.1 k hk]) (fun k hk => by simp [lfB, occB_false h.2 k hk])).symm
  have ey : ∀ a b, fst3 (neB t f m g l) a (rngB n f m g l 121) b = fst3 (neB t f m g l) a n b := fun a b => by
    unfold rngB; split
    · rfl
    · rename_i h
      rw [not_or] at h
      exact (fst3_y hn fun x y z => neB_congr (fun k hk => by simp [lfB, occB_false h.1 k hk]) (fun k hk => by simp [lfB, occB_false h.2 k hk])).symm
  have ez : ∀ a b, fst3 (neB t f m g l) a b (rngB n f m g l 122) = fst3 (neB t f m g l) a b n := fun a b => by
    unfold rngB; split
    · rfl
    · rename_i h
      rw [not_or] at h
      exact (fst3_z hn fun x y z => neB_congr (fun k hk => by simp [lfB, occB_false h.1 k hk]) (fun k hk => by simp [lfB, occB_false h.2 k hk])).symm
  rw [ex, ey, ez]
end Go.Proofs.Ythdldlpflieeoaa

/- Quotients of the program: contracts. (C97 holds the same two: never import both.) -/
namespace Go.Proofs.Ythdldlpflieeoaa
set_option linter.unusedSimpArgs false
set_option linter.unusedVariables false
open Go Go.RowKit

theorem neqI {b : Nat} {c : Nat} (h : b ≠ c) : ((b : Int) == (c : Int)) = false := by simp; omega

set_option maxRecDepth 100000 in
set_option maxHeartbeats 1000000 in
theorem left_any (n : Int) (t : Nat → Nat → Nat) (hs : IsSq n t) (x z : Nat) (hx : (x : Int) < n) (hz : (z : Int) < n) (w : World) :
    Calls Try.prog 235 #[.agg (sqs n t), .int .u8 (x : Int), .int .u8 (z : Int)] w fun e w' => e = .returned (.int .u8 (lq t x z : Nat)) ∧ Below w.heap.size w w' := by
  have M := Mm.start no w
  have hn := hs.hi
  obtain ⟨h1, h2, h3⟩ := lq_lt hs hx hz
  have hx10 : x < 10 := by omega
  have hx' : (x : Int) < 10 := by omega
  have H3 := Hid2.mk h3
  have H2 := Hid2.mk h2
  generalize hV : lq t x z = l at h1 H2 H3
  clear h2 h3 hV
  go_enter Try.func235, Try.ntmps235
  go_wp2_with (first | ((with_reducible apply wpM_box' M 37 (sqs n t)); rfl; exact ⟨rfl, rfl⟩; clear M; (try clear C); intro bq w9 h_bq M; have C := M.ruleAll; simp only [Go.Proofs.Ythdldlpflieeoaa.ruleAll] at C))
  go_loopw [7] (fun i wr => ∃ y : Nat, y ≤ l ∧ i = .int .u8 (y : Int) ∧ Mm no w wr [.box bq (sqs n t) 37]) (fun i _ => l - (intOf i).toNat)
  case atStart => exact ⟨0, by omega, rfl, M⟩
  case round =>
    obtain ⟨y, hy, rfl, M9⟩ := hrel
    clear M; (try clear C)
    have M := M9
    clear M9
    have hy10 : y < 10 := by omega
    have hy' : (y : Int) < 10 := by omega
    have hc := (M.box 0 rfl).cell _ _ (sqs_get (n := n) (t := t) hx10 hy10)
    by_cases e : y = l
    · subst e
      have hd : ((t x y : Int) == (z : Int)) = true := by rw [H2.out]; simp
      have hd2 : ((t x y : Int) != (z : Int)) = false := by rw [bne, hd]; rfl
      generalize t x y = v at hc hd hd2
      go_wp2
      go_ret
      exact ⟨rfl, M.below⟩
    · have hd : ((t x y : Int) == (z : Int)) = false := neqI (H3.out y (by omega))
      have hd2 : ((t x y : Int) != (z : Int)) = true := by rw [bne, hd]; rfl
      generalize t x y = v at hc hd hd2
      go_wp2
      go_roundw
      case rel => exact ⟨y + 1, by omega, by go_num, M⟩
      case measure => simp [intOf]; omega
set_option maxRecDepth 100000 in
set_option maxHeartbeats 1000000 in
theorem right_any (n : Int) (t : Nat → Nat → Nat) (hs : IsSq n t) (z y : Nat) (hz : (z : Int) < n) (hy : (y : Int) < n) (w : World) :
    Calls Try.prog 224 #[.agg (sqs n t), .int .u8 (z : Int), .int .u8 (y : Int)] w fun e w' => e = .returned (.int .u8 (lq (fun x y => t y x) y z : Nat)) ∧ Below w.heap.size w w' := by
  have M := Mm.start no w
  have hn := hs.hi
  obtain ⟨h1, h2, h3⟩ := lq_lt hs.turn hy hz
  have hy10 : y < 10 := by omega
  have hy' : (y : Int) < 10 := by omega
  have H3 := Hid2.mk h3
  have H2 := Hid2.mk h2
  generalize hV : lq (fun x y => t y x) y z = l at h1 H2 H3
  clear h2 h3 hV
  go_enter Try.func224, Try.ntmps224
  go_wp2_with (first | ((with_reducible apply wpM_box' M 37 (sqs n t)); rfl; exact ⟨rfl, rfl⟩; clear M; (try clear C); intro bq w9 h_bq M; have C := M.ruleAll; simp only [Go.Proofs.Ythdldlpflieeoaa.ruleAll] at C))
  go_loopw [7] (fun i wr => ∃ x : Nat, x ≤ l ∧ i = .int .u8 (x : Int) ∧ Mm no w wr [.box bq (sqs n t) 37]) (fun i _ => l - (intOf i).toNat)
  case atStart => exact ⟨0, by omega, rfl, M⟩
  case round =>
    obtain ⟨x, hx, rfl, M9⟩ := hrel
    clear M; (try clear C)
    have M := M9
    clear M9
    have hx10 : x < 10 := by omega
    have hx' : (x : Int) < 10 := by omega
    have hc := (M.box 0 rfl).cell _ _ (sqs_get (n := n) (t := t) hx10 hy10)
    by_cases e : x = l
    · subst e
      have hd : ((t x y : Int) == (z : Int)) = true := by rw [show t x y = z from H2.out]; simp
      have hd2 : ((t x y : Int) != (z : Int)) = false := by rw [bne, hd]; rfl
      generalize t x y = v at hc hd hd2
      go_wp2
      go_ret
      exact ⟨rfl, M.below⟩
    · have hd : ((t x y : Int) == (z : Int)) = false := neqI (H3.out x (by omega))
      have hd2 : ((t x y : Int) != (z : Int)) = true := by rw [bne, hd]; rfl
      generalize t x y = v at hc hd hd2
      go_wp2
      go_roundw
      case rel => exact ⟨x + 1, by omega, by go_num, M⟩
      case measure => simp [intOf]; omega
end Go.Proofs.Ythdldlpflieeoaa

/- The cycles of a permutation, their lengths, and how often each length is met, in plain Lean. -/
namespace Go.Proofs.Ythdldlpflieeoaa
set_option linter.unusedSimpArgs false
set_option linter.unusedVariables false

/-! ### How many numbers have a property -/
def cn : Nat → (Nat → Bool) → Nat
  | 0, _ => 0
  | N + 1, p => cn N p + (if p N = true then 1 else 0)
theorem cn_succ (k : Nat) (p : Nat → Bool) : cn (k + 1) p = cn k p + (if p k = true then 1 else 0) := rfl
theorem cn_congr {p q : Nat → Bool} : ∀ {N : Nat}, (∀ i, i < N → p i = q i) → cn N p = cn N q
  | 0, _ => rfl
  | N + 1, h => by unfold cn; rw [cn_congr fun i hi => h i (by omega), h N (by omega)]
theorem cn_none : ∀ {N : Nat} {p : Nat → Bool}, (∀ i, i < N → p i = false) → cn N p = 0
  | 0, _, _ => rfl
  | N + 1, p, h => by unfold cn; rw [cn_none fun i hi => h i (by omega), h N (by omega)]; rfl
theorem cn_add {p q : Nat → Bool} : ∀ {N : Nat}, (∀ i, i < N → p i = true → q i = false) → cn N (fun i => p i || q i) = cn N p + cn N q
  | 0, _ => rfl
  | N + 1, h => by
    unfold cn
    rw [cn_add fun i hi => h i (by omega)]
    have := h N (by omega)
    cases hp : p N <;> cases hq : q N <;> simp_all <;> omega
theorem cn_one {v : Nat} : ∀ {N : Nat}, v < N → cn N (fun i => i == v) = 1
  | N + 1, h => by
    unfold cn
    by_cases e : v = N
    · subst e
      rw [cn_none fun i hi => beq_eq_false_iff_ne.2 (by omega)]; simp
    · rw [cn_one (show v < N by omega)]
      simp only [beq_iff_eq]
      rw [if_neg (fun h => e h.symm)]
theorem cn_le : ∀ (N : Nat) (p : Nat → Bool), cn N p ≤ N
  | 0, _ => Nat.le_refl _
  | N + 1, p => by unfold cn; have := cn_le N p; split <;> omega
open Classical in
/-- A property carried over by an injection is had as often. -/
theorem cn_inj {N : Nat} {e : Nat → Nat} {b : Nat → Bool} : ∀ {k : Nat}, (∀ i, i < k → e i < N) → (∀ i j, i < k → j < k → e i = e j → i = j) → cn N (fun v => decide (∃ y, y < k ∧ e y = v ∧ b y = true)) = cn k b
  | 0, _, _ => cn_none fun i _ => decide_eq_false fun ⟨y, h, _⟩ => by omega
  | k + 1, h1, h2 => by
    have ih := cn_inj (N := N) (e := e) (b := b) (k := k) (fun i hi => h1 i (by omega)) fun i j hi hj => h2 i j (by omega) (by omega)
    rw [cn_succ k b]
    cases hb : b k with
    | false =>
      rw [← ih, if_neg (by decide), Nat.add_zero]
      refine cn_congr fun v _ => decide_eq_decide.2 ⟨fun ⟨y, hy, h⟩ => ⟨y, ?_, h⟩, fun ⟨y, hy, h⟩ => ⟨y, by omega, h⟩⟩
      rcases Nat.lt_or_ge y k with h3 | h3
      · exact h3
      · obtain rfl : y = k := by omega
        rw [hb] at h; exact absurd h.2 (by decide)
    | true =>
      have h3 := cn_add (N := N) (p := fun v => decide (∃ y, y < k ∧ e y = v ∧ b y = true)) (q := fun i => i == e k) ?_
      rw [cn_one (h1 k (by omega))] at h3
      rw [if_pos rfl, ← ih, ← h3]
      · refine cn_congr fun v _ => ?_
        by_cases hv : v = e k
        · subst hv
          rw [decide_eq_true (⟨k, by omega, rfl, hb⟩ : ∃ y, y < k + 1 ∧ e y = e k ∧ b y = true)]; simp
        · have : (v == e k) = false := beq_eq_false_iff_ne.2 hv
          rw [this, Bool.or_false]
          refine decide_eq_decide.2 ⟨fun ⟨y, hy, h⟩ => ⟨y, ?_, h⟩, fun ⟨y, hy, h⟩ => ⟨y, by omega, h⟩⟩
          rcases Nat.lt_or_ge y k with h3 | h3
          · exact h3
          · obtain rfl : y = k := by omega
            exact absurd h.1.symm hv
      · intro v _ hv
        obtain ⟨y, hy, rfl, _⟩ := of_decide_eq_true hv
        refine beq_eq_false_iff_ne.2 fun h => ?_
        have := h2 y k (by omega) (by omega) h; omega
/-- A permutation carries a property over to as many numbers. -/
theorem cn_pm {N : Nat} {g : Nat → Nat} (hg : Pm N g) (p : Nat → Bool) : cn N (fun i => p (g i)) = cn N p := by
  classical
  rw [← cn_inj (N := N) (e := g) (b := fun i => p (g i)) hg.lt hg.inj]
  refine cn_congr fun v hv => ?_
  obtain ⟨y, hy, rfl⟩ := hg.surj hv
  cases h : p (g y) with
  | true => exact decide_eq_true ⟨y, hy, rfl, h⟩
  | false =>
    refine decide_eq_false fun ⟨z, _, hz, h2⟩ => ?_
    rw [hz, h] at h2; cases h2

/-! ### Cycles -/
def it (f : Nat → Nat) : Nat → Nat → Nat
  | 0, c => c
  | i + 1, c => f (it f i c)
theorem it_lt {N : Nat} {f : Nat → Nat} (hf : Pm N f) {c : Nat} (hc : c < N) : ∀ i, it f i c < N
  | 0 => hc
  | i + 1 => hf.lt _ (it_lt hf hc i)
theorem it_add (f : Nat → Nat) (c : Nat) : ∀ i j, it f (i + j) c = it f i (it f j c)
  | 0, j => by rw [Nat.zero_add]; rfl
  | i + 1, j => by rw [Nat.succ_add]; show f _ = f _; rw [it_add f c i j]
theorem it_cancel {N : Nat} {f : Nat → Nat} (hf : Pm N f) {c d : Nat} (hc : c < N) (hd : d < N) : ∀ i, it f i c = it f i d → c = d
  | 0, h => h
  | i + 1, h => it_cancel hf hc hd i (hf.inj _ _ (it_lt hf hc i) (it_lt hf hd i) h)
theorem it_back {N : Nat} {f : Nat → Nat} (hf : Pm N f) {c : Nat} (hc : c < N) : ∃ L, 1 ≤ L ∧ L ≤ N ∧ it f L c = c := by
  apply Classical.byContradiction
  intro hno
  have hne : ∀ L, 1 ≤ L → L ≤ N → it f L c ≠ c := fun L h1 h2 h => hno ⟨L, h1, h2, h⟩
  have hin : ∀ i j, i < j → j < N → it f (i + 1) c ≠ it f (j + 1) c := fun i j hij hj h => by
    have e : j + 1 = (i + 1) + (j - i) := by omega
    rw [e, it_add f c (i + 1) (j - i)] at h
    exact hne (j - i) (by omega) (by omega) (it_cancel hf hc (it_lt hf hc _) _ h).symm
  obtain ⟨i, hi, h⟩ := surj_of_inj N (fun i => it f (i + 1) c) (fun i _ => it_lt hf hc _) (fun i j hi hj h => by
    rcases Nat.lt_trichotomy i j with h3 | h3 | h3
    · exact absurd h (hin i j h3 hj)
    · exact h3
    · exact absurd h.symm (hin j i h3 hi)) c hc
  exact hne (i + 1) (by omega) (by omega) h
open Classical in
/-- The length of the cycle with c. -/
noncomputable def clen (f : Nat → Nat) (c : Nat) : Nat := if h : ∃ L, 1 ≤ L ∧ it f L c = c ∧ ∀ k, 1 ≤ k → k < L → it f k c ≠ c then h.choose else 0
theorem least_of {P : Nat → Prop} : ∀ {L : Nat}, P L → ∃ m, m ≤ L ∧ P m ∧ ∀ k, k < m → ¬ P k := by
  intro L
  induction L using Nat.strongRecOn with
  | ind L ih =>
    intro h
    by_cases hk : ∃ k, k < L ∧ P k
    · obtain ⟨k, hk, hp⟩ := hk
      obtain ⟨m, h1, h2, h3⟩ := ih k hk hp
      exact ⟨m, by omega, h2, h3⟩
    · exact ⟨L, Nat.le_refl _, h, fun k h1 h2 => hk ⟨k, h1, h2⟩⟩
structure IsClen (f : Nat → Nat) (c L : Nat) : Prop where
  pos : 1 ≤ L
  back : it f L c = c
  least : ∀ k, 1 ≤ k → k < L → it f k c ≠ c
theorem IsClen.uniq {f : Nat → Nat} {c L K : Nat} (h : IsClen f c L) (g : IsClen f c K) : L = K := by
  rcases Nat.lt_trichotomy L K with h3 | h3 | h3
  · exact absurd h.back (g.least L h.pos h3)
  · exact h3
  · exact absurd g.back (h.least K g.pos h3)
theorem clen_is {N : Nat} {f : Nat → Nat} (hf : Pm N f) {c : Nat} (hc : c < N) : IsClen f c (clen f c) ∧ clen f c ≤ N := by
  obtain ⟨L, h1, h2, h3⟩ := it_back hf hc
  obtain ⟨m, hm, ⟨hp1, hp2⟩, hl⟩ := least_of (P := fun L => 1 ≤ L ∧ it f L c = c) ⟨h1, h3⟩
  have hx : ∃ L, 1 ≤ L ∧ it f L c = c ∧ ∀ k, 1 ≤ k → k < L → it f k c ≠ c := ⟨m, hp1, hp2, fun k h1 h2 h => hl k h2 ⟨h1, h⟩⟩
  have e : clen f c = hx.choose := dif_pos hx
  have hs := hx.choose_spec
  rw [← e] at hs
  have hi : IsClen f c (clen f c) := ⟨hs.1, hs.2.1, hs.2.2⟩
  exact ⟨hi, by rw [hi.uniq ⟨hp1, hp2, fun k h1 h2 h => hl k h2 ⟨h1, h⟩⟩]; omega⟩
/-- The numbers of a cycle. -/
def inO (f : Nat → Nat) (c y : Nat) : Prop := ∃ i, it f i c = y
theorem it_mul {f : Nat → Nat} {c L : Nat} (h : it f L c = c) : ∀ q, it f (q * L) c = c
  | 0 => by rw [Nat.zero_mul]; rfl
  | q + 1 => by rw [Nat.succ_mul, it_add, h]; exact it_mul h q
theorem inO_lt {f : Nat → Nat} {c y L : Nat} (h : IsClen f c L) (hy : inO f c y) : ∃ i, i < L ∧ it f i c = y := by
  obtain ⟨i, rfl⟩ := hy
  refine ⟨i % L, Nat.mod_lt _ h.pos, ?_⟩
  have e := Nat.mod_add_div i L
  conv => rhs; rw [← e, it_add, Nat.mul_comm, it_mul h.back]
theorem it_inj {N : Nat} {f : Nat → Nat} (hf : Pm N f) {c L : Nat} (hc : c < N) (h : IsClen f c L) {i j : Nat} (hi : i < L) (hj : j < L) (e : it f i c = it f j c) : i = j := by
  have key : ∀ i j, i < j → j < L → it f i c ≠ it f j c := fun i j hij hj e => by
    rw [show j = i + (j - i) by omega, it_add] at e
    exact h.least (j - i) (by omega) (by omega) (it_cancel hf hc (it_lt hf hc _) _ e).symm
  rcases Nat.lt_trichotomy i j with h3 | h3 | h3
  · exact absurd e (key i j h3 hj)
  · exact h3
  · exact absurd e.symm (key j i h3 hi)
theorem inO_refl (f : Nat → Nat) (c : Nat) : inO f c c := ⟨0, rfl⟩
theorem inO_trans {f : Nat → Nat} {c d e : Nat} (h : inO f c d) (g : inO f d e) : inO f c e := by
  obtain ⟨i, rfl⟩ := h
  obtain ⟨j, rfl⟩ := g
  exact ⟨j + i, it_add f c j i⟩
theorem inO_symm {N : Nat} {f : Nat → Nat} (hf : Pm N f) {c d : Nat} (hc : c < N) (h : inO f c d) : inO f d c := by
  obtain ⟨i, hi, rfl⟩ := inO_lt (clen_is hf hc).1 h
  exact ⟨clen f c - i, by rw [← it_add, show clen f c - i + i = clen f c by omega]; exact (clen_is hf hc).1.back⟩
/-- All of a cycle have its length. -/
theorem clen_inO {N : Nat} {f : Nat → Nat} (hf : Pm N f) {c d : Nat} (hc : c < N) (h : inO f c d) : clen f d = clen f c := by
  obtain ⟨i, rfl⟩ := h
  have h1 := (clen_is hf hc).1
  refine (clen_is hf (it_lt hf hc i)).1.uniq ⟨h1.pos, ?_, fun k hk1 hk2 e => ?_⟩
  · rw [← it_add, Nat.add_comm, it_add, h1.back]
  · rw [← it_add, Nat.add_comm, it_add] at e
    exact h1.least k hk1 hk2 (it_cancel hf (it_lt hf hc k) hc i e)
theorem inO_val {N : Nat} {f : Nat → Nat} (hf : Pm N f) {c d : Nat} (hc : c < N) (h : inO f c d) : d < N := by
  obtain ⟨i, rfl⟩ := h
  exact it_lt hf hc i
open Classical in
/-- A cycle has as many numbers as it is long. -/
theorem cn_cycle {N : Nat} {f : Nat → Nat} (hf : Pm N f) {c : Nat} (hc : c < N) : cn N (fun y => decide (inO f c y)) = clen f c := by
  have h1 := (clen_is hf hc).1
  have h := cn_inj (N := N) (e := fun i => it f i c) (b := fun _ => true) (k := clen f c) (fun i _ => it_lt hf hc i) fun i j hi hj e => it_inj hf hc h1 hi hj e
  have hk : ∀ k, cn k (fun _ => true) = k := fun k => by induction k with | zero => rfl | succ k ih => unfold cn; rw [ih]; rfl
  rw [hk] at h
  conv => rhs; rw [← h]
  refine cn_congr fun v _ => decide_eq_decide.2 ⟨fun hv => ?_, fun ⟨y, _, hy, _⟩ => ⟨y, hy⟩⟩
  obtain ⟨i, hi, e⟩ := inO_lt h1 hv
  exact ⟨i, hi, e, rfl⟩

/-! ### The lengths of all cycles -/
/-- Whether y is in a cycle with a number less than k. -/
def metC (f : Nat → Nat) (k y : Nat) : Prop := ∃ c, c < k ∧ inO f c y
open Classical in
/-- The lengths of the cycles, by their least numbers. -/
noncomputable def lens (f : Nat → Nat) : Nat → List Nat
  | 0 => []
  | k + 1 => if metC f k k then lens f k else lens f k ++ [clen f k]
open Classical in
theorem lens_count {N : Nat} {f : Nat → Nat} (hf : Pm N f) (n : Nat) : ∀ k, k ≤ N → n * (lens f k).count n = cn N (fun y => decide (metC f k y) && (clen f y == n))
  | 0, _ => by
    rw [cn_none]
    · simp [lens]
    · intro i _
      rw [decide_eq_false (fun ⟨c, h, _⟩ => by omega)]; rfl
  | k + 1, hk => by
    have ih := lens_count hf n k (by omega)
    unfold lens
    by_cases hm : metC f k k
    · rw [if_pos hm, ih]
      refine cn_congr fun y _ => ?_
      congr 1
      refine decide_eq_decide.2 ⟨fun ⟨c, hc, h⟩ => ⟨c, by omega, h⟩, fun ⟨c, hc, h⟩ => ?_⟩
      rcases Nat.lt_or_ge c k with h3 | h3
      · exact ⟨c, h3, h⟩
      · obtain rfl : c = k := by omega
        obtain ⟨d, hd, hdc⟩ := hm
        exact ⟨d, hd, inO_trans hdc h⟩
    · rw [if_neg hm, List.count_append, Nat.mul_add, ih]
      have hkN : k < N := by omega
      have h2 : n * List.count n [clen f k] = cn N (fun y => decide (inO f k y) && (clen f y == n)) := by
        by_cases e : clen f k = n
        · rw [e, List.count_singleton_self, Nat.mul_one]
          conv => lhs; rw [← e, ← cn_cycle hf hkN]
          refine cn_congr fun y _ => ?_
          by_cases ho : inO f k y
          · rw [decide_eq_true ho, clen_inO hf hkN ho, e]; simp
          · rw [decide_eq_false ho]; rfl
        · rw [cn_none, List.count_eq_zero.2 (by simp; exact fun h => e h.symm), Nat.mul_zero]
          intro y _
          by_cases ho : inO f k y
          · rw [decide_eq_true ho, clen_inO hf hkN ho, beq_eq_false_iff_ne.2 e]; rfl
          · rw [decide_eq_false ho]; rfl
      rw [h2, ← cn_add]
      · refine cn_congr fun y _ => ?_
        rw [← Bool.and_or_distrib_right]
        congr 1
        by_cases h1 : metC f k y
        · rw [decide_eq_true h1, decide_eq_true (show metC f (k + 1) y from let ⟨c, hc, h⟩ := h1; ⟨c, by omega, h⟩)]; rfl
        · rw [decide_eq_false h1, Bool.false_or]
          refine decide_eq_decide.2 ⟨fun h => ⟨k, by omega, h⟩, fun ⟨c, hc, h⟩ => ?_⟩
          rcases Nat.lt_or_ge c k with h3 | h3
          · exact absurd ⟨c, h3, h⟩ h1
          · obtain rfl : c = k := by omega
            exact h
      · intro y hy h
        simp only [Bool.and_eq_true, decide_eq_true_eq] at h
        obtain ⟨⟨c, hc, hcy⟩, _⟩ := h
        rw [decide_eq_false fun h2 => hm ⟨c, hc, inO_trans hcy (inO_symm hf hkN h2)⟩]; rfl
/-- How often a length is met. -/
theorem lens_all {N : Nat} {f : Nat → Nat} (hf : Pm N f) (n : Nat) : n * (lens f N).count n = cn N (fun y => clen f y == n) := by
  classical
  rw [lens_count hf n N (Nat.le_refl _)]
  refine cn_congr fun y hy => ?_
  rw [decide_eq_true (show metC f N y from ⟨y, hy, inO_refl f y⟩)]; rfl
theorem lens_pos {N : Nat} {f : Nat → Nat} (hf : Pm N f) : ∀ k, k ≤ N → ∀ x ∈ lens f k, 1 ≤ x ∧ x ≤ N
  | 0, _, x, h => by simp [lens] at h
  | k + 1, hk, x, h => by
    unfold lens at h
    have hi := clen_is hf (show k < N by omega)
    split at h
    · exact lens_pos hf k (by omega) x h
    · rcases List.mem_append.1 h with h | h
      · exact lens_pos hf k (by omega) x h
      · obtain rfl := List.mem_singleton.1 h
        exact ⟨hi.1.pos, hi.2⟩
theorem lens_len (f : Nat → Nat) : ∀ k, (lens f k).length ≤ k
  | 0 => by simp [lens]
  | k + 1 => by
    unfold lens
    have := lens_len f k
    split
    · omega
    · rw [List.length_append, List.length_singleton]; omega
/-- Conjugates have the same lengths, each as often. -/
theorem lens_conj {N : Nat} {f p g : Nat → Nat} (hf : Pm N f) (hp : Pm N p) (hg : Pm N g) (h : ∀ y, y < N → p (g y) = g (f y)) (n : Nat) : (lens f N).count n = (lens p N).count n := by
  have hit : ∀ y, y < N → ∀ i, it p i (g y) = g (it f i y) := fun y hy i => by
    induction i with
    | zero => rfl
    | succ i ih => show p _ = g (f _); rw [ih, h _ (it_lt hf hy i)]
  have hcl : ∀ y, y < N → clen p (g y) = clen f y := fun y hy => by
    have h1 := (clen_is hf hy).1
    refine (clen_is hp (hg.lt y hy)).1.uniq ⟨h1.pos, by rw [hit y hy, h1.back], fun k hk1 hk2 e => ?_⟩
    rw [hit y hy] at e
    exact h1.least k hk1 hk2 (hg.inj _ _ (it_lt hf hy k) hy e)
  have e : cn N (fun y => clen f y == n) = cn N (fun y => clen p y == n) := by
    rw [← cn_pm hg fun y => clen p y == n]
    exact cn_congr fun y hy => by rw [hcl y hy]
  rcases Nat.eq_zero_or_pos n with h0 | h0
  · subst h0
    rw [List.count_eq_zero.2 fun hx => by have := lens_pos hf N (Nat.le_refl _) 0 hx; omega, List.count_eq_zero.2 fun hx => by have := lens_pos hp N (Nat.le_refl _) 0 hx; omega]
  · have h1 := lens_all hf n
    rw [e, ← lens_all hp n] at h1
    exact Nat.eq_of_mul_eq_mul_left h0 h1
end Go.Proofs.Ythdldlpflieeoaa

/-! ### Sorted lists -/
namespace Go.Proofs.Ythdldlpflieeoaa
set_option linter.unusedSimpArgs false
set_option linter.unusedVariables false
/-- How often each of 1 .. m is met, as a list. -/
def ctL (cnt : Nat → Nat) : Nat → List Nat
  | 0 => []
  | m + 1 => ctL cnt m ++ List.replicate (cnt (m + 1)) (m + 1)
theorem ctL_mem {cnt : Nat → Nat} : ∀ {m x : Nat}, x ∈ ctL cnt m → 1 ≤ x ∧ x ≤ m
  | 0, x, h => by simp [ctL] at h
  | m + 1, x, h => by
    unfold ctL at h
    rcases List.mem_append.1 h with h | h
    · have := ctL_mem h; omega
    · have := (List.mem_replicate.1 h).2; omega
theorem ctL_count {cnt : Nat → Nat} {n : Nat} : ∀ {m : Nat}, (ctL cnt m).count n = if 1 ≤ n ∧ n ≤ m then cnt n else 0
  | 0 => by rw [if_neg (show ¬ (1 ≤ n ∧ n ≤ 0) by omega)]; simp [ctL]
  | m + 1 => by
    unfold ctL
    rw [List.count_append, ctL_count, List.count_replicate]
    by_cases e : m + 1 = n
    · subst e
      rw [if_neg (show ¬ (1 ≤ m + 1 ∧ m + 1 ≤ m) by omega), if_pos (show 1 ≤ m + 1 ∧ m + 1 ≤ m + 1 by omega)]; simp
    · have : (m + 1 == n) = false := beq_eq_false_iff_ne.2 e
      rw [this]
      by_cases h : 1 ≤ n ∧ n ≤ m
      · rw [if_pos h, if_pos (show 1 ≤ n ∧ n ≤ m + 1 by omega)]; rfl
      · rw [if_neg h, if_neg (show ¬ (1 ≤ n ∧ n ≤ m + 1) by omega)]; rfl
theorem ctL_sorted {cnt : Nat → Nat} : ∀ m, (ctL cnt m).Pairwise (· ≤ ·)
  | 0 => by simp [ctL]
  | m + 1 => by
    unfold ctL
    refine List.pairwise_append.2 ⟨ctL_sorted m, List.pairwise_replicate.2 (.inr (Nat.le_refl _)), fun a ha b hb => ?_⟩
    have := ctL_mem ha
    have := (List.mem_replicate.1 hb).2
    omega
/-- Two sorted lists that have each number as often are the same. -/
theorem sorted_eq {l k : List Nat} (hl : l.Pairwise (· ≤ ·)) (hk : k.Pairwise (· ≤ ·)) (h : ∀ n, l.count n = k.count n) : l = k :=
  List.Perm.eq_of_pairwise (le := (· ≤ ·)) (fun _ _ _ _ h1 h2 => Nat.le_antisymm h1 h2) hl hk (List.perm_iff_count.2 h)
/-- A sorted list with the lengths of the cycles of f is the counted list of those of a conjugate p. -/
theorem lens_sorted {N : Nat} {f p g : Nat → Nat} (hN : N ≤ 10) (hf : Pm N f) (hp : Pm N p) (hg : Pm N g) (h : ∀ y, y < N → p (g y) = g (f y)) {l : List Nat} (hl : l.Pairwise (· ≤ ·)) (hc : ∀ n, l.count n = (lens f N).count n) : l = ctL (fun n => (lens p N).count n) 10 := by
  refine sorted_eq hl (ctL_sorted 10) fun n => ?_
  rw [hc, lens_conj hf hp hg h, ctL_count]
  by_cases hn : 1 ≤ n ∧ n ≤ 10
  · rw [if_pos hn]
  · rw [if_neg hn]
    exact List.count_eq_zero.2 fun hx => by have := lens_pos hp N (Nat.le_refl _) n hx; omega
end Go.Proofs.Ythdldlpflieeoaa

/- Sets as bits: contracts. -/
namespace Go.Proofs.Ythdldlpflieeoaa
set_option linter.unusedSimpArgs false
set_option linter.unusedVariables false
open Go Go.RowKit

theorem has_bit (m x : Nat) (hm : m < 1024) : (bits .and .i64 ((m : Int) / 2 ^ x) 1 == 1) = m.testBit x := by
  have e : ((m : Int) / 2 ^ x) = ((m / 2 ^ x : Nat) : Int) := by norm_cast
  have h : m / 2 ^ x ≤ m := Nat.div_le_self _ _
  rw [e, show (1 : Int) = ((1 : Nat) : Int) from rfl, bits_and_i64_nat _ _ (by omega) (by omega), Nat.testBit, Nat.shiftRight_eq_div_pow, Nat.and_comm]
  have h2 : 1 &&& m / 2 ^ x = (m / 2 ^ x) % 2 := by rw [Nat.and_comm]; exact Nat.and_one_is_mod _
  rw [h2]
  rcases Nat.mod_two_eq_zero_or_one (m / 2 ^ x) with h | h <;> rw [h] <;> rfl
set_option maxRecDepth 100000 in
set_option maxHeartbeats 1000000 in
theorem has_any (m x : Nat) (hm : m < 1024) (hx : x < 10) (w : World) : Calls Try.prog 225 #[.int .i64 (m : Int), .int .u8 (x : Int)] w fun e w' => e = .returned (.bool (m.testBit x)) ∧ w = w' := by
  have hx' : (x : Int) < 10 := by omega
  have hm' : (m : Int) < 1024 := by omega
  have hb := has_bit m x hm
  go_enter Try.func225, Try.ntmps225
  go_wp2
  go_ret
  exact ⟨by rw [← hb]; rfl, rfl⟩



theorem or_gt {m y : Nat} (h : m.testBit y = false) : m < m ||| 2 ^ y := by
  refine Nat.lt_of_le_of_ne Nat.left_le_or fun e => ?_
  have : (m ||| 2 ^ y).testBit y = true := by rw [Nat.testBit_or, Nat.testBit_two_pow_self]; simp
  rw [← e, h] at this; cases this
/-- The column whose entry in row a is that of y in row b. -/
noncomputable def sg (t : Nat → Nat → Nat) (a b y : Nat) : Nat := lq t a (t b y)
theorem sg_pm {n : Nat} {t : Nat → Nat → Nat} (hs : IsSq (n : Int) t) {a b : Nat} (ha : a < n) (hb : b < n) : Pm n (sg t a b) where
  lt y hy := by
    have h := (Lat.of_sq hs).lt b y hb hy
    have := (lq_lt hs (x := a) (z := t b y) (by omega) (by omega)).1
    show lq t a (t b y) < n; omega
  inj y z hy hz e := by
    have h1 := (Lat.of_sq hs).lt b y hb hy
    have h2 := (Lat.of_sq hs).lt b z hb hz
    have e1 := (lq_lt hs (x := a) (z := t b y) (by omega) (by omega)).2.1
    have e2 := (lq_lt hs (x := a) (z := t b z) (by omega) (by omega)).2.1
    have e3 : lq t a (t b y) = lq t a (t b z) := e
    rw [e3, e2] at e1
    exact (Lat.of_sq hs).left b y z hb hy hz e1.symm
/-- The columns of a cycle, as bits. -/
noncomputable def cyM (f : Nat → Nat) (c : Nat) : Nat := msk (fun i => it f i c) (clen f c)
theorem cyM_lt {n : Nat} {f : Nat → Nat} (hf : Pm n f) (hn : n ≤ 10) {c : Nat} (hc : c < n) (k : Nat) : msk (fun i => it f i c) k < 1024 := msk_lt _ 10 k fun i _ => by have := it_lt hf hc i; omega
theorem cyM_bit {f : Nat → Nat} {n c y : Nat} (hf : Pm n f) (hc : c < n) : (cyM f c).testBit y = true ↔ inO f c y := by
  unfold cyM
  rw [msk_bit]
  exact ⟨fun ⟨i, _, h⟩ => ⟨i, h⟩, fun h => inO_lt (clen_is hf hc).1 h⟩
theorem cyM_size {n : Nat} {f : Nat → Nat} (hf : Pm n f) (hn : n ≤ 10) {c : Nat} (hc : c < n) : cn 10 (fun i => (cyM f c).testBit i) = clen f c := by
  classical
  have h1 := (clen_is hf hc).1
  have h := cn_inj (N := 10) (e := fun i => it f i c) (b := fun _ => true) (k := clen f c) (fun i _ => by have := it_lt hf hc i; omega) fun i j hi hj e => it_inj hf hc h1 hi hj e
  have hk : ∀ k, cn k (fun _ => true) = k := fun k => by induction k with | zero => rfl | succ k ih => unfold cn; rw [ih]; rfl
  rw [hk] at h
  conv => rhs; rw [← h]
  refine cn_congr fun v _ => ?_
  rw [Bool.eq_iff_iff, decide_eq_true_iff]
  unfold cyM
  rw [msk_bit]
  exact ⟨fun ⟨i, h1, h2⟩ => ⟨i, h1, h2, rfl⟩, fun ⟨i, h1, h2, _⟩ => ⟨i, h1, h2⟩⟩


end Go.Proofs.Ythdldlpflieeoaa

/- Whether elements are those of a square: a contract. -/
namespace Go.Proofs.Ythdldlpflieeoaa
set_option linter.unusedSimpArgs false
set_option linter.unusedVariables false
open Go Go.RowKit

def elF (l : List Nat) : Nat → Value := fun j => .int .u8 (l.getD j 0 : Nat)
set_option maxRecDepth 100000 in
set_option maxHeartbeats 1000000 in
theorem hasList_any (n : Int) (t : Nat → Nat → Nat) (hn : 0 ≤ n ∧ n ≤ 255) (l : List Nat) (hl : l.length ≤ 1000) (hby : ∀ x ∈ l, x < 256) (w : World) (g cap : Nat) (hr : rds w g l.length (elF l)) :
    Calls Try.prog 255 #[.agg (sqs n t), .slice (some ⟨g, 0, none⟩) l.length cap] w fun e w' => e = .returned (.bool (l.all fun x => decide ((x : Int) < n))) ∧ Below w.heap.size w w' := by
  have M := (Mm.start no w).add (x := .rd g l.length (elF l)) hr fun _ h => by cases h
  have HBY := Hid2.mk hby
  have so := sqs_order n t
  obtain ⟨hn0, hn1⟩ := hn
  clear hr hby
  have C := M.ruleAll; simp only [Go.Proofs.Ythdldlpflieeoaa.ruleAll] at C
  go_enter Try.func255, Try.ntmps255
  go_wp2_with (first | ((with_reducible apply wpM_box' M 37 (sqs n t)); rfl; exact ⟨rfl, rfl⟩; clear M; (try clear C); intro bq w9 h_bq M; have C := M.ruleAll; simp only [Go.Proofs.Ythdldlpflieeoaa.ruleAll] at C))
  go_loopw [9, 6] (fun i _ wr => ∃ k : Nat, k ≤ l.length ∧ i = .int .i64 (k : Int) ∧ (∀ j, j < k → ((l.getD j 0 : Nat) : Int) < n) ∧ Mm no w wr [.box bq (sqs n t) 37, .rd g l.length (elF l)]) (fun i _ _ => l.length - (intOf i).toNat)
  case atStart => exact ⟨0, by omega, rfl, fun _ h => by omega, M⟩
  case round =>
    obtain ⟨k, hk, rfl, hall, M9⟩ := hrel
    clear M; (try clear C)
    have M := M9
    clear M9
    have C := M.ruleAll; simp only [Go.Proofs.Ythdldlpflieeoaa.ruleAll] at C
    have HA := Hid2.mk hall
    clear hall
    by_cases hlt : k < l.length
    · have hlt' : (k : Int) < (l.length : Int) := by omega
      have hmem : l.getD k 0 ∈ l := by rw [List.getD_eq_getElem?_getD, List.getElem?_eq_getElem hlt]; exact List.getElem_mem hlt
      have hb := HBY.out _ hmem
      generalize hx : l.getD k 0 = x at *
      have hb' : (x : Int) < 256 := by omega
      have c1 : elF l k = .int .u8 (x : Int) := by unfold elF; rw [hx]
      by_cases hxn : (x : Int) < n
      · have HST := Hid2.mk (show ∀ j, j < k + 1 → ((l.getD j 0 : Nat) : Int) < n from fun j hj => if e : j = k then by rw [e, hx]; exact hxn else HA.out j (by omega))
        have hd : decide (n ≤ (x : Int)) = false := decide_eq_false (by omega)
        have hd2 : ¬ (n ≤ (x : Int)) := by omega
        clear hmem hx
        go_wp2
        go_roundw
        case rel => exact ⟨k + 1, by omega, by go_num, HST.out, M⟩
        case measure => simp [intOf]; omega
      · have HST := Hid2.mk (show (l.all fun x => decide ((x : Int) < n)) = false from List.all_eq_false.2 ⟨x, hmem, by simpa using hxn⟩)
        have hd : decide (n ≤ (x : Int)) = true := decide_eq_true (by omega)
        clear hmem hx
        go_wp2
        go_ret
        exact ⟨by rw [HST.out]; rfl, M.below⟩
    · obtain rfl : k = l.length := by omega
      have hge : ¬ ((l.length : Int) < (l.length : Int)) := by omega
      have HST := Hid2.mk (show (l.all fun x => decide ((x : Int) < n)) = true from List.all_eq_true.2 fun x hx => by
        obtain ⟨j, hj, e⟩ := List.getElem_of_mem hx
        have := HA.out j hj
        rw [List.getD_eq_getElem?_getD, List.getElem?_eq_getElem hj, Option.getD_some, e] at this
        exact decide_eq_true this)
      go_wp2
      go_ret
      exact ⟨by rw [HST.out]; rfl, M.below⟩
end Go.Proofs.Ythdldlpflieeoaa

/- The code of a square and some elements of it: contract. -/
namespace Go.Proofs.Ythdldlpflieeoaa
set_option linter.unusedSimpArgs false
set_option linter.unusedVariables false
open Go Go.RowKit

/-- The code of a square and some elements. -/
noncomputable def ckCode (n : Int) (t : Nat → Nat → Nat) (l : List Nat) : Int := if isSq n t = true then (if (l.all fun x => decide ((x : Int) < n)) = true then 0 else 2) else 1
theorem sq_byte {n : Int} {t : Nat → Nat → Nat} (h : isSq n t = true) : 0 ≤ n ∧ n ≤ 255 := by
  have hs := isSq_true.1 h
  have h1 : (1 : Int) ≤ n := hs.lo
  have h2 : n ≤ 10 := hs.hi
  exact ⟨by omega, by omega⟩
set_option maxRecDepth 100000 in
set_option maxHeartbeats 1000000 in
theorem checked_any (n : Int) (t : Nat → Nat → Nat) (hby : Byt2 t) (l : List Nat) (hl : l.length ≤ 1000) (hlb : ∀ x ∈ l, x < 256) (w : World) (g cap : Nat) (hr : rds w g l.length (elF l)) :
    Calls Try.prog 168 #[.agg (sqs n t), .slice (some ⟨g, 0, none⟩) l.length cap] w fun e w' => e = .returned (.int .i64 (ckCode n t l)) ∧ Below w.heap.size w w' := by
  have M := (Mm.start no w).add (x := .rd g l.length (elF l)) hr fun _ h => by cases h
  have H1 := fun w1 => isSquare_any n t w1 hby
  unfold ckCode
  cases hs : isSq n t with
  | false =>
    rw [hs] at H1
    rw [if_neg (by decide)]
    clear hby hlb hr hs
    go_enter Try.func168, Try.ntmps168
    go_wp2_with (first | ((with_reducible apply wpM_box' M 37 (sqs n t)); rfl; exact ⟨rfl, rfl⟩; clear M; (try clear C); intro bq w9 h_bq M; have C := M.ruleAll; simp only [Go.Proofs.Ythdldlpflieeoaa.ruleAll] at C) | ((with_reducible apply wpM_lda' M 0 37 0 (sqs n t)); rfl; rfl; rfl; exact ⟨rfl, inf_sqs.trans (congrArg some (sqs_size ..).symm), _, und_sqs, rfl⟩; exact whole_of rfl) | (go_at_call 24; ((with_reducible refine (H1 _).mono ?_); rintro e w1 ⟨rfl, hb⟩; have hsz := M.size; (try (have G9 := G.later hb; clear G; have G := G9; clear G9)); have M9 := M.later hb; clear M; (try clear C); have M := M9; clear M9; have C := M.ruleAll; simp only [Go.Proofs.Ythdldlpflieeoaa.ruleAll] at C)))
    go_ret
    exact ⟨rfl, M.below⟩
  | true =>
    rw [hs] at H1
    rw [if_pos rfl]
    have H2 := Hid2.mk (fun w1 (h : rds w1 g l.length (elF l)) => hasList_any n t (sq_byte hs) l hl hlb w1 g cap h)
    generalize (l.all fun x => decide ((x : Int) < n)) = b at H2 ⊢
    clear hby hlb hr hs
    go_enter Try.func168, Try.ntmps168
    cases b with
    | false =>
      rw [if_neg (by decide)]
      go_wp2_with (first | ((with_reducible apply wpM_box' M 37 (sqs n t)); rfl; exact ⟨rfl, rfl⟩; clear M; (try clear C); intro bq w9 h_bq M; have C := M.ruleAll; simp only [Go.Proofs.Ythdldlpflieeoaa.ruleAll] at C) | ((with_reducible apply wpM_lda' M 0 37 0 (sqs n t)); rfl; rfl; rfl; exact ⟨rfl, inf_sqs.trans (congrArg some (sqs_size ..).symm), _, und_sqs, rfl⟩; exact whole_of rfl) | (go_at_call 24; ((with_reducible refine (H1 _).mono ?_); rintro e w1 ⟨rfl, hb⟩; have hsz := M.size; (try (have G9 := G.later hb; clear G; have G := G9; clear G9)); have M9 := M.later hb; clear M; (try clear C); have M := M9; clear M9; have C := M.ruleAll; simp only [Go.Proofs.Ythdldlpflieeoaa.ruleAll] at C)) | (go_at_call 255; ((with_reducible refine (H2.out _ (M.rd 1 rfl)).mono ?_); rintro e w1 ⟨rfl, hb⟩; have hsz := M.size; (try (have G9 := G.later hb; clear G; have G := G9; clear G9)); have M9 := M.later hb; clear M; (try clear C); have M := M9; clear M9; have C := M.ruleAll; simp only [Go.Proofs.Ythdldlpflieeoaa.ruleAll] at C)))
      go_ret
      exact ⟨rfl, M.below⟩
    | true =>
      rw [if_pos rfl]
      go_wp2_with (first | ((with_reducible apply wpM_box' M 37 (sqs n t)); rfl; exact ⟨rfl, rfl⟩; clear M; (try clear C); intro bq w9 h_bq M; have C := M.ruleAll; simp only [Go.Proofs.Ythdldlpflieeoaa.ruleAll] at C) | ((with_reducible apply wpM_lda' M 0 37 0 (sqs n t)); rfl; rfl; rfl; exact ⟨rfl, inf_sqs.trans (congrArg some (sqs_size ..).symm), _, und_sqs, rfl⟩; exact whole_of rfl) | (go_at_call 24; ((with_reducible refine (H1 _).mono ?_); rintro e w1 ⟨rfl, hb⟩; have hsz := M.size; (try (have G9 := G.later hb; clear G; have G := G9; clear G9)); have M9 := M.later hb; clear M; (try clear C); have M := M9; clear M9; have C := M.ruleAll; simp only [Go.Proofs.Ythdldlpflieeoaa.ruleAll] at C)) | (go_at_call 255; ((with_reducible refine (H2.out _ (M.rd 1 rfl)).mono ?_); rintro e w1 ⟨rfl, hb⟩; have hsz := M.size; (try (have G9 := G.later hb; clear G; have G := G9; clear G9)); have M9 := M.later hb; clear M; (try clear C); have M := M9; clear M9; have C := M.ruleAll; simp only [Go.Proofs.Ythdldlpflieeoaa.ruleAll] at C)))
      go_ret
      exact ⟨rfl, M.below⟩
end Go.Proofs.Ythdldlpflieeoaa

/- Loops at elements: contracts on both sides. -/
namespace Go.Proofs.Ythdldlpflieeoaa
set_option linter.unusedSimpArgs false
set_option linter.unusedVariables false
open Go Go.RowKit

theorem rds_b2 {w : World} {g : Nat} {a b : Nat} (h : blk w g #[.int .u8 (a : Int), .int .u8 (b : Int)] 5) : rds w g 2 (elF [a, b]) := by
  refine ⟨h.lt, fun j hj => ?_⟩
  have : j = 0 ∨ j = 1 := by omega
  rcases this with rfl | rfl
  · exact h.cell 0 _ rfl
  · exact h.cell 1 _ rfl
theorem bsl_u82 (a b : Int) (w : World) : (Instr.buildSlice 22 2 #[(0, .int .u8 a), (1, .int .u8 b)]).run Try.prog w = .ok (.slice (some ⟨w.heap.size, 0, none⟩) 2 2) (w.alloc (.cells #[.int .u8 a, .int .u8 b] 5)) := by kernel_rfl
/-- The code of a square and two elements. -/
noncomputable def c2 (n : Int) (t : Nat → Nat → Nat) (a b : Nat) : Int := bif isSq n t then (bif decide ((a : Int) < n) && decide ((b : Int) < n) then 0 else 2) else 1
theorem ckCode_two (n : Int) (t : Nat → Nat → Nat) (a b : Nat) : ckCode n t [a, b] = c2 n t a b := by
  unfold ckCode c2
  cases isSq n t
  · rfl
  · by_cases h1 : (a : Int) < n <;> by_cases h2 : (b : Int) < n <;> simp [h1, h2]
noncomputable def laB (n : Int) (t : Nat → Nat → Nat) (a b : Nat) : Bool := isSq n t && (decide ((a : Int) < n) && decide ((b : Int) < n))
/-- A loop at two elements or none. -/
noncomputable def laR (n : Int) (t : Nat → Nat → Nat) (a b : Nat) : Value := .tuple #[.agg (sqs (bif laB n t a b then n else 0) (bif laB n t a b then loopAt n.toNat t a b else fun _ _ => 0)), .int .i64 (c2 n t a b)]
theorem la_pre {n : Int} {t : Nat → Nat → Nat} {a b : Nat} (h : laB n t a b = true) : 1 ≤ n ∧ n ≤ 10 ∧ a < 10 ∧ b < 10 ∧ (∀ x y : Nat, x < 10 → y < 10 → t x y < 10) ∧ (a : Int) < n ∧ (b : Int) < n ∧ Lat n.toNat t := by
  unfold laB at h
  rw [Bool.and_eq_true, Bool.and_eq_true, decide_eq_true_eq, decide_eq_true_eq] at h
  obtain ⟨h1, h2, h3⟩ := h
  have hs := isSq_true.1 h1
  have lo := hs.lo
  have hi := hs.hi
  obtain ⟨N, hN⟩ : ∃ N : Nat, n = N := ⟨n.toNat, by omega⟩
  subst hN
  refine ⟨lo, hi, by omega, by omega, fun x y hx hy => ?_, h2, h3, Lat.of_sq hs⟩
  by_cases hc : x < N ∧ y < N
  · have := (Lat.of_sq hs).lt x y hc.1 hc.2; omega
  · rw [sq_zero hs hx hy (by omega)]; decide
theorem c2_ok {n : Int} {t : Nat → Nat → Nat} {a b : Nat} (h : laB n t a b = true) : c2 n t a b = 0 := by
  unfold laB at h
  unfold c2
  rw [Bool.and_eq_true] at h
  rw [h.1, h.2]; rfl
theorem c2_bad {n : Int} {t : Nat → Nat → Nat} {a b : Nat} (h : laB n t a b = false) : c2 n t a b = 1 ∨ c2 n t a b = 2 := by
  unfold laB at h
  unfold c2
  cases hs : isSq n t
  · exact .inl rfl
  · rw [hs, Bool.true_and] at h
    rw [h]
    exact .inr rfl
set_option maxRecDepth 100000 in
set_option maxHeartbeats 4000000 in
theorem loopAt_any (n : Int) (t : Nat → Nat → Nat) (a b : Nat) (ht : Byt2 t) (ha : a < 256) (hb : b < 256) (w : World) :
    Calls Try.prog 47 #[.agg (sqs n t), .int .u8 (a : Int), .int .u8 (b : Int)] w fun e w' => e = .returned (laR n t a b) ∧ Below w.heap.size w w' := by
  have M := Mm.start no w
  have h1' : ∀ w1 g cap, blk w1 g #[.int .u8 (a : Int), .int .u8 (b : Int)] 5 → Calls Try.prog 168 #[.agg (sqs n t), .slice (some ⟨g, 0, none⟩) 2 cap] w1 fun e w' => e = .returned (.int .i64 (c2 n t a b)) ∧ Below w1.heap.size w1 w' := fun w1 g cap h => by
    have h9 := checked_any n t ht [a, b] (show (2 : Nat) ≤ 1000 by decide) (by intro x hx; simp only [List.mem_cons, List.not_mem_nil, or_false] at hx; rcases hx with rfl | rfl <;> assumption) w1 g cap (rds_b2 h)
    rw [ckCode_two] at h9
    exact h9
  have H1 := Hid2.mk h1'
  clear h1'
  have so := sqs_order n t
  have HI := Hid2.mk (fun (h : laB n t a b = true) => (show (∀ w1, Calls Try.prog 169 #[.agg (sqs n t), .int .u8 (a : Int), .int .u8 (b : Int)] w1 fun e w' => e = .returned (.agg (trs (toF n.toNat t a b) (toG n.toNat t a b) (toH n.toNat t a b))) ∧ Below w1.heap.size w1 w') ∧ (∀ w1, Calls Try.prog 157 #[.agg (sqs n t), .agg (trs (toF n.toNat t a b) (toG n.toNat t a b) (toH n.toNat t a b))] w1 fun e w' => e = .returned (.agg (sqs n (loopAt n.toNat t a b))) ∧ Below w1.heap.size w1 w') from by
    obtain ⟨p1, p2, p3, p4, p5, p6, p7, p8⟩ := la_pre h
    have q1 := pm_toF p8 (a := a) (b := b) (by omega) (by omega)
    have q2 := pm_toG p8 (a := a) (b := b) (by omega) (by omega)
    exact ⟨fun w1 => toLoop_any n t a b w1 (by omega) p2 p3 p4 p5, fun w1 => isotope_any n t _ _ _ w1 p1 p2 (fun i hi => by have := q1.lt i (by omega); omega) (fun i hi => by have := q2.lt i (by omega); omega) (fun x y hx hy => p5 x y (by omega) (by omega))⟩))
  clear ht
  unfold laR
  cases hl : laB n t a b with
  | true =>
    obtain ⟨h2, h3⟩ := HI.out hl
    have HTO := Hid2.mk h2
    have HIS := Hid2.mk h3
    clear h2 h3 HI
    rw [c2_ok hl] at H1 ⊢
    clear hl
    generalize toF n.toNat t a b = f at HTO HIS
    generalize toG n.toNat t a b = g at HTO HIS
    generalize toH n.toNat t a b = h at HTO HIS
    generalize loopAt n.toNat t a b = u at HIS ⊢
    go_enter Try.func47, Try.ntmps47
    go_wp2_with (first | ((with_reducible apply wpM_box' M 37 (sqs n t)); rfl; exact ⟨rfl, rfl⟩; clear M; (try clear C); intro b3 w9 h_b3 M; have C := M.ruleAll; simp only [Go.Proofs.Ythdldlpflieeoaa.ruleAll] at C) | ((with_reducible apply wpM_alloc' M 37 (sqs 0 fun _ _ => 0)); rfl; exact ⟨rfl, _, zero_sqs _, rfl⟩; clear M; (try clear C); intro b6 w9 h_b6 M; have C := M.ruleAll; simp only [Go.Proofs.Ythdldlpflieeoaa.ruleAll] at C) | ((with_reducible apply wpM_lda' M 1 37 0 (sqs n t)); rfl; rfl; rfl; exact ⟨rfl, inf_sqs.trans (congrArg some (sqs_size ..).symm), _, und_sqs, rfl⟩; exact whole_of rfl) | ((with_reducible apply wpM_bsl' M 22 2 5 ([(0, .int .u8 (a : Int)), (1, .int .u8 (b : Int))]) (#[.int .u8 (a : Int), .int .u8 (b : Int)])); rfl; rfl; rfl; exact bsl_u82 _ _; clear M; (try clear C); intro bs w9 h_bs M; have C := M.ruleAll; simp only [Go.Proofs.Ythdldlpflieeoaa.ruleAll] at C) | (go_at_call 168; ((with_reducible refine (H1.out _ _ _ (M.box 0 rfl)).mono ?_); rintro e w1 ⟨rfl, hb⟩; have hsz := M.size; (try (have G9 := G.later hb; clear G; have G := G9; clear G9)); have M9 := M.later hb; clear M; (try clear C); have M := M9; clear M9; have C := M.ruleAll; simp only [Go.Proofs.Ythdldlpflieeoaa.ruleAll] at C)))
    apply wp_region_mm M 5 (by kernel_rfl) (by kernel_rfl); (simp only [List.take_succ_cons, List.take_zero]; repeat (first | exact wpText_nil | (apply wpText_cons; (intro w2 M; have C := M.ruleAll; simp only [Go.Proofs.Ythdldlpflieeoaa.ruleAll] at C; go_wp2_with (first | ((with_reducible apply wpM_lda' M 2 37 0 (sqs n t)); rfl; rfl; rfl; exact ⟨rfl, inf_sqs.trans (congrArg some (sqs_size ..).symm), _, und_sqs, rfl⟩; exact whole_of rfl) | (go_at_call 169; ((with_reducible refine (HTO.out _).mono ?_); rintro e w1 ⟨rfl, hb⟩; have hsz := M.size; (try (have G9 := G.later hb; clear G; have G := G9; clear G9)); have M9 := M.later hb; clear M; (try clear C); have M := M9; clear M9; have C := M.ruleAll; simp only [Go.Proofs.Ythdldlpflieeoaa.ruleAll] at C))); exact ⟨rfl, rfl, M⟩); rfl))); (clear M; (try clear C); intro w2 M; simp only [List.drop_succ_cons, List.drop_zero]; have C := M.ruleAll; simp only [Go.Proofs.Ythdldlpflieeoaa.ruleAll] at C)
    go_wp2_with (first | (go_at_call 157; ((with_reducible refine (HIS.out _).mono ?_); rintro e w1 ⟨rfl, hb⟩; have hsz := M.size; (try (have G9 := G.later hb; clear G; have G := G9; clear G9)); have M9 := M.later hb; clear M; (try clear C); have M := M9; clear M9; have C := M.ruleAll; simp only [Go.Proofs.Ythdldlpflieeoaa.ruleAll] at C)) | ((with_reducible apply wpM_sta' M 1 37 (sqs n u)); rfl; rfl; rfl; rfl; (first | exact .inl (by assumption) | exact .inr rfl | exact .inr (by assumption)); exact ⟨rfl, inf_sqs.trans (congrArg some (sqs_size ..).symm), flat_sqs _ _⟩; (simp only [entCells, List.getElem?_cons_zero, List.getElem?_cons_succ, sqs_size, sqs_size]); clear M; (try clear C); intro w9 M; simp only [List.set_cons_zero, List.set_cons_succ, entBlk, entT, List.getElem?_cons_zero, List.getElem?_cons_succ] at M; have C := M.ruleAll; simp only [Go.Proofs.Ythdldlpflieeoaa.ruleAll] at C))
    refine bodyPost_ret (v := .tuple #[.agg (sqs n u), .int .i64 0]) (by exact results_part2 rfl _ _ _ _ (sqs n u) _ rfl und_sqs rfl inf_sqs (cells_of_blk0 (M.box 1 rfl)) _ rfl) rfl ?_
    exact ⟨rfl, M.below⟩
  | false =>
    generalize loopAt n.toNat t a b = u
    have hc := c2_bad hl
    generalize c2 n t a b = c at H1 hc ⊢
    clear hl HI
    rcases hc with rfl | rfl
    all_goals
      go_enter Try.func47, Try.ntmps47
      go_wp2_with (first | ((with_reducible apply wpM_box' M 37 (sqs n t)); rfl; exact ⟨rfl, rfl⟩; clear M; (try clear C); intro b3 w9 h_b3 M; have C := M.ruleAll; simp only [Go.Proofs.Ythdldlpflieeoaa.ruleAll] at C) | ((with_reducible apply wpM_alloc' M 37 (sqs 0 fun _ _ => 0)); rfl; exact ⟨rfl, _, zero_sqs _, rfl⟩; clear M; (try clear C); intro b6 w9 h_b6 M; have C := M.ruleAll; simp only [Go.Proofs.Ythdldlpflieeoaa.ruleAll] at C) | ((with_reducible apply wpM_lda' M 1 37 0 (sqs n t)); rfl; rfl; rfl; exact ⟨rfl, inf_sqs.trans (congrArg some (sqs_size ..).symm), _, und_sqs, rfl⟩; exact whole_of rfl) | ((with_reducible apply wpM_bsl' M 22 2 5 ([(0, .int .u8 (a : Int)), (1, .int .u8 (b : Int))]) (#[.int .u8 (a : Int), .int .u8 (b : Int)])); rfl; rfl; rfl; exact bsl_u82 _ _; clear M; (try clear C); intro bs w9 h_bs M; have C := M.ruleAll; simp only [Go.Proofs.Ythdldlpflieeoaa.ruleAll] at C) | (go_at_call 168; ((with_reducible refine (H1.out _ _ _ (M.box 0 rfl)).mono ?_); rintro e w1 ⟨rfl, hb⟩; have hsz := M.size; (try (have G9 := G.later hb; clear G; have G := G9; clear G9)); have M9 := M.later hb; clear M; (try clear C); have M := M9; clear M9; have C := M.ruleAll; simp only [Go.Proofs.Ythdldlpflieeoaa.ruleAll] at C)) | (refine wpList_build 37 _ rfl rfl [] rfl _ (build_sq0X _) ?_) | ((with_reducible apply wpM_sta' M 1 37 (sqs 0 fun _ _ => 0)); rfl; rfl; rfl; rfl; (first | exact .inl (by assumption) | exact .inr rfl | exact .inr (by assumption)); exact ⟨rfl, inf_sqs.trans (congrArg some (sqs_size ..).symm), flat_sqs _ _⟩; (simp only [entCells, List.getElem?_cons_zero, List.getElem?_cons_succ, sqs_size, sqs_size]); clear M; (try clear C); intro w9 M; simp only [List.set_cons_zero, List.set_cons_succ, entBlk, entT, List.getElem?_cons_zero, List.getElem?_cons_succ] at M; have C := M.ruleAll; simp only [Go.Proofs.Ythdldlpflieeoaa.ruleAll] at C))
    · refine bodyPost_ret (v := .tuple #[.agg (sqs 0 fun _ _ => 0), .int .i64 1]) (by exact results_part2 rfl _ _ _ _ (sqs 0 fun _ _ => 0) _ rfl und_sqs rfl inf_sqs (cells_of_blk0 (M.box 1 rfl)) _ rfl) rfl ?_
      exact ⟨rfl, M.below⟩
    · refine bodyPost_ret (v := .tuple #[.agg (sqs 0 fun _ _ => 0), .int .i64 2]) (by exact results_part2 rfl _ _ _ _ (sqs 0 fun _ _ => 0) _ rfl und_sqs rfl inf_sqs (cells_of_blk0 (M.box 1 rfl)) _ rfl) rfl ?_
      exact ⟨rfl, M.below⟩
set_option maxRecDepth 100000 in
set_option maxHeartbeats 4000000 in
theorem specLoopAt_any (n : Int) (t : Nat → Nat → Nat) (a b : Nat) (ht : Byt2 t) (ha : a < 256) (hb : b < 256) (w : World) :
    Calls Try.prog 48 #[.agg (sqs n t), .int .u8 (a : Int), .int .u8 (b : Int)] w fun e w' => e = .returned (laR n t a b) ∧ Below w.heap.size w w' := by
  have M := Mm.start no w
  have H1 := Hid2.mk (fun w1 => l01Is_any n t w1 ht)
  have so := sqs_order n t
  have HI := Hid2.mk (fun (h : laB n t a b = true) => (show (∀ w1, Calls Try.prog 170 #[.agg (sqs n t), .int .u8 (a : Int), .int .u8 (b : Int)] w1 fun e w' => e = .returned (.agg (trs (toF n.toNat t a b) (toG n.toNat t a b) (toH n.toNat t a b))) ∧ Below w1.heap.size w1 w') ∧ (∀ w1, Calls Try.prog 159 #[.agg (sqs n t), .agg (trs (toF n.toNat t a b) (toG n.toNat t a b) (toH n.toNat t a b))] w1 fun e w' => e = .returned (.agg (sqs n (loopAt n.toNat t a b))) ∧ Below w1.heap.size w1 w') from by
    obtain ⟨p1, p2, p3, p4, p5, p6, p7, p8⟩ := la_pre h
    have q1 := pm_toF p8 (a := a) (b := b) (by omega) (by omega)
    have q2 := pm_toG p8 (a := a) (b := b) (by omega) (by omega)
    exact ⟨fun w1 => l02To_any n t a b w1 (by omega) p2 p3 p4 p5, fun w1 => l02Isotope_any n t _ _ _ w1 p1 p2 (fun i hi => by have := q1.lt i (by omega); omega) (fun i hi => by have := q2.lt i (by omega); omega) (fun x y hx hy => p5 x y (by omega) (by omega))⟩))
  clear ht
  unfold laR
  cases hl : laB n t a b with
  | true =>
    obtain ⟨h2, h3⟩ := HI.out hl
    have HTO := Hid2.mk h2
    have HIS := Hid2.mk h3
    clear h2 h3 HI
    rw [c2_ok hl]
    unfold laB at hl
    rw [Bool.and_eq_true, Bool.and_eq_true, decide_eq_true_eq, decide_eq_true_eq] at hl
    obtain ⟨q1, q2, q3⟩ := hl
    rw [q1] at H1
    clear q1
    generalize toF n.toNat t a b = f at HTO HIS
    generalize toG n.toNat t a b = g at HTO HIS
    generalize toH n.toNat t a b = h at HTO HIS
    generalize loopAt n.toNat t a b = u at HIS ⊢
    go_enter Try.func48, Try.ntmps48
    go_wp2_with (first | ((with_reducible apply wpM_box' M 37 (sqs n t)); rfl; exact ⟨rfl, rfl⟩; clear M; (try clear C); intro b3 w9 h_b3 M; have C := M.ruleAll; simp only [Go.Proofs.Ythdldlpflieeoaa.ruleAll] at C) | ((with_reducible apply wpM_alloc' M 37 (sqs 0 fun _ _ => 0)); rfl; exact ⟨rfl, _, zero_sqs _, rfl⟩; clear M; (try clear C); intro b6 w9 h_b6 M; have C := M.ruleAll; simp only [Go.Proofs.Ythdldlpflieeoaa.ruleAll] at C) | ((with_reducible apply wpM_lda' M 1 37 0 (sqs n t)); rfl; rfl; rfl; exact ⟨rfl, inf_sqs.trans (congrArg some (sqs_size ..).symm), _, und_sqs, rfl⟩; exact whole_of rfl) | (go_at_call 147; ((with_reducible refine (H1.out _).mono ?_); rintro e w1 ⟨rfl, hb⟩; have hsz := M.size; (try (have G9 := G.later hb; clear G; have G := G9; clear G9)); have M9 := M.later hb; clear M; (try clear C); have M := M9; clear M9; have C := M.ruleAll; simp only [Go.Proofs.Ythdldlpflieeoaa.ruleAll] at C)))
    apply wp_region_mm M 5 (by kernel_rfl) (by kernel_rfl); (simp only [List.take_succ_cons, List.take_zero]; repeat (first | exact wpText_nil | (apply wpText_cons; (intro w2 M; have C := M.ruleAll; simp only [Go.Proofs.Ythdldlpflieeoaa.ruleAll] at C; go_wp2_with (first | ((with_reducible apply wpM_lda' M 1 37 0 (sqs n t)); rfl; rfl; rfl; exact ⟨rfl, inf_sqs.trans (congrArg some (sqs_size ..).symm), _, und_sqs, rfl⟩; exact whole_of rfl) | (go_at_call 170; ((with_reducible refine (HTO.out _).mono ?_); rintro e w1 ⟨rfl, hb⟩; have hsz := M.size; (try (have G9 := G.later hb; clear G; have G := G9; clear G9)); have M9 := M.later hb; clear M; (try clear C); have M := M9; clear M9; have C := M.ruleAll; simp only [Go.Proofs.Ythdldlpflieeoaa.ruleAll] at C))); exact ⟨rfl, rfl, M⟩); rfl))); (clear M; (try clear C); intro w2 M; simp only [List.drop_succ_cons, List.drop_zero]; have C := M.ruleAll; simp only [Go.Proofs.Ythdldlpflieeoaa.ruleAll] at C)
    go_wp2_with (first | (go_at_call 159; ((with_reducible refine (HIS.out _).mono ?_); rintro e w1 ⟨rfl, hb⟩; have hsz := M.size; (try (have G9 := G.later hb; clear G; have G := G9; clear G9)); have M9 := M.later hb; clear M; (try clear C); have M := M9; clear M9; have C := M.ruleAll; simp only [Go.Proofs.Ythdldlpflieeoaa.ruleAll] at C)) | ((with_reducible apply wpM_sta' M 0 37 (sqs n u)); rfl; rfl; rfl; rfl; (first | exact .inl (by assumption) | exact .inr rfl | exact .inr (by assumption)); exact ⟨rfl, inf_sqs.trans (congrArg some (sqs_size ..).symm), flat_sqs _ _⟩; (simp only [entCells, List.getElem?_cons_zero, List.getElem?_cons_succ, sqs_size, sqs_size]); clear M; (try clear C); intro w9 M; simp only [List.set_cons_zero, List.set_cons_succ, entBlk, entT, List.getElem?_cons_zero, List.getElem?_cons_succ] at M; have C := M.ruleAll; simp only [Go.Proofs.Ythdldlpflieeoaa.ruleAll] at C))
    refine bodyPost_ret (v := .tuple #[.agg (sqs n u), .int .i64 0]) (by exact results_part2 rfl _ _ _ _ (sqs n u) _ rfl und_sqs rfl inf_sqs (cells_of_blk0 (M.box 0 rfl)) _ rfl) rfl ?_
    exact ⟨rfl, M.below⟩
  | false =>
    generalize loopAt n.toNat t a b = u
    unfold laB at hl
    unfold c2
    cases hs : isSq n t <;> rw [hs] at H1
    · clear HI hl hs
      go_enter Try.func48, Try.ntmps48
      go_wp2_with (first | ((with_reducible apply wpM_box' M 37 (sqs n t)); rfl; exact ⟨rfl, rfl⟩; clear M; (try clear C); intro b3 w9 h_b3 M; have C := M.ruleAll; simp only [Go.Proofs.Ythdldlpflieeoaa.ruleAll] at C) | ((with_reducible apply wpM_alloc' M 37 (sqs 0 fun _ _ => 0)); rfl; exact ⟨rfl, _, zero_sqs _, rfl⟩; clear M; (try clear C); intro b6 w9 h_b6 M; have C := M.ruleAll; simp only [Go.Proofs.Ythdldlpflieeoaa.ruleAll] at C) | ((with_reducible apply wpM_lda' M 1 37 0 (sqs n t)); rfl; rfl; rfl; exact ⟨rfl, inf_sqs.trans (congrArg some (sqs_size ..).symm), _, und_sqs, rfl⟩; exact whole_of rfl) | (go_at_call 147; ((with_reducible refine (H1.out _).mono ?_); rintro e w1 ⟨rfl, hb⟩; have hsz := M.size; (try (have G9 := G.later hb; clear G; have G := G9; clear G9)); have M9 := M.later hb; clear M; (try clear C); have M := M9; clear M9; have C := M.ruleAll; simp only [Go.Proofs.Ythdldlpflieeoaa.ruleAll] at C)) | (refine wpList_build 37 _ rfl rfl [] rfl _ (build_sq0X _) ?_) | ((with_reducible apply wpM_sta' M 0 37 (sqs 0 fun _ _ => 0)); rfl; rfl; rfl; rfl; (first | exact .inl (by assumption) | exact .inr rfl | exact .inr (by assumption)); exact ⟨rfl, inf_sqs.trans (congrArg some (sqs_size ..).symm), flat_sqs _ _⟩; (simp only [entCells, List.getElem?_cons_zero, List.getElem?_cons_succ, sqs_size, sqs_size]); clear M; (try clear C); intro w9 M; simp only [List.set_cons_zero, List.set_cons_succ, entBlk, entT, List.getElem?_cons_zero, List.getElem?_cons_succ] at M; have C := M.ruleAll; simp only [Go.Proofs.Ythdldlpflieeoaa.ruleAll] at C))
      refine bodyPost_ret (v := .tuple #[.agg (sqs 0 fun _ _ => 0), .int .i64 1]) (by exact results_part2 rfl _ _ _ _ (sqs 0 fun _ _ => 0) _ rfl und_sqs rfl inf_sqs (cells_of_blk0 (M.box 0 rfl)) _ rfl) rfl ?_
      exact ⟨rfl, M.below⟩
    · rw [hs, Bool.true_and] at hl
      rw [hl]
      clear HI hs
      by_cases h1 : (a : Int) < n
      · have h2 : ¬ (b : Int) < n := fun h2 => by simp [h1, h2] at hl
        clear hl
        go_enter Try.func48, Try.ntmps48
        go_wp2_with (first | ((with_reducible apply wpM_box' M 37 (sqs n t)); rfl; exact ⟨rfl, rfl⟩; clear M; (try clear C); intro b3 w9 h_b3 M; have C := M.ruleAll; simp only [Go.Proofs.Ythdldlpflieeoaa.ruleAll] at C) | ((with_reducible apply wpM_alloc' M 37 (sqs 0 fun _ _ => 0)); rfl; exact ⟨rfl, _, zero_sqs _, rfl⟩; clear M; (try clear C); intro b6 w9 h_b6 M; have C := M.ruleAll; simp only [Go.Proofs.Ythdldlpflieeoaa.ruleAll] at C) | ((with_reducible apply wpM_lda' M 1 37 0 (sqs n t)); rfl; rfl; rfl; exact ⟨rfl, inf_sqs.trans (congrArg some (sqs_size ..).symm), _, und_sqs, rfl⟩; exact whole_of rfl) | (go_at_call 147; ((with_reducible refine (H1.out _).mono ?_); rintro e w1 ⟨rfl, hb⟩; have hsz := M.size; (try (have G9 := G.later hb; clear G; have G := G9; clear G9)); have M9 := M.later hb; clear M; (try clear C); have M := M9; clear M9; have C := M.ruleAll; simp only [Go.Proofs.Ythdldlpflieeoaa.ruleAll] at C)) | (refine wpList_build 37 _ rfl rfl [] rfl _ (build_sq0X _) ?_) | ((with_reducible apply wpM_sta' M 0 37 (sqs 0 fun _ _ => 0)); rfl; rfl; rfl; rfl; (first | exact .inl (by assumption) | exact .inr rfl | exact .inr (by assumption)); exact ⟨rfl, inf_sqs.trans (congrArg some (sqs_size ..).symm), flat_sqs _ _⟩; (simp only [entCells, List.getElem?_cons_zero, List.getElem?_cons_succ, sqs_size, sqs_size]); clear M; (try clear C); intro w9 M; simp only [List.set_cons_zero, List.set_cons_succ, entBlk, entT, List.getElem?_cons_zero, List.getElem?_cons_succ] at M; have C := M.ruleAll; simp only [Go.Proofs.Ythdldlpflieeoaa.ruleAll] at C))
        refine bodyPost_ret (v := .tuple #[.agg (sqs 0 fun _ _ => 0), .int .i64 2]) (by exact results_part2 rfl _ _ _ _ (sqs 0 fun _ _ => 0) _ rfl und_sqs rfl inf_sqs (cells_of_blk0 (M.box 0 rfl)) _ rfl) rfl ?_
        exact ⟨rfl, M.below⟩
      · clear hl
        go_enter Try.func48, Try.ntmps48
        go_wp2_with (first | ((with_reducible apply wpM_box' M 37 (sqs n t)); rfl; exact ⟨rfl, rfl⟩; clear M; (try clear C); intro b3 w9 h_b3 M; have C := M.ruleAll; simp only [Go.Proofs.Ythdldlpflieeoaa.ruleAll] at C) | ((with_reducible apply wpM_alloc' M 37 (sqs 0 fun _ _ => 0)); rfl; exact ⟨rfl, _, zero_sqs _, rfl⟩; clear M; (try clear C); intro b6 w9 h_b6 M; have C := M.ruleAll; simp only [Go.Proofs.Ythdldlpflieeoaa.ruleAll] at C) | ((with_reducible apply wpM_lda' M 1 37 0 (sqs n t)); rfl; rfl; rfl; exact ⟨rfl, inf_sqs.trans (congrArg some (sqs_size ..).symm), _, und_sqs, rfl⟩; exact whole_of rfl) | (go_at_call 147; ((with_reducible refine (H1.out _).mono ?_); rintro e w1 ⟨rfl, hb⟩; have hsz := M.size; (try (have G9 := G.later hb; clear G; have G := G9; clear G9)); have M9 := M.later hb; clear M; (try clear C); have M := M9; clear M9; have C := M.ruleAll; simp only [Go.Proofs.Ythdldlpflieeoaa.ruleAll] at C)) | (refine wpList_build 37 _ rfl rfl [] rfl _ (build_sq0X _) ?_) | ((with_reducible apply wpM_sta' M 0 37 (sqs 0 fun _ _ => 0)); rfl; rfl; rfl; rfl; (first | exact .inl (by assumption) | exact .inr rfl | exact .inr (by assumption)); exact ⟨rfl, inf_sqs.trans (congrArg some (sqs_size ..).symm), flat_sqs _ _⟩; (simp only [entCells, List.getElem?_cons_zero, List.getElem?_cons_succ, sqs_size, sqs_size]); clear M; (try clear C); intro w9 M; simp only [List.set_cons_zero, List.set_cons_succ, entBlk, entT, List.getElem?_cons_zero, List.getElem?_cons_succ] at M; have C := M.ruleAll; simp only [Go.Proofs.Ythdldlpflieeoaa.ruleAll] at C))
        refine bodyPost_ret (v := .tuple #[.agg (sqs 0 fun _ _ => 0), .int .i64 2]) (by exact results_part2 rfl _ _ _ _ (sqs 0 fun _ _ => 0) _ rfl und_sqs rfl inf_sqs (cells_of_blk0 (M.box 0 rfl)) _ rfl) rfl ?_
        exact ⟨rfl, M.below⟩
end Go.Proofs.Ythdldlpflieeoaa

/- Squares and triples that are compared. -/
namespace Go.Proofs.Ythdldlpflieeoaa
set_option linter.unusedSimpArgs false
set_option linter.unusedVariables false
open Go Go.RowKit

theorem neq_sq (n m : Int) (t u : Nat → Nat → Nat) (w : World) : (binOp .neq 37 (.agg (sqs n t)) (.agg (sqs m u))).run Try.prog w = .ok (.bool (!(n == m && eqT t u))) w := by
  have h := eql_sq n m t u w
  rw [run_eql_struct] at h
  rw [run_neq_struct]
  cases hx : (Op.equalIn 10000 37 (.agg (sqs n t)) (.agg (sqs m u))).run Try.prog w with
  | ok b w' =>
    rw [hx] at h
    simp only [Result.andThen_ok] at h ⊢
    cases h
    rfl
  | halt x w' => rw [hx] at h; cases h
theorem eqT_refl (t : Nat → Nat → Nat) : eqT t t = true := eqT_iff.2 fun _ _ _ _ => rfl
theorem neq_sqs (n : Int) (t : Nat → Nat → Nat) (w : World) : (binOp .neq 37 (.agg (sqs n t)) (.agg (sqs n t))).run Try.prog w = .ok (.bool false) w := by
  rw [neq_sq, eqT_refl]; simp
theorem eql_sqs (n : Int) (t : Nat → Nat → Nat) (w : World) : (binOp .eql 37 (.agg (sqs n t)) (.agg (sqs n t))).run Try.prog w = .ok (.bool true) w := by
  rw [eql_sq, eqT_refl]; simp
theorem tr_fields : ∃ f0 f1 f2 : Field, (Try.prog.fieldsOf 46).toList = [f0, f1, f2] ∧ (f0.name ≠ "_" ∧ f0.type = 25 ∧ f0.offset = 0) ∧ (f1.name ≠ "_" ∧ f1.type = 25 ∧ f1.offset = 10) ∧ (f2.name ≠ "_" ∧ f2.type = 25 ∧ f2.offset = 20) :=
  ⟨(Try.prog.fieldsOf 46)[0]!, (Try.prog.fieldsOf 46)[1]!, (Try.prog.fieldsOf 46)[2]!, by kernel_rfl, ⟨by decide +kernel, by kernel_rfl, by kernel_rfl⟩, ⟨by decide +kernel, by kernel_rfl, by kernel_rfl⟩, by decide +kernel, by kernel_rfl, by kernel_rfl⟩
theorem trs_extract1 {f g h : Nat → Nat} : (trs f g h).extract 0 (0 + 10) = bys f := by
  apply Array.ext_getElem?
  intro i
  rw [Array.getElem?_extract]
  by_cases hi : i < 10
  · rw [if_pos (by rw [trs_size]; omega), bys_get hi, Nat.zero_add, trs_get1 hi]
  · rw [if_neg (by rw [trs_size]; omega), Array.getElem?_eq_none (by rw [bys_size]; omega)]
theorem trs_extract2 {f g h : Nat → Nat} : (trs f g h).extract 10 (10 + 10) = bys g := by
  apply Array.ext_getElem?
  intro i
  rw [Array.getElem?_extract]
  by_cases hi : i < 10
  · rw [if_pos (by rw [trs_size]; omega), bys_get hi, trs_get2 hi]
  · rw [if_neg (by rw [trs_size]; omega), Array.getElem?_eq_none (by rw [bys_size]; omega)]
theorem trs_extract3 {f g h : Nat → Nat} : (trs f g h).extract 20 (20 + 10) = bys h := by
  apply Array.ext_getElem?
  intro i
  rw [Array.getElem?_extract]
  by_cases hi : i < 10
  · rw [if_pos (by rw [trs_size]; omega), bys_get hi, trs_get3 hi]
  · rw [if_neg (by rw [trs_size]; omega), Array.getElem?_eq_none (by rw [bys_size]; omega)]
theorem inf_plcX' : (Try.prog.info? 25).isSome = true := by kernel_rfl
theorem inf_plcX : ∃ i, Try.prog.info? 25 = some i := Option.isSome_iff_exists.1 inf_plcX'
theorem part_plcX (cs : Array Value) (off : Nat) (p : Nat → Nat) (h : cs.extract off (off + 10) = bys p) (w : World) : (part 25 cs off).run Try.prog w = .ok (.agg (bys p)) w := by
  have hc : Try.prog.cellsOf 25 = 10 := by kernel_rfl
  obtain ⟨d, hd⟩ := inf_plcX
  have ha : (isAgg 25).run Try.prog w = .ok true w := by
    unfold isAgg
    rw [Sem.run_bind, run_underlying und_plc w]
    rfl
  unfold part
  rw [Sem.run_bind, ha]
  simp only [Result.andThen_ok, if_true, Sem.run_bind, run_sizeOf w hd, Sem.run_pure, hc, h]
theorem eqb_refl (f : Nat → Nat) : eqb f f = true := eqb_true.2 fun _ _ => rfl
theorem eqlF_trs (f g h : Nat → Nat) (w : World) : (Op.equalIn 10000 46 (.agg (trs f g h)) (.agg (trs f g h))).run Try.prog w = .ok true w := by
  obtain ⟨f0, f1, f2, hf, ⟨a1, a2, a3⟩, ⟨b1, b2, b3⟩, c1, c2, c3⟩ := tr_fields
  have hk := run_equalIn_struct (P := Try.prog) w 9999 46 (trs f g h) (trs f g h) (by kernel_rfl) (by kernel_rfl)
  rw [hf] at hk
  rw [hk]
  have p1 := fun w => part_plcX (trs f g h) 0 f trs_extract1 w
  have p2 := fun w => part_plcX (trs f g h) 10 g trs_extract2 w
  have p3 := fun w => part_plcX (trs f g h) 20 h trs_extract3 w
  have e1 := fun q w => equal_bys 9997 _ und_plc q q w
  simp only [eqb_refl] at e1
  simp [Op.eqFields, a1, b1, c1, a2, a3, b2, b3, c2, c3, p1, p2, p3, e1]
theorem neq_trs (f g h : Nat → Nat) (w : World) : (binOp .neq 46 (.agg (trs f g h)) (.agg (trs f g h))).run Try.prog w = .ok (.bool false) w := by
  rw [run_neq_struct, eqlF_trs]; rfl
theorem egt_trp : Try.prog.eqGuardType Try.prog.depth 46 = false := by kernel_rfl
end Go.Proofs.Ythdldlpflieeoaa

/- The program's check of loops: a contract. -/
namespace Go.Proofs.Ythdldlpflieeoaa
set_option linter.unusedSimpArgs false
set_option linter.unusedVariables false
open Go.RowKit

theorem unit_isLp {n : Int} {t : Nat → Nat → Nat} (h : IsSq n t) : isLp n t = unitB n t 0 := by
  cases hu : unitB n t 0 with
  | true =>
    have := unitB_true.1 hu
    exact isLp_true.2 ⟨h, fun x _ hx => (this x hx).1, fun x _ hx => (this x hx).2⟩
  | false =>
    refine isLp_false.2 fun hl => unitB_false.1 hu fun x hx => ?_
    have := h.hi
    exact ⟨hl.left x (by omega) hx, hl.right x (by omega) hx⟩

set_option maxRecDepth 100000 in
set_option maxHeartbeats 1000000 in
theorem isLoop_any (n : Int) (t : Nat → Nat → Nat) (w : World) (hby : Byt2 t) :
    Calls Try.prog 49 #[.agg (sqs n t)] w fun e w' => e = .returned (.bool (isLp n t)) ∧ Below w.heap.size w w' := by
  have b1 := blk_new w (sqs n t) 37 w.heap.size rfl
  have hB : Below w.heap.size w (w.alloc (.cells (sqs n t) 37)) := (Below.refl _ _).alloc (by simp) _
  cases hs : isSq n t with
  | false =>
    have hF : isLp n t = false := isLp_false.2 fun h => by have := isSq_true.2 h.sq; rw [hs] at this; cases this
    go_enter Try.func49, Try.ntmps49
    go_wp2_with (first | (refine wpList_load_part rfl 37 _ rfl _ _ rfl (sqs n t) _ und_sqs rfl inf_sqs (cells_of_blk0 b1) ?_) | (go_at_call 24; ((with_reducible refine (isSquare_any _ _ _ hby).mono ?_); rintro e w1 ⟨rfl, hb⟩)))
    go_ret
    exact ⟨by first | rfl | exact ret_b hF, below_self hB hb⟩
  | true =>
    have hsq := isSq_true.1 hs
    have hL := unit_isLp hsq
    go_enter Try.func49, Try.ntmps49
    go_wp2_with (first | (refine wpList_load_part rfl 37 _ rfl _ _ rfl (sqs n t) _ und_sqs rfl inf_sqs (cells_of_blk0 b1) ?_) | (go_at_call 24; ((with_reducible refine (isSquare_any _ _ _ hby).mono ?_); rintro e w1 ⟨rfl, hb⟩; have b2 := b1.later hb)) | (refine wpList_load_part_g 37 _ rfl rfl _ _ rfl (sqs n t) _ und_sqs rfl inf_sqs (cells_of_blk0 b2) ?_) | (go_at_call 171; refine (isUnit_any n t 0 _ hsq.lo hsq.hi (by omega) hby).mono ?_; rintro e w2 ⟨rfl, hb2⟩))
    go_ret
    exact ⟨by first | rfl | exact ret_b hL, below_self (below_self hB hb) hb2⟩
end Go.Proofs.Ythdldlpflieeoaa

/- The frame of a law over a code: a list of bytes that comes in. -/
namespace Go.Proofs.Ythdldlpflieeoaa
set_option linter.unusedSimpArgs false
set_option linter.unusedVariables false
open Go.ChangeShapes Go.WideShapes Go.ChangeAt Go.RowKit

theorem Try.own : ownKnob Try.prog.godebug = none := by kernel_rfl
theorem Try.laidOut : laidOutB Try.prog = true := by kernel_rfl
theorem Try.cellsU8 : Try.prog.cellsOf 5 = 1 := by kernel_rfl
section
variable {H : Type} {enc : TypeId × Value → H} {w : World} {base : Nat} {spare : Nat → Bool} {held : Bool}
theorem cell_addr {a : Addr} {v : Value} (h : w.cell? a = some v) : a = ⟨a.block, a.off, none⟩ ∧ a.block < w.heap.size := by
  obtain ⟨b, off, sp⟩ := a
  refine ⟨?_, World.block_lt_of_cell? w _ h⟩
  cases sp with
  | none => rfl
  | some k =>
    unfold World.cell? at h
    split at h <;> simp at h
theorem cells_each {a : Addr} {n : Nat} {cs : List Value} (h : w.cells? base a n = some cs) : cs.length = n ∧ ∀ j, j < n → w.cell? (a.add j) = cs[j]? := by
  obtain ⟨_, h1, h2⟩ := World.cells?_some h
  exact ⟨h1, h2⟩
/-- A list of bytes that comes in. -/
theorem trod_code {fuel : Nat} {cs : List Value} {x : DataW H × List MemPlace} (h : DataW.trod enc Try.prog w base spare held fuel 22 cs = some x) :
    ∃ (p : Option Addr) (cap : Nat) (ls : List Nat), cs = [.slice p ls.length cap] ∧ rdp w p ls.length (cdF ls) ∧ Byts ls := by
  rcases DataW.trod_slice Try.underlying22 h with ⟨rfl, _⟩ | ⟨a, len, cap, elems, rest, n, _, rfl, _, hb, hl, hm, hlen, hel, _, _⟩
  · exact ⟨none, 0, [], rfl, (fun h => absurd h (by simp)), fun x hx => by cases hx⟩
  · have each : ∀ i, ∃ q : Nat, q < 256 ∧ (i < len → w.cell? (a.add i) = some (.int .u8 (q : Int))) := fun i => by
      by_cases hi : i < len
      · have h1 := hel i hi
        rw [List.getElem?_eq_getElem (by omega), Try.cellsU8, Option.bind_eq_some_iff, Nat.mul_one] at h1
        obtain ⟨cs', hc, ht⟩ := h1
        obtain ⟨n, hn, _, hw⟩ := DataW.trod_int Try.underlying5 ht
        have hb := bounds_u8 hw
        obtain ⟨_, h2⟩ := cells_each hc
        have h3 := h2 0 (by omega)
        have ea : (a.add i).add 0 = a.add i := by simp [Addr.add]
        rw [ea, hn] at h3
        exact ⟨n.toNat, by omega, fun _ => by rw [h3, show ((n.toNat : Nat) : Int) = n by omega]; rfl⟩
      · exact ⟨0, by decide, fun h => absurd h hi⟩
    obtain ⟨g, hg⟩ := Classical.axiomOfChoice each
    have hll : ((List.range len).map g).length = len := by simp
    refine ⟨some a, cap, (List.range len).map g, by rw [hll], fun hn => ?_, fun x hx => ?_⟩
    · rw [hll] at hn ⊢
      have h0 := (hg 0).2 (by omega)
      have ea : a.add 0 = a := by simp [Addr.add]
      rw [ea] at h0
      obtain ⟨e1, hlt⟩ := cell_addr h0
      refine ⟨a.block, a.off, by rw [← e1], hlt, fun j hj => ?_⟩
      have e2 : a.add j = ⟨a.block, a.off + j, none⟩ := by rw [e1, add_none]
      rw [← e2, (hg j).2 hj]
      show some _ = some (cdF ((List.range len).map g) j)
      unfold cdF
      rw [List.getD_eq_getElem?_getD, List.getElem?_map, List.getElem?_range hj]
      rfl
    · obtain ⟨i, _, rfl⟩ := List.mem_map.1 hx
      exact (hg i).1
end
end Go.Proofs.Ythdldlpflieeoaa

