/- Canonical loops and isotopes of the reference: contracts. -/
import Derived.Test.YtinjjaoikofkdaaJ1
import Derived.Test.YtinjjaoikofkdaaC12
import Derived.Test.YtinjjaoikofkdaaC11
import Derived.Test.YtinjjaoikofkdaaK9
namespace Go.Proofs.Ytinjjaoikofkdaa
set_option linter.unusedSimpArgs false
set_option linter.unusedVariables false
open Go Go.RowKit

/-! ### Equality of squares -/
def eqT (t u : Nat → Nat → Nat) : Bool := decide (∀ i ∈ List.range 10, eqb (t i) (u i) = true)
theorem eqT_iff {t u : Nat → Nat → Nat} : eqT t u = true ↔ EqT t u := by
  unfold eqT
  rw [decide_eq_true_iff]
  exact ⟨fun h x hx => eqb_iff.1 (h x (List.mem_range.2 hx)), fun h i hi => eqb_iff.2 (h i (List.mem_range.1 hi))⟩
theorem inf_rowJ' : (Try.prog.info? 36).isSome = true := by kernel_rfl
theorem inf_rowJ : ∃ i, Try.prog.info? 36 = some i := Option.isSome_iff_exists.1 inf_rowJ'
theorem und_tblJ : Try.prog.underlying 41 = some (.array 10 36) := by kernel_rfl
theorem tbs_extract {t : Nat → Nat → Nat} {i : Nat} (hi : i < 10) : (tbs t).extract (i * 10) (i * 10 + 10) = bys (t i) := by
  have hs : ((tbs t).extract (i * 10) (i * 10 + 10)).size = 10 := by rw [Array.size_extract, tbs_size]; omega
  refine Array.ext (by rw [hs, bys_size]) fun j h1 h2 => ?_
  have hj : j < 10 := by rw [hs] at h1; exact h1
  have e1 : (tbs t)[i * 10 + j]? = some (.int .u8 (t i j)) := tbs_get hi hj
  have e2 : (bys (t i))[j]? = some (.int .u8 (t i j)) := bys_get hj
  have h3 : ((tbs t).extract (i * 10) (i * 10 + 10))[j]? = some (.int .u8 (t i j)) := by
    rw [Array.getElem?_extract_of_lt (by rw [tbs_size]; omega), ← Array.getElem?_eq_getElem]
    exact e1
  rw [Array.getElem?_eq_getElem h1] at h3
  rw [Array.getElem?_eq_getElem h2] at e2
  rw [Option.some.inj h3, Option.some.inj e2]
theorem sqs_extract {n : Int} {t : Nat → Nat → Nat} : (sqs n t).extract 1 (1 + 100) = tbs t := by
  have hs : ((sqs n t).extract 1 (1 + 100)).size = 100 := by rw [Array.size_extract, sqs_size]; rfl
  refine Array.ext (by rw [hs, tbs_size]) fun j h1 h2 => ?_
  have hj : j < 100 := by rw [hs] at h1; exact h1
  have e2 : (tbs t)[j]? = some ((tbs t)[j]'h2) := Array.getElem?_eq_getElem h2
  have e1 := sqs_tbs (n := n) j _ e2
  have h3 : ((sqs n t).extract 1 (1 + 100))[j]? = some ((tbs t)[j]'h2) := by
    rw [Array.getElem?_extract_of_lt (by rw [sqs_size]; omega), ← Array.getElem?_eq_getElem]
    exact e1
  rw [Array.getElem?_eq_getElem h1] at h3
  exact Option.some.inj h3
theorem part_row (t : Nat → Nat → Nat) (i : Nat) (hi : i < 10) (w : World) : (part 36 (tbs t) (i * Try.prog.cellsOf 36)).run Try.prog w = .ok (.agg (bys (t i))) w := by
  have hc : Try.prog.cellsOf 36 = 10 := by kernel_rfl
  obtain ⟨d, hd⟩ := inf_rowJ
  have ha : (isAgg 36).run Try.prog w = .ok true w := by
    unfold isAgg
    rw [Sem.run_bind, run_underlying und_bys w]
    rfl
  unfold part
  rw [Sem.run_bind, ha]
  simp only [Result.andThen_ok, if_true, Sem.run_bind, run_sizeOf w hd, Sem.run_pure, hc, tbs_extract hi]
theorem eqItems_tbs (d : Nat) (t u : Nat → Nat → Nat) (w : World) : ∀ l : List Nat, (∀ i ∈ l, i < 10) →
    (Op.eqItems (d + 2) 36 (Try.prog.cellsOf 36) (tbs t) (tbs u) l).run Try.prog w = .ok (decide (∀ i ∈ l, eqb (t i) (u i) = true)) w
  | [], _ => by simp [Op.eqItems]
  | i :: l, h => by
    have ih := eqItems_tbs d t u w l fun j hj => h j (List.mem_cons_of_mem _ hj)
    simp only [Op.eqItems, Sem.run_bind, part_row t i (h i List.mem_cons_self) w, part_row u i (h i List.mem_cons_self) w, Result.andThen_ok, equal_bys d _ und_bys]
    cases e : eqb (t i) (u i) with
    | true =>
      simp only [Bool.not_true, Bool.false_eq_true, if_false, ih]
      simp [e]
    | false => simp [e]
theorem equal_tbs (d : Nat) (t u : Nat → Nat → Nat) (w : World) : (Op.equalIn (d + 3) 41 (.agg (tbs t)) (.agg (tbs u))).run Try.prog w = .ok (eqT t u) w := by
  obtain ⟨i, hi⟩ := inf_rowJ
  rw [run_equalIn_array w (d + 2) (tbs t) (tbs u) und_tblJ hi, eqItems_tbs d t u w _ (by simp)]
  rfl
theorem sq_fields : ∃ f0 f1 : Field, (Try.prog.fieldsOf 43).toList = [f0, f1] ∧ (f0.name ≠ "_" ∧ f0.type = 2 ∧ f0.offset = 0) ∧ (f1.name ≠ "_" ∧ f1.type = 41 ∧ f1.offset = 1) :=
  ⟨(Try.prog.fieldsOf 43)[0]!, (Try.prog.fieldsOf 43)[1]!, by kernel_rfl, ⟨by decide +kernel, by kernel_rfl, by kernel_rfl⟩, by decide +kernel, by kernel_rfl, by kernel_rfl⟩
theorem und_i64J : Try.prog.underlying 2 = some (.int .i64) := by kernel_rfl
theorem inf_tblJ' : (Try.prog.info? 41).isSome = true := by kernel_rfl
theorem inf_tblJ : ∃ i, Try.prog.info? 41 = some i := Option.isSome_iff_exists.1 inf_tblJ'
theorem part_ord (n : Int) (t : Nat → Nat → Nat) (w : World) : (part 2 (sqs n t) 0).run Try.prog w = .ok (.int .i64 n) w := by
  have ha : (isAgg 2).run Try.prog w = .ok false w := by
    unfold isAgg
    rw [Sem.run_bind, run_underlying und_i64J w]
    rfl
  unfold part
  rw [Sem.run_bind, ha]
  simp [sqs_order]
theorem part_tbl (n : Int) (t : Nat → Nat → Nat) (w : World) : (part 41 (sqs n t) 1).run Try.prog w = .ok (.agg (tbs t)) w := by
  have hc : Try.prog.cellsOf 41 = 100 := by kernel_rfl
  obtain ⟨d, hd⟩ := inf_tblJ
  have ha : (isAgg 41).run Try.prog w = .ok true w := by
    unfold isAgg
    rw [Sem.run_bind, run_underlying und_tblJ w]
    rfl
  unfold part
  rw [Sem.run_bind, ha]
  simp only [Result.andThen_ok, if_true, Sem.run_bind, run_sizeOf w hd, Sem.run_pure, hc, sqs_extract]
theorem eql_sq (n m : Int) (t u : Nat → Nat → Nat) (w : World) : (binOp .eql 43 (.agg (sqs n t)) (.agg (sqs m u))).run Try.prog w = .ok (.bool (n == m && eqT t u)) w := by
  obtain ⟨f0, f1, hf, ⟨a1, a2, a3⟩, b1, b2, b3⟩ := sq_fields
  have hk := run_equalIn_struct (P := Try.prog) w 9999 43 (sqs n t) (sqs m u) (by kernel_rfl) (by kernel_rfl)
  rw [hf] at hk
  have he : (Op.equalIn 10000 43 (.agg (sqs n t)) (.agg (sqs m u))).run Try.prog w = .ok (n == m && eqT t u) w := by
    rw [hk]
    simp only [Op.eqFields, ne_eq, a1, b1, not_false_eq_true, if_true, a2, a3, b2, b3, Sem.run_bind, part_ord, part_tbl, Result.andThen_ok, run_equalIn_int w 9998 2 .i64 .i64 _ _ und_i64J]
    by_cases e : n = m
    · have e' : (n == m) = true := by simp [e]
      rw [e']
      simp only [Bool.not_true, Bool.false_eq_true, if_false, Sem.run_bind, part_tbl, Result.andThen_ok, equal_tbs 9996, Bool.true_and]
      cases eqT t u <;> simp
    · have e' : (n == m) = false := by simp [e]
      rw [e']
      simp
  rw [run_eql_struct, he]; rfl
theorem egt_sqs : Try.prog.eqGuardType Try.prog.depth 43 = false := by kernel_rfl

/-! ### The reference's canonical loops -/
set_option maxRecDepth 100000 in
set_option maxHeartbeats 1000000 in
theorem l02Lower_any (s t : Nat → Nat → Nat) (w : World) : Calls Try.prog 111 #[.agg (tbs s), .agg (tbs t)] w fun e w' => e = .returned (.bool (lowB s t 10 0)) ∧ Below w.heap.size w w' := by
  have M := Mm.start no w
  go_enter Try.func111, Try.ntmps111
  go_wp2_with (first | ((with_reducible apply wpM_box' M 41 (tbs s)); rfl; exact ⟨rfl, rfl⟩; clear M; (try clear C); intro bf w9 h_bf M; have C := M.ruleAll; simp only [Go.Proofs.Ytinjjaoikofkdaa.ruleAll] at C) | ((with_reducible apply wpM_box' M 41 (tbs t)); rfl; exact ⟨rfl, rfl⟩; clear M; (try clear C); intro bg w9 h_bg M; have C := M.ruleAll; simp only [Go.Proofs.Ytinjjaoikofkdaa.ruleAll] at C))
  go_loopw [5] (fun i wr => ∃ k : Nat, k ≤ 10 ∧ i = .int .i64 (k : Int) ∧ lowB s t (10 - k) k = lowB s t 10 0 ∧ Mm no w wr [.box bg (tbs t) 41, .box bf (tbs s) 41]) (fun i _ => 10 - (intOf i).toNat)
  case atStart => exact ⟨0, by omega, rfl, rfl, M⟩
  case round =>
    obtain ⟨k, hk, rfl, hl, M9⟩ := hrel
    clear M; (try clear C)
    have M := M9
    clear M9
    have C := M.ruleAll; simp only [Go.Proofs.Ytinjjaoikofkdaa.ruleAll] at C
    by_cases hlt : k < 10
    · have hlt' : (k : Int) < 10 := by omega
      rw [show 10 - k = (10 - (k + 1)) + 1 by omega, lowB_succ] at hl
      cases he : eqb (s k) (t k) with
      | true =>
        rw [if_pos he] at hl
        have HL := Hid2.mk hl
        clear hl
        go_wp2
        apply wp_region_mm M 6 (by kernel_rfl) (by kernel_rfl); (simp only [List.take_succ_cons, List.take_zero]; repeat (first | exact wpText_nil | (apply wpText_cons; (intro w2 M; have C := M.ruleAll; simp only [Go.Proofs.Ytinjjaoikofkdaa.ruleAll] at C; go_wp2_with (first | ((with_reducible apply wpM_lda' M 1 36 (k * 10) (bys (s k))); rfl; rfl; rfl; exact ⟨rfl, inf_bys.trans (congrArg some (bys_size ..).symm), _, und_bys, rfl⟩; exact tbs_row hlt) | ((with_reducible apply wpM_lda' M 0 36 (k * 10) (bys (t k))); rfl; rfl; rfl; exact ⟨rfl, inf_bys.trans (congrArg some (bys_size ..).symm), _, und_bys, rfl⟩; exact tbs_row hlt)); exact ⟨rfl, rfl, M⟩); rfl))); (clear M; (try clear C); intro w2 M; simp only [List.drop_succ_cons, List.drop_zero]; have C := M.ruleAll; simp only [Go.Proofs.Ytinjjaoikofkdaa.ruleAll] at C)
        go_wp2_with (first | (refine wpList_agg_g .neq 36 _ _ _ rfl rfl (bys (s k)) (bys (t k)) rfl rfl egt_bys _ ((neq_bys _ _ _).trans (by rw [he])) ?_))
        go_roundw
        case rel => exact ⟨k + 1, by omega, by go_num, HL.out, M⟩
        case measure => simp [intOf]; omega
      | false =>
        rw [if_neg (by rw [he]; decide)] at hl
        have HL := Hid2.mk hl
        clear hl
        go_wp2
        apply wp_region_mm M 6 (by kernel_rfl) (by kernel_rfl); (simp only [List.take_succ_cons, List.take_zero]; repeat (first | exact wpText_nil | (apply wpText_cons; (intro w2 M; have C := M.ruleAll; simp only [Go.Proofs.Ytinjjaoikofkdaa.ruleAll] at C; go_wp2_with (first | ((with_reducible apply wpM_lda' M 1 36 (k * 10) (bys (s k))); rfl; rfl; rfl; exact ⟨rfl, inf_bys.trans (congrArg some (bys_size ..).symm), _, und_bys, rfl⟩; exact tbs_row hlt) | ((with_reducible apply wpM_lda' M 0 36 (k * 10) (bys (t k))); rfl; rfl; rfl; exact ⟨rfl, inf_bys.trans (congrArg some (bys_size ..).symm), _, und_bys, rfl⟩; exact tbs_row hlt)); exact ⟨rfl, rfl, M⟩); rfl))); (clear M; (try clear C); intro w2 M; simp only [List.drop_succ_cons, List.drop_zero]; have C := M.ruleAll; simp only [Go.Proofs.Ytinjjaoikofkdaa.ruleAll] at C)
        go_wp2_with (first | (refine wpList_agg_g .neq 36 _ _ _ rfl rfl (bys (s k)) (bys (t k)) rfl rfl egt_bys _ ((neq_bys _ _ _).trans (by rw [he])) ?_))
        apply wp_region_mm M 6 (by kernel_rfl) (by kernel_rfl); (simp only [List.take_succ_cons, List.take_zero]; repeat (first | exact wpText_nil | (apply wpText_cons; (intro w2 M; have C := M.ruleAll; simp only [Go.Proofs.Ytinjjaoikofkdaa.ruleAll] at C; go_wp2_with (first | ((with_reducible apply wpM_lda' M 1 36 (k * 10) (bys (s k))); rfl; rfl; rfl; exact ⟨rfl, inf_bys.trans (congrArg some (bys_size ..).symm), _, und_bys, rfl⟩; exact tbs_row hlt) | ((with_reducible apply wpM_lda' M 0 36 (k * 10) (bys (t k))); rfl; rfl; rfl; exact ⟨rfl, inf_bys.trans (congrArg some (bys_size ..).symm), _, und_bys, rfl⟩; exact tbs_row hlt)); exact ⟨rfl, rfl, M⟩); rfl))); (clear M; (try clear C); intro w2 M; simp only [List.drop_succ_cons, List.drop_zero]; have C := M.ruleAll; simp only [Go.Proofs.Ytinjjaoikofkdaa.ruleAll] at C)
        go_wp2_with (first | (go_at_call 127; ((with_reducible refine (l02Less_any (s k) (t k) _).mono ?_); rintro e w1 ⟨rfl, hb⟩; have hsz := M.size; (try (have G9 := G.later hb; clear G; have G := G9; clear G9)); have M9 := M.later hb; clear M; (try clear C); have M := M9; clear M9; have C := M.ruleAll; simp only [Go.Proofs.Ytinjjaoikofkdaa.ruleAll] at C)))
        go_ret
        exact ⟨by rw [← HL.out]; rfl, M.below⟩
    · obtain rfl : k = 10 := by omega
      have HL := Hid2.mk hl
      clear hl
      go_wp2
      go_ret
      exact ⟨by rw [← HL.out]; rfl, M.below⟩

/-- What the permutations behind the first rounds make. -/
def tryL (N : Nat) (t : Nat → Nat → Nat) (d k : Nat) (p : Nat → Nat) : List (Nat → Nat → Nat) := (lvs d k p).map fun r => isoW N t r r r (N * N)
def accT (N : Nat) (t : Nat → Nat → Nat) (d k : Nat) (p : Nat → Nat) (b : Nat → Nat → Nat) (j : Nat) : Nat → Nat → Nat := lowest b ((List.range j).flatMap fun i => tryL N t d (k + 1) (swp p k (k + i)))
theorem lowest_app (b : Nat → Nat → Nat) (l l' : List (Nat → Nat → Nat)) : lowest b (l ++ l') = lowest (lowest b l) l' := List.foldl_append ..
theorem accT_succ (N : Nat) (t : Nat → Nat → Nat) (d k : Nat) (p : Nat → Nat) (b : Nat → Nat → Nat) (j : Nat) : accT N t d k p b (j + 1) = lowest (accT N t d k p b j) (tryL N t d (k + 1) (swp p k (k + j))) := by
  unfold accT
  rw [List.range_succ, List.flatMap_append, lowest_app]
  simp
theorem accT_all (N : Nat) (t : Nat → Nat → Nat) (d k : Nat) (p : Nat → Nat) (b : Nat → Nat → Nat) : accT N t d k p b (d + 1) = lowest b (tryL N t (d + 1) k p) := by
  unfold accT tryL
  rw [lvs, List.map_flatMap]
theorem swp_cells {p : Nat → Nat} {k i : Nat} : (bys fun j => if j = k then p i else p j).setIfInBounds i (.int .u8 (p k : Int)) = bys (swp p k i) := bys_set _ _ _

set_option maxRecDepth 100000 in
set_option maxHeartbeats 4000000 in
theorem l02Try_any (N : Nat) (t : Nat → Nat → Nat) (h0 : 1 ≤ N) (h1 : N ≤ 10) (ht : ∀ x y : Nat, x < N → y < N → t x y < 10) :
    ∀ (d k : Nat) (p : Nat → Nat) (b : Nat → Nat → Nat) (w : World), k + d = N → Pm N p →
    Calls Try.prog 122 #[.agg (sqs (N : Int) t), .agg (sqs (N : Int) b), .agg (bys p), .int .i64 (k : Int)] w fun e w' => e = .returned (.agg (sqs (N : Int) (lowest b (tryL N t d k p)))) ∧ Below w.heap.size w w' := by
  intro d
  induction d with
  | zero =>
    intro k p b w hkN hp
    obtain rfl : k = N := by omega
    have M := Mm.start no w
    have so1 := sqs_order (k : Int) t
    have so2 := sqs_order (k : Int) b
    have hI := fun w1 => l02Isotope_any (k : Int) t p p p w1 (by omega) (by omega) (fun i hi => by have := hp.lt i (by omega); omega) (fun i hi => by have := hp.lt i (by omega); omega) (fun x y hx hy => ht x y (by omega) (by omega))
    have HR := Hid2.mk (show lowest b (tryL k t 0 k p) = lowStep b (isoW k t p p p (k * k)) from rfl)
    rw [Int.toNat_natCast] at hI
    have hLo := fun w1 => l02Lower_any (isoW k t p p p (k * k)) b w1
    generalize isoW k t p p p (k * k) = o at hI HR hLo
    have hkk : ((k : Int) == (k : Int)) = true := by simp
    clear ht hp
    cases hl : lowB o b 10 0 with
    | true =>
      simp only [hl] at hLo
      have HS := Hid2.mk (show lowStep b o = o by unfold lowStep; rw [if_pos hl])
      clear hl
      go_enter Try.func122, Try.ntmps122
      go_wp2_with (first | ((with_reducible apply wpM_box' M 43 (sqs (k : Int) t)); rfl; exact ⟨rfl, rfl⟩; clear M; (try clear C); intro b4 w9 h_b4 M; have C := M.ruleAll; simp only [Go.Proofs.Ytinjjaoikofkdaa.ruleAll] at C) | ((with_reducible apply wpM_box' M 43 (sqs (k : Int) b)); rfl; exact ⟨rfl, rfl⟩; clear M; (try clear C); intro b5 w9 h_b5 M; have C := M.ruleAll; simp only [Go.Proofs.Ytinjjaoikofkdaa.ruleAll] at C) | ((with_reducible apply wpM_box' M 70 (bys p)); rfl; exact ⟨rfl, rfl⟩; clear M; (try clear C); intro b6 w9 h_b6 M; have C := M.ruleAll; simp only [Go.Proofs.Ytinjjaoikofkdaa.ruleAll] at C) | ((fail_if_success have := h_b8); ((with_reducible apply wpM_alloc' M 43 (sqs 0 fun _ _ => 0)); rfl; exact ⟨rfl, _, zero_sqs _, rfl⟩; clear M; (try clear C); intro b8 w9 h_b8 M; have C := M.ruleAll; simp only [Go.Proofs.Ytinjjaoikofkdaa.ruleAll] at C)) | ((with_reducible apply wpM_alloc' M 43 (sqs 0 fun _ _ => 0)); rfl; exact ⟨rfl, _, zero_sqs _, rfl⟩; clear M; (try clear C); intro b10 w9 h_b10 M; have C := M.ruleAll; simp only [Go.Proofs.Ytinjjaoikofkdaa.ruleAll] at C) | ((with_reducible apply wpM_lda' M 3 43 0 (sqs (k : Int) t)); rfl; rfl; rfl; exact ⟨rfl, inf_sqs.trans (congrArg some (sqs_size ..).symm), _, und_sqs, rfl⟩; exact whole_of rfl) | ((with_reducible apply wpM_lda' M 1 70 0 (bys p)); rfl; rfl; rfl; exact ⟨rfl, inf_plc.trans (congrArg some (bys_size ..).symm), _, und_plc, rfl⟩; exact whole_of rfl) | (refine wpList_build 122 _ rfl rfl [(0, .agg (bys p)), (1, .agg (bys p)), (2, .agg (bys p))] rfl _ (build_trp _ _ _ _) ?_) | (go_at_call 109; ((with_reducible refine (hI _).mono ?_); rintro e w1 ⟨rfl, hb⟩; have hsz := M.size; (try (have G9 := G.later hb; clear G; have G := G9; clear G9)); have M9 := M.later hb; clear M; (try clear C); have M := M9; clear M9; have C := M.ruleAll; simp only [Go.Proofs.Ytinjjaoikofkdaa.ruleAll] at C)) | ((with_reducible apply wpM_sta' M 0 43 (sqs (k : Int) o)); rfl; rfl; rfl; rfl; (first | exact .inl (by assumption) | exact .inr rfl | exact .inr (by assumption)); exact ⟨rfl, inf_sqs.trans (congrArg some (sqs_size ..).symm), flat_sqs _ _⟩; (simp only [entCells, List.getElem?_cons_zero, List.getElem?_cons_succ, sqs_size, sqs_size]); clear M; (try clear C); intro w9 M; simp only [List.set_cons_zero, List.set_cons_succ, entBlk, entT, List.getElem?_cons_zero, List.getElem?_cons_succ] at M; have C := M.ruleAll; simp only [Go.Proofs.Ytinjjaoikofkdaa.ruleAll] at C) | ((with_reducible apply wpM_lda' M 0 41 (1) (tbs o)); rfl; rfl; rfl; exact ⟨rfl, inf_tbl.trans (congrArg some (tbs_size ..).symm), _, und_tbl, rfl⟩; exact sqs_tbs) | ((with_reducible apply wpM_lda' M 3 41 (1) (tbs b)); rfl; rfl; rfl; exact ⟨rfl, inf_tbl.trans (congrArg some (tbs_size ..).symm), _, und_tbl, rfl⟩; exact sqs_tbs) | (go_at_call 111; ((with_reducible refine (hLo _).mono ?_); rintro e w1 ⟨rfl, hb⟩; have hsz := M.size; (try (have G9 := G.later hb; clear G; have G := G9; clear G9)); have M9 := M.later hb; clear M; (try clear C); have M := M9; clear M9; have C := M.ruleAll; simp only [Go.Proofs.Ytinjjaoikofkdaa.ruleAll] at C)) | ((with_reducible apply wpM_lda' M 0 43 0 (sqs (k : Int) o)); rfl; rfl; rfl; exact ⟨rfl, inf_sqs.trans (congrArg some (sqs_size ..).symm), _, und_sqs, rfl⟩; exact whole_of rfl) | ((with_reducible apply wpM_sta' M 1 43 (sqs (k : Int) o)); rfl; rfl; rfl; rfl; (first | exact .inl (by assumption) | exact .inr rfl | exact .inr (by assumption)); exact ⟨rfl, inf_sqs.trans (congrArg some (sqs_size ..).symm), flat_sqs _ _⟩; (simp only [entCells, List.getElem?_cons_zero, List.getElem?_cons_succ, sqs_size, sqs_size]); clear M; (try clear C); intro w9 M; simp only [List.set_cons_zero, List.set_cons_succ, entBlk, entT, List.getElem?_cons_zero, List.getElem?_cons_succ] at M; have C := M.ruleAll; simp only [Go.Proofs.Ytinjjaoikofkdaa.ruleAll] at C))
      refine bodyPost_ret (v := .agg (sqs (k : Int) o)) (by exact results_part rfl _ _ _ _ _ _ rfl und_sqs rfl inf_sqs (cells_of_blk0 (M.box 1 rfl))) rfl ?_
      exact ⟨by rw [HR.out, HS.out], M.below⟩
    | false =>
      simp only [hl] at hLo
      have HS := Hid2.mk (show lowStep b o = b by unfold lowStep; rw [if_neg (by rw [hl]; decide)])
      clear hl
      go_enter Try.func122, Try.ntmps122
      go_wp2_with (first | ((with_reducible apply wpM_box' M 43 (sqs (k : Int) t)); rfl; exact ⟨rfl, rfl⟩; clear M; (try clear C); intro b4 w9 h_b4 M; have C := M.ruleAll; simp only [Go.Proofs.Ytinjjaoikofkdaa.ruleAll] at C) | ((with_reducible apply wpM_box' M 43 (sqs (k : Int) b)); rfl; exact ⟨rfl, rfl⟩; clear M; (try clear C); intro b5 w9 h_b5 M; have C := M.ruleAll; simp only [Go.Proofs.Ytinjjaoikofkdaa.ruleAll] at C) | ((with_reducible apply wpM_box' M 70 (bys p)); rfl; exact ⟨rfl, rfl⟩; clear M; (try clear C); intro b6 w9 h_b6 M; have C := M.ruleAll; simp only [Go.Proofs.Ytinjjaoikofkdaa.ruleAll] at C) | ((fail_if_success have := h_b8); ((with_reducible apply wpM_alloc' M 43 (sqs 0 fun _ _ => 0)); rfl; exact ⟨rfl, _, zero_sqs _, rfl⟩; clear M; (try clear C); intro b8 w9 h_b8 M; have C := M.ruleAll; simp only [Go.Proofs.Ytinjjaoikofkdaa.ruleAll] at C)) | ((with_reducible apply wpM_alloc' M 43 (sqs 0 fun _ _ => 0)); rfl; exact ⟨rfl, _, zero_sqs _, rfl⟩; clear M; (try clear C); intro b10 w9 h_b10 M; have C := M.ruleAll; simp only [Go.Proofs.Ytinjjaoikofkdaa.ruleAll] at C) | ((with_reducible apply wpM_lda' M 3 43 0 (sqs (k : Int) t)); rfl; rfl; rfl; exact ⟨rfl, inf_sqs.trans (congrArg some (sqs_size ..).symm), _, und_sqs, rfl⟩; exact whole_of rfl) | ((with_reducible apply wpM_lda' M 1 70 0 (bys p)); rfl; rfl; rfl; exact ⟨rfl, inf_plc.trans (congrArg some (bys_size ..).symm), _, und_plc, rfl⟩; exact whole_of rfl) | (refine wpList_build 122 _ rfl rfl [(0, .agg (bys p)), (1, .agg (bys p)), (2, .agg (bys p))] rfl _ (build_trp _ _ _ _) ?_) | (go_at_call 109; ((with_reducible refine (hI _).mono ?_); rintro e w1 ⟨rfl, hb⟩; have hsz := M.size; (try (have G9 := G.later hb; clear G; have G := G9; clear G9)); have M9 := M.later hb; clear M; (try clear C); have M := M9; clear M9; have C := M.ruleAll; simp only [Go.Proofs.Ytinjjaoikofkdaa.ruleAll] at C)) | ((with_reducible apply wpM_sta' M 0 43 (sqs (k : Int) o)); rfl; rfl; rfl; rfl; (first | exact .inl (by assumption) | exact .inr rfl | exact .inr (by assumption)); exact ⟨rfl, inf_sqs.trans (congrArg some (sqs_size ..).symm), flat_sqs _ _⟩; (simp only [entCells, List.getElem?_cons_zero, List.getElem?_cons_succ, sqs_size, sqs_size]); clear M; (try clear C); intro w9 M; simp only [List.set_cons_zero, List.set_cons_succ, entBlk, entT, List.getElem?_cons_zero, List.getElem?_cons_succ] at M; have C := M.ruleAll; simp only [Go.Proofs.Ytinjjaoikofkdaa.ruleAll] at C) | ((with_reducible apply wpM_lda' M 0 41 (1) (tbs o)); rfl; rfl; rfl; exact ⟨rfl, inf_tbl.trans (congrArg some (tbs_size ..).symm), _, und_tbl, rfl⟩; exact sqs_tbs) | ((with_reducible apply wpM_lda' M 3 41 (1) (tbs b)); rfl; rfl; rfl; exact ⟨rfl, inf_tbl.trans (congrArg some (tbs_size ..).symm), _, und_tbl, rfl⟩; exact sqs_tbs) | (go_at_call 111; ((with_reducible refine (hLo _).mono ?_); rintro e w1 ⟨rfl, hb⟩; have hsz := M.size; (try (have G9 := G.later hb; clear G; have G := G9; clear G9)); have M9 := M.later hb; clear M; (try clear C); have M := M9; clear M9; have C := M.ruleAll; simp only [Go.Proofs.Ytinjjaoikofkdaa.ruleAll] at C)) | ((with_reducible apply wpM_lda' M 3 43 0 (sqs (k : Int) b)); rfl; rfl; rfl; exact ⟨rfl, inf_sqs.trans (congrArg some (sqs_size ..).symm), _, und_sqs, rfl⟩; exact whole_of rfl) | ((with_reducible apply wpM_sta' M 1 43 (sqs (k : Int) b)); rfl; rfl; rfl; rfl; (first | exact .inl (by assumption) | exact .inr rfl | exact .inr (by assumption)); exact ⟨rfl, inf_sqs.trans (congrArg some (sqs_size ..).symm), flat_sqs _ _⟩; (simp only [entCells, List.getElem?_cons_zero, List.getElem?_cons_succ, sqs_size, sqs_size]); clear M; (try clear C); intro w9 M; simp only [List.set_cons_zero, List.set_cons_succ, entBlk, entT, List.getElem?_cons_zero, List.getElem?_cons_succ] at M; have C := M.ruleAll; simp only [Go.Proofs.Ytinjjaoikofkdaa.ruleAll] at C))
      refine bodyPost_ret (v := .agg (sqs (k : Int) b)) (by exact results_part rfl _ _ _ _ _ _ rfl und_sqs rfl inf_sqs (cells_of_blk0 (M.box 1 rfl))) rfl ?_
      exact ⟨by rw [HR.out, HS.out], M.below⟩
  | succ d IH0 =>
    intro k p b w hkN hp
    have M := Mm.start no w
    have so1 := sqs_order (N : Int) t
    have hklt : k < N := by omega
    have hkn : ((k : Int) == (N : Int)) = false := by rw [beq_eq_false_iff_ne]; omega
    have HA0 := Hid2.mk (show accT N t d k p b 0 = b from rfl)
    have HALL := Hid2.mk (accT_all N t d k p b)
    have ek : ((k + 1 : Nat) : Int) = (k : Int) + 1 := by omega
    have IH := Hid2.mk (fun (m : Nat) (hm : k ≤ m ∧ m < N) (b' : Nat → Nat → Nat) (w1 : World) => ek ▸ IH0 (k + 1) (swp p k m) b' w1 (by omega) (swp_pm hp hklt hm.2))
    have HP := Hid2.mk hp
    have hk10 : k < 10 := by omega
    have hki : (k : Int) < 10 := by omega
    have hpk := bys_get (f := p) hk10
    clear IH0 hp ht ek
    go_enter Try.func122, Try.ntmps122
    go_wp2_with (first | ((with_reducible apply wpM_box' M 43 (sqs (N : Int) t)); rfl; exact ⟨rfl, rfl⟩; clear M; (try clear C); intro b4 w9 h_b4 M; have C := M.ruleAll; simp only [Go.Proofs.Ytinjjaoikofkdaa.ruleAll] at C) | ((with_reducible apply wpM_box' M 43 (sqs (N : Int) b)); rfl; exact ⟨rfl, rfl⟩; clear M; (try clear C); intro b5 w9 h_b5 M; have C := M.ruleAll; simp only [Go.Proofs.Ytinjjaoikofkdaa.ruleAll] at C) | ((with_reducible apply wpM_box' M 70 (bys p)); rfl; exact ⟨rfl, rfl⟩; clear M; (try clear C); intro b6 w9 h_b6 M; have C := M.ruleAll; simp only [Go.Proofs.Ytinjjaoikofkdaa.ruleAll] at C) | ((with_reducible apply wpM_alloc' M 43 (sqs 0 fun _ _ => 0)); rfl; exact ⟨rfl, _, zero_sqs _, rfl⟩; clear M; (try clear C); intro b8 w9 h_b8 M; have C := M.ruleAll; simp only [Go.Proofs.Ytinjjaoikofkdaa.ruleAll] at C))
    go_loopw [11, 12] (fun i _ wr => ∃ m : Nat, k ≤ m ∧ m ≤ N ∧ i = .int .i64 (m : Int) ∧ Mm no w wr [.box b8 (sqs 0 fun _ _ => 0) 43, .box b6 (bys p) 70, .box b5 (sqs (N : Int) (accT N t d k p b (m - k))) 43, .box b4 (sqs (N : Int) t) 43]) (fun i _ _ => N - (intOf i).toNat)
    case atStart => exact ⟨k, by omega, by omega, rfl, by rw [Nat.sub_self, HA0.out]; exact M⟩
    case round =>
      obtain ⟨m, hm0, hm1, rfl, M9⟩ := hrel
      clear M; (try clear C)
      have M := M9
      clear M9
      have C := M.ruleAll; simp only [Go.Proofs.Ytinjjaoikofkdaa.ruleAll] at C
      by_cases hlt : m < N
      · have hlt' : (m : Int) < (N : Int) := by omega
        have hm10 : m < 10 := by omega
        have hmi : (m : Int) < 10 := by omega
        have hpm := bys_get (f := p) hm10
        have HN := Hid2.mk (show accT N t d k p b (m + 1 - k) = lowest (accT N t d k p b (m - k)) (tryL N t d (k + 1) (swp p k m)) by
          rw [show m + 1 - k = (m - k) + 1 by omega, accT_succ, show k + (m - k) = m by omega])
        have hI := IH.out m ⟨hm0, hlt⟩ (accT N t d k p b (m - k))
        generalize accT N t d k p b (m - k) = B at M HN hI C ⊢
        generalize tryL N t d (k + 1) (swp p k m) = TL at HN hI
        go_wp2_with (first | ((with_reducible apply wpM_lda' M 1 70 0 (bys p)); rfl; rfl; rfl; exact ⟨rfl, inf_plc.trans (congrArg some (bys_size ..).symm), _, und_plc, rfl⟩; exact whole_of rfl) | ((with_reducible apply wpM_alloc' M 70 (bys fun _ => 0)); rfl; exact ⟨rfl, _, zero_plc _, rfl⟩; clear M; (try clear C); intro b12 w9 h_b12 M; have C := M.ruleAll; simp only [Go.Proofs.Ytinjjaoikofkdaa.ruleAll] at C) | ((with_reducible apply wpM_sta' M 0 70 (bys p)); rfl; rfl; rfl; rfl; (first | exact .inl (by assumption) | exact .inr rfl | exact .inr (by assumption)); exact ⟨rfl, inf_plc.trans (congrArg some (bys_size ..).symm), flat_bys _⟩; (simp only [entCells, List.getElem?_cons_zero, List.getElem?_cons_succ, bys_size, bys_size]); clear M; (try clear C); intro w9 M; simp only [List.set_cons_zero, List.set_cons_succ, entBlk, entT, List.getElem?_cons_zero, List.getElem?_cons_succ] at M; have C := M.ruleAll; simp only [Go.Proofs.Ytinjjaoikofkdaa.ruleAll] at C) | ((with_reducible apply wpM_st' M 0 5 (k) (bys (fun j => if j = k then p m else p j))); rfl; rfl; rfl; (first | exact .inl (by assumption) | exact .inr rfl | exact .inr (by assumption)); exact ⟨rfl, rfl, by kernel_rfl⟩; (exact Nat.lt_of_lt_of_eq (by omega) (bys_size _).symm); exact bys_set _ _ _; clear M; (try clear C); intro w9 M; simp only [List.set_cons_zero, List.set_cons_succ, entBlk, entT, List.getElem?_cons_zero, List.getElem?_cons_succ] at M; have C := M.ruleAll; simp only [Go.Proofs.Ytinjjaoikofkdaa.ruleAll] at C) | ((with_reducible apply wpM_st' M 0 5 (m) (bys (swp p k m))); rfl; rfl; rfl; (first | exact .inl (by assumption) | exact .inr rfl | exact .inr (by assumption)); exact ⟨rfl, rfl, by kernel_rfl⟩; (exact Nat.lt_of_lt_of_eq (by omega) (bys_size _).symm); exact swp_cells; clear M; (try clear C); intro w9 M; simp only [List.set_cons_zero, List.set_cons_succ, entBlk, entT, List.getElem?_cons_zero, List.getElem?_cons_succ] at M; have C := M.ruleAll; simp only [Go.Proofs.Ytinjjaoikofkdaa.ruleAll] at C) | ((with_reducible apply wpM_lda' M 4 43 0 (sqs (N : Int) t)); rfl; rfl; rfl; exact ⟨rfl, inf_sqs.trans (congrArg some (sqs_size ..).symm), _, und_sqs, rfl⟩; exact whole_of rfl) | ((with_reducible apply wpM_lda' M 3 43 0 (sqs (N : Int) B)); rfl; rfl; rfl; exact ⟨rfl, inf_sqs.trans (congrArg some (sqs_size ..).symm), _, und_sqs, rfl⟩; exact whole_of rfl) | ((with_reducible apply wpM_lda' M 0 70 0 (bys (swp p k m))); rfl; rfl; rfl; exact ⟨rfl, inf_plc.trans (congrArg some (bys_size ..).symm), _, und_plc, rfl⟩; exact whole_of rfl) | (go_at_call 122; ((with_reducible refine (hI _).mono ?_); rintro e w1 ⟨rfl, hb⟩; have hsz := M.size; (try (have G9 := G.later hb; clear G; have G := G9; clear G9)); have M9 := M.later hb; clear M; (try clear C); have M := M9; clear M9; have C := M.ruleAll; simp only [Go.Proofs.Ytinjjaoikofkdaa.ruleAll] at C)) | ((with_reducible apply wpM_sta' M 3 43 (sqs (N : Int) (lowest B TL))); rfl; rfl; rfl; rfl; (first | exact .inl (by assumption) | exact .inr rfl | exact .inr (by assumption)); exact ⟨rfl, inf_sqs.trans (congrArg some (sqs_size ..).symm), flat_sqs _ _⟩; (simp only [entCells, List.getElem?_cons_zero, List.getElem?_cons_succ, sqs_size, sqs_size]); clear M; (try clear C); intro w9 M; simp only [List.set_cons_zero, List.set_cons_succ, entBlk, entT, List.getElem?_cons_zero, List.getElem?_cons_succ] at M; have C := M.ruleAll; simp only [Go.Proofs.Ytinjjaoikofkdaa.ruleAll] at C))
        go_roundw
        case rel => exact ⟨m + 1, by omega, by omega, by go_num, by rw [HN.out]; exact M.drop 0⟩
        case measure => simp [intOf]; omega
      · obtain rfl : m = N := by omega
        have hge : ¬ ((m : Int) < (m : Int)) := by omega
        have HE := Hid2.mk (show accT m t d k p b (m - k) = lowest b (tryL m t (d + 1) k p) by rw [show m - k = d + 1 by omega]; exact HALL.out)
        generalize accT m t d k p b (m - k) = B at M HE C ⊢
        go_wp2_with (first | ((with_reducible apply wpM_lda' M 2 43 0 (sqs (m : Int) B)); rfl; rfl; rfl; exact ⟨rfl, inf_sqs.trans (congrArg some (sqs_size ..).symm), _, und_sqs, rfl⟩; exact whole_of rfl) | ((with_reducible apply wpM_sta' M 0 43 (sqs (m : Int) B)); rfl; rfl; rfl; rfl; (first | exact .inl (by assumption) | exact .inr rfl | exact .inr (by assumption)); exact ⟨rfl, inf_sqs.trans (congrArg some (sqs_size ..).symm), flat_sqs _ _⟩; (simp only [entCells, List.getElem?_cons_zero, List.getElem?_cons_succ, sqs_size, sqs_size]); clear M; (try clear C); intro w9 M; simp only [List.set_cons_zero, List.set_cons_succ, entBlk, entT, List.getElem?_cons_zero, List.getElem?_cons_succ] at M; have C := M.ruleAll; simp only [Go.Proofs.Ytinjjaoikofkdaa.ruleAll] at C))
        refine bodyPost_ret (v := .agg (sqs (m : Int) B)) (by exact results_part rfl _ _ _ _ _ _ rfl und_sqs rfl inf_sqs (cells_of_blk0 (M.box 0 rfl))) rfl ?_
        exact ⟨by rw [HE.out], M.below⟩
end Go.Proofs.Ytinjjaoikofkdaa
