/- The law on the first isotopism: its walk. -/
import Derived.Test.YtjdfjlgjpjgnhaaC28
import Derived.Test.YtjdfjlgjpjgnhaaC25
namespace Go.Proofs.Ytjdfjlgjpjgnhaa
open Go Go.RowKit

set_option maxRecDepth 100000 in
set_option maxHeartbeats 1000000 in
theorem eqPlaces_any (f : Nat → Nat) (w : World) : Calls Try.prog 27 #[.agg (bys f), .agg (bys f)] w fun e w' => e = .returned (.bool true) ∧ Below w.heap.size w w' := by
  have M := Mm.start no w
  go_enter Try.func27, Try.ntmps27
  go_wp2_with (first | (have hq := h_bf; clear hq; ((with_reducible apply wpM_box' M 33 (bys f)); rfl; exact ⟨rfl, rfl⟩; clear M; (try clear C); intro bg w9 h_bg M; have C := M.rules; simp only [List.forall_mem_cons, List.not_mem_nil, false_implies, implies_true, and_true, Ent.rules, true_and] at C)) | ((with_reducible apply wpM_box' M 33 (bys f)); rfl; exact ⟨rfl, rfl⟩; clear M; (try clear C); intro bf w9 h_bf M; have C := M.rules; simp only [List.forall_mem_cons, List.not_mem_nil, false_implies, implies_true, and_true, Ent.rules, true_and] at C))
  go_loopw [5] (fun i wr => ∃ k : Nat, k ≤ 10 ∧ i = .int .i64 (k : Int) ∧ Mm no w wr [.box bg (bys f) 33, .box bf (bys f) 33]) (fun i _ => 10 - (intOf i).toNat)
  case atStart => exact ⟨0, by omega, rfl, M⟩
  case round =>
    obtain ⟨k, hk, rfl, M9⟩ := hrel
    clear M; (try clear C)
    have M := M9
    clear M9
    have C := M.rules; simp only [List.forall_mem_cons, List.not_mem_nil, false_implies, implies_true, and_true, Ent.rules, true_and] at C
    by_cases hlt : k < 10
    · have hlt' : (k : Int) < 10 := by omega
      have c1 := bys_get (f := f) hlt
      have he' : ((f k : Int) == (f k : Int)) = true := by simp
      go_wp2
      apply wp_region_mm M 6 (by kernel_rfl) (by kernel_rfl); (simp only [List.take_succ_cons, List.take_zero]; repeat (first | exact wpText_nil | (apply wpText_cons; (intro w2 M; have C := M.rules; simp only [List.forall_mem_cons, List.not_mem_nil, false_implies, implies_true, and_true, Ent.rules, true_and] at C; go_wp2; exact ⟨rfl, rfl, M⟩); rfl))); (clear M; (try clear C); intro w2 M; simp only [List.drop_succ_cons, List.drop_zero]; have C := M.rules; simp only [List.forall_mem_cons, List.not_mem_nil, false_implies, implies_true, and_true, Ent.rules, true_and] at C)
      go_wp2
      go_roundw
      case rel => exact ⟨k + 1, by omega, by go_num, M⟩
      case measure => simp [intOf]; omega
    · obtain rfl : k = 10 := by omega
      go_wp2
      go_ret
      exact ⟨rfl, M.below⟩

set_option maxRecDepth 100000 in
set_option maxHeartbeats 1000000 in
theorem eqTriple_any (x : Tri) (w : World) : Calls Try.prog 19 #[.agg (trC x), .agg (trC x)] w fun e w' => e = .returned (.bool true) ∧ Below w.heap.size w w' := by
  have M := Mm.start no w
  obtain ⟨f, g, h⟩ := x
  show Calls Try.prog 19 #[.agg (trs f g h), .agg (trs f g h)] w _
  go_enter Try.func19, Try.ntmps19
  go_wp2_with (first | ((with_reducible apply wpM_box' M 35 (trs f g h)); rfl; exact ⟨rfl, rfl⟩; clear M; (try clear C); intro bx w9 h_bx M; have C := M.rules; simp only [List.forall_mem_cons, List.not_mem_nil, false_implies, implies_true, and_true, Ent.rules, true_and] at C) | ((with_reducible apply wpM_box' M 35 (trs f g h)); rfl; exact ⟨rfl, rfl⟩; clear M; (try clear C); intro by_ w9 h_by_ M; have C := M.rules; simp only [List.forall_mem_cons, List.not_mem_nil, false_implies, implies_true, and_true, Ent.rules, true_and] at C) | ((with_reducible apply wpM_lda' M 1 33 (0) (bys f)); rfl; rfl; rfl; exact ⟨rfl, inf_plc.trans (congrArg some (bys_size ..).symm), _, und_plc, rfl⟩; exact trs_first) | ((with_reducible apply wpM_lda' M 0 33 (0) (bys f)); rfl; rfl; rfl; exact ⟨rfl, inf_plc.trans (congrArg some (bys_size ..).symm), _, und_plc, rfl⟩; exact trs_first) | (go_at_call 27; ((with_reducible refine (eqPlaces_any f _).mono ?_); rintro e w1 ⟨rfl, hb⟩; have hsz := M.size; (try (have G9 := G.later hb; clear G; have G := G9; clear G9)); have M9 := M.later hb; clear M; (try clear C); have M := M9; clear M9; have C := M.rules; simp only [List.forall_mem_cons, List.not_mem_nil, false_implies, implies_true, and_true, Ent.rules, true_and] at C)) | ((with_reducible apply wpM_lda' M 1 33 (10) (bys g)); rfl; rfl; rfl; exact ⟨rfl, inf_plc.trans (congrArg some (bys_size ..).symm), _, und_plc, rfl⟩; exact trs_second) | ((with_reducible apply wpM_lda' M 0 33 (10) (bys g)); rfl; rfl; rfl; exact ⟨rfl, inf_plc.trans (congrArg some (bys_size ..).symm), _, und_plc, rfl⟩; exact trs_second) | (go_at_call 27; ((with_reducible refine (eqPlaces_any g _).mono ?_); rintro e w1 ⟨rfl, hb⟩; have hsz := M.size; (try (have G9 := G.later hb; clear G; have G := G9; clear G9)); have M9 := M.later hb; clear M; (try clear C); have M := M9; clear M9; have C := M.rules; simp only [List.forall_mem_cons, List.not_mem_nil, false_implies, implies_true, and_true, Ent.rules, true_and] at C)) | ((with_reducible apply wpM_lda' M 1 33 (20) (bys h)); rfl; rfl; rfl; exact ⟨rfl, inf_plc.trans (congrArg some (bys_size ..).symm), _, und_plc, rfl⟩; exact trs_third) | ((with_reducible apply wpM_lda' M 0 33 (20) (bys h)); rfl; rfl; rfl; exact ⟨rfl, inf_plc.trans (congrArg some (bys_size ..).symm), _, und_plc, rfl⟩; exact trs_third) | (go_at_call 27; ((with_reducible refine (eqPlaces_any h _).mono ?_); rintro e w1 ⟨rfl, hb⟩; have hsz := M.size; (try (have G9 := G.later hb; clear G; have G := G9; clear G9)); have M9 := M.later hb; clear M; (try clear C); have M := M9; clear M9; have C := M.rules; simp only [List.forall_mem_cons, List.not_mem_nil, false_implies, implies_true, and_true, Ent.rules, true_and] at C)))
  go_ret
  exact ⟨rfl, M.below⟩

/-- A new variable with a triple. -/
def StW (w0 : World) (x : Tri) : List Value → List Ent → Prop
  | [], Lg => Lg = []
  | [v], Lg => ∃ b, v = .pointer (some ⟨b, 0, none⟩) ∧ w0.heap.size ≤ b ∧ Lg = [.box b (trC zeroTri) 35]
  | v :: u :: _, Lg => (∃ b, v = .pointer (some ⟨b, 0, none⟩) ∧ w0.heap.size ≤ b ∧ Lg = [.box b (trC x) 35]) ∧ u = undef

set_option maxRecDepth 100000 in
set_option maxHeartbeats 1000000 in
theorem lawIof_any (n k : Int) (t u : Nat → Nat → Nat) (w : World) (ht : Byt2 t) (hu : Byt2 u) :
    Calls Try.prog 4 #[.agg (sqs n t), .agg (sqs k u)] w fun e w' => e = .returned (.bool true) ∧ Below w.heap.size w w' := by
  have M := Mm.start no w
  have H1 := fun w1 => specIof_any n k t u w1 ht hu
  have H2 := fun w1 => implIof_any n k t u w1 ht hu
  generalize iofRes n t k u = c at H1 H2
  obtain ⟨c, d⟩ := c
  have hdd : (d == d) = true := by simp
  clear ht hu
  go_enter Try.func4, Try.ntmps4
  go_wp2_with (first | ((with_reducible apply wpM_box' M 25 (sqs n t)); rfl; exact ⟨rfl, rfl⟩; clear M; (try clear C); intro bq w9 h_bq M; have C := M.rules; simp only [List.forall_mem_cons, List.not_mem_nil, false_implies, implies_true, and_true, Ent.rules, true_and] at C) | ((with_reducible apply wpM_box' M 25 (sqs k u)); rfl; exact ⟨rfl, rfl⟩; clear M; (try clear C); intro br w9 h_br M; have C := M.rules; simp only [List.forall_mem_cons, List.not_mem_nil, false_implies, implies_true, and_true, Ent.rules, true_and] at C))
  apply wp_region_mmf2 M [0, 1, 2, 3, 4, 5, 6, 7] 8 9 10 _ _ (StW w c) (by kernel_rfl) (by kernel_rfl) rfl rfl rfl rfl rfl
  case ht => (repeat (first | exact wpTextG_nil | (apply wpTextG_cons; (intro g9 w2 hG; obtain ⟨Lg9, hSt9, G⟩ := hG; have M := G.suffix; have C := M.rules; simp only [List.forall_mem_cons, List.not_mem_nil, false_implies, implies_true, and_true, Ent.rules, true_and] at C; go_wp2_with (first | ((with_reducible apply wpM_lda' M 1 25 0 (sqs n t)); rfl; rfl; rfl; exact ⟨rfl, inf_sq0.trans (congrArg some (sqs_size ..).symm), _, und_sq0, rfl⟩; exact whole_of rfl) | ((with_reducible apply wpM_lda' M 0 25 0 (sqs k u)); rfl; rfl; rfl; exact ⟨rfl, inf_sq0.trans (congrArg some (sqs_size ..).symm), _, und_sq0, rfl⟩; exact whole_of rfl) | (go_at_call 15; ((with_reducible refine (toSquare_any _ _ _).mono ?_); rintro e w1 ⟨rfl, hb⟩; have hsz := M.size; (try (have G9 := G.later hb; clear G; have G := G9; clear G9)); have M9 := M.later hb; clear M; (try clear C); have M := M9; clear M9; have C := M.rules; simp only [List.forall_mem_cons, List.not_mem_nil, false_implies, implies_true, and_true, Ent.rules, true_and] at C)) | (go_at_call 17; ((with_reducible refine (H1 _).mono ?_); rintro e w1 ⟨rfl, hb⟩; have hsz := M.size; (try (have G9 := G.later hb; clear G; have G := G9; clear G9)); have M9 := M.later hb; clear M; (try clear C); have M := M9; clear M9; have C := M.rules; simp only [List.forall_mem_cons, List.not_mem_nil, false_implies, implies_true, and_true, Ent.rules, true_and] at C))); exact ⟨rfl, rfl, Lg9, hSt9, G⟩); rfl)))
  case hA =>
    intro Lg w2 h M
    obtain rfl : Lg = [] := h
    refine yield_walk (ops := #[]) rfl rfl (by simp [Act.put]) ?_
    go_wp2_with (first | ((with_reducible apply wpM_alloc' M 35 (trC zeroTri)); rfl; exact ⟨rfl, _, zero_trC _, rfl⟩; clear M; (try clear C); intro b6 w9 h_b6 M; have C := M.rules; simp only [List.forall_mem_cons, List.not_mem_nil, false_implies, implies_true, and_true, Ent.rules, true_and] at C))
    exact ⟨_, ⟨b6, rfl, by assumption, rfl⟩, M⟩
  case hA2 =>
    intro v Lg w2 h M
    obtain ⟨b6, rfl, hb6, rfl⟩ := h
    refine yield_store (ops := #[]) (by exact rfl) (by exact rfl) ?_
    simp only [List.cons_append, List.nil_append] at M
    have C := M.rules; simp only [List.forall_mem_cons, List.not_mem_nil, false_implies, implies_true, and_true, Ent.rules, true_and] at C
    go_wp2_with (first | ((with_reducible apply wpM_sta' M 0 35 (trC c)); rfl; rfl; rfl; rfl; (first | exact .inl (by assumption) | exact .inr rfl | exact .inr (by assumption)); exact ⟨rfl, inf_trp.trans (congrArg some (trs_size ..).symm), flat_trs _ _ _⟩; (simp only [entCells, List.getElem?_cons_zero, List.getElem?_cons_succ, trs_size, trC_size]); clear M; (try clear C); intro w9 M; simp only [List.set_cons_zero, List.set_cons_succ, entBlk, entT, List.getElem?_cons_zero, List.getElem?_cons_succ] at M; have C := M.rules; simp only [List.forall_mem_cons, List.not_mem_nil, false_implies, implies_true, and_true, Ent.rules, true_and] at C))
    exact ⟨_, ⟨⟨b6, rfl, hb6, rfl⟩, rfl⟩, M⟩
  clear M; (try clear C)
  intro v u9 Lg w2 h M
  obtain ⟨⟨b6, rfl, hb6, rfl⟩, rfl⟩ := h
  simp only [List.drop_succ_cons, List.drop_zero, List.cons_append, List.nil_append] at M ⊢
  have C := M.rules; simp only [List.forall_mem_cons, List.not_mem_nil, false_implies, implies_true, and_true, Ent.rules, true_and] at C
  go_wp2
  apply wp_region_mmf2 M [0, 1, 2, 3, 4, 5, 6, 7] 8 9 10 _ _ (StW w c) (by kernel_rfl) (by kernel_rfl) rfl rfl rfl rfl rfl
  case ht => (repeat (first | exact wpTextG_nil | (apply wpTextG_cons; (intro g9 w2 hG; obtain ⟨Lg9, hSt9, G⟩ := hG; have M := G.suffix; have C := M.rules; simp only [List.forall_mem_cons, List.not_mem_nil, false_implies, implies_true, and_true, Ent.rules, true_and] at C; go_wp2_with (first | ((with_reducible apply wpM_lda' M 2 25 0 (sqs n t)); rfl; rfl; rfl; exact ⟨rfl, inf_sq0.trans (congrArg some (sqs_size ..).symm), _, und_sq0, rfl⟩; exact whole_of rfl) | ((with_reducible apply wpM_lda' M 1 25 0 (sqs k u)); rfl; rfl; rfl; exact ⟨rfl, inf_sq0.trans (congrArg some (sqs_size ..).symm), _, und_sq0, rfl⟩; exact whole_of rfl) | (go_at_call 15; ((with_reducible refine (toSquare_any _ _ _).mono ?_); rintro e w1 ⟨rfl, hb⟩; have hsz := M.size; (try (have G9 := G.later hb; clear G; have G := G9; clear G9)); have M9 := M.later hb; clear M; (try clear C); have M := M9; clear M9; have C := M.rules; simp only [List.forall_mem_cons, List.not_mem_nil, false_implies, implies_true, and_true, Ent.rules, true_and] at C)) | (go_at_call 18; ((with_reducible refine (H2 _).mono ?_); rintro e w1 ⟨rfl, hb⟩; have hsz := M.size; (try (have G9 := G.later hb; clear G; have G := G9; clear G9)); have M9 := M.later hb; clear M; (try clear C); have M := M9; clear M9; have C := M.rules; simp only [List.forall_mem_cons, List.not_mem_nil, false_implies, implies_true, and_true, Ent.rules, true_and] at C))); exact ⟨rfl, rfl, Lg9, hSt9, G⟩); rfl)))
  case hA =>
    intro Lg w2 h M
    obtain rfl : Lg = [] := h
    refine yield_walk (ops := #[]) rfl rfl (by simp [Act.put]) ?_
    go_wp2_with (first | ((with_reducible apply wpM_alloc' M 35 (trC zeroTri)); rfl; exact ⟨rfl, _, zero_trC _, rfl⟩; clear M; (try clear C); intro b7 w9 h_b7 M; have C := M.rules; simp only [List.forall_mem_cons, List.not_mem_nil, false_implies, implies_true, and_true, Ent.rules, true_and] at C))
    exact ⟨_, ⟨b7, rfl, by assumption, rfl⟩, M⟩
  case hA2 =>
    intro v Lg w2 h M
    obtain ⟨b7, rfl, hb7, rfl⟩ := h
    refine yield_store (ops := #[]) (by exact rfl) (by exact rfl) ?_
    simp only [List.cons_append, List.nil_append] at M
    have C := M.rules; simp only [List.forall_mem_cons, List.not_mem_nil, false_implies, implies_true, and_true, Ent.rules, true_and] at C
    go_wp2_with (first | ((with_reducible apply wpM_sta' M 0 35 (trC c)); rfl; rfl; rfl; rfl; (first | exact .inl (by assumption) | exact .inr rfl | exact .inr (by assumption)); exact ⟨rfl, inf_trp.trans (congrArg some (trs_size ..).symm), flat_trs _ _ _⟩; (simp only [entCells, List.getElem?_cons_zero, List.getElem?_cons_succ, trs_size, trC_size]); clear M; (try clear C); intro w9 M; simp only [List.set_cons_zero, List.set_cons_succ, entBlk, entT, List.getElem?_cons_zero, List.getElem?_cons_succ] at M; have C := M.rules; simp only [List.forall_mem_cons, List.not_mem_nil, false_implies, implies_true, and_true, Ent.rules, true_and] at C))
    exact ⟨_, ⟨⟨b7, rfl, hb7, rfl⟩, rfl⟩, M⟩
  clear M; (try clear C)
  intro v u9 Lg w2 h M
  obtain ⟨⟨b7, rfl, hb7, rfl⟩, rfl⟩ := h
  simp only [List.drop_succ_cons, List.drop_zero, List.cons_append, List.nil_append] at M ⊢
  have C := M.rules; simp only [List.forall_mem_cons, List.not_mem_nil, false_implies, implies_true, and_true, Ent.rules, true_and] at C
  go_wp2_with (first | ((with_reducible apply wpM_lda' M 0 35 0 (trC c)); rfl; rfl; rfl; exact ⟨rfl, inf_trp.trans (congrArg some (trs_size ..).symm), _, und_trp, rfl⟩; exact whole_of rfl) | ((with_reducible apply wpM_lda' M 1 35 0 (trC c)); rfl; rfl; rfl; exact ⟨rfl, inf_trp.trans (congrArg some (trs_size ..).symm), _, und_trp, rfl⟩; exact whole_of rfl) | (go_at_call 19; ((with_reducible refine (eqTriple_any c _).mono ?_); rintro e w1 ⟨rfl, hb⟩; have hsz := M.size; (try (have G9 := G.later hb; clear G; have G := G9; clear G9)); have M9 := M.later hb; clear M; (try clear C); have M := M9; clear M9; have C := M.rules; simp only [List.forall_mem_cons, List.not_mem_nil, false_implies, implies_true, and_true, Ent.rules, true_and] at C)))
  go_ret
  exact ⟨rfl, M.below⟩
end Go.Proofs.Ytjdfjlgjpjgnhaa
