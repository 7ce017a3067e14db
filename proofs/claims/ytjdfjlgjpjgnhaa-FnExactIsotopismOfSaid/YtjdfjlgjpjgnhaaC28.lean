/- The first isotopism, for the program and for the reference: contracts. -/
import Derived.Test.YtjdfjlgjpjgnhaaC27
import Derived.Test.YtjdfjlgjpjgnhaaC24
namespace Go.Proofs.Ytjdfjlgjpjgnhaa
open Go Go.RowKit

/-- The first isotopism, and a code. -/
noncomputable def iofRes (n : Int) (t : Nat → Nat → Nat) (k : Int) (u : Nat → Nat → Nat) : Tri × Int :=
  if isSq n t = true ∧ isSq k u = true then (if (istAll n t k u).length = 0 then (zeroTri, 4) else ((bestOf (istAll n t k u)).1, 0)) else (zeroTri, 1)
/-- A triple and a code that are handed back. -/
def TriCode (c : Tri × Int) (w : World) (e : Ending) (w' : World) : Prop := e = .returned (.tuple #[.agg (trC c.1), .int .i64 c.2]) ∧ Below w.heap.size w w'
theorem iof_no {n k : Int} {t u : Nat → Nat → Nat} (h : ¬ (isSq n t = true ∧ isSq k u = true)) : iofRes n t k u = (zeroTri, 1) := if_neg h
theorem iof_none {n k : Int} {t u : Nat → Nat → Nat} (h : isSq n t = true ∧ isSq k u = true) (h2 : (istAll n t k u).length = 0) : iofRes n t k u = (zeroTri, 4) := by unfold iofRes; rw [if_pos h, if_pos h2]
theorem iof_some {n k : Int} {t u : Nat → Nat → Nat} (h : isSq n t = true ∧ isSq k u = true) (h2 : (istAll n t k u).length ≠ 0) : iofRes n t k u = ((bestOf (istAll n t k u)).1, 0) := by unfold iofRes; rw [if_pos h, if_neg h2]
theorem istAll_tb {N K : Nat} {t u : Nat → Nat → Nat} (h : N ≤ 10) : ∀ x ∈ (if N = K then ists N t u else []), Tb x := fun x hx => by
  split at hx
  · exact ists_tb h hx
  · cases hx
theorem istAll_len {N K : Nat} {t u : Nat → Nat → Nat} (ht : IsSq (N : Int) t) (hu : IsSq (K : Int) u) : (if N = K then ists N t u else []).length ≤ 100000000 := by
  have h0 : 1 ≤ N := by have := ht.lo; omega
  have h1 : N ≤ 10 := by have := ht.hi; omega
  split
  · rename_i hNK
    subst hNK
    have hla := flatMap_len (f := istA N t u) (B := N * 1000000) (N := N) fun y hy => flatMap_len (f := istB N t u y) (B := 1000000) (N := N) fun z hz => by
      unfold istB; rw [List.length_map]; exact istP_len h0 h1 (Lat.of_sq ht) (Lat.of_sq hu) hy hz
    have e1 : N * (N * 1000000) ≤ 10 * (10 * 1000000) := Nat.mul_le_mul h1 (Nat.mul_le_mul h1 (Nat.le_refl _))
    have e2 : (ists N t u).length ≤ N * (N * 1000000) := hla
    omega
  · simp

set_option maxRecDepth 100000 in
set_option maxHeartbeats 1000000 in
theorem specIof_any (n k : Int) (t u : Nat → Nat → Nat) (w : World) (ht : Byt2 t) (hu : Byt2 u) : Calls Try.prog 17 #[.agg (sqs n t), .agg (sqs k u)] w (TriCode (iofRes n t k u) w) := by
  have M := Mm.start no w
  have H1 := fun w1 => l02Both_any n k t u w1 ht hu
  have hbd := build_trp0
  by_cases hS : isSq n t = true ∧ isSq k u = true
  · simp only [if_pos hS] at H1
    have sq1 := isSq_true.1 hS.1
    have sq2 := isSq_true.1 hS.2
    obtain ⟨N, rfl⟩ : ∃ N : Nat, n = N := ⟨n.toNat, by have := sq1.lo; omega⟩
    obtain ⟨K, rfl⟩ : ∃ K : Nat, k = K := ⟨k.toNat, by have := sq2.lo; omega⟩
    have H2 := fun w1 => l02Isotopisms_any N K t u w1 sq1 sq2
    have hR1 : (istAll (N : Int) t (K : Int) u).length = 0 → iofRes (N : Int) t (K : Int) u = (zeroTri, 4) := iof_none hS
    have hR2 : (istAll (N : Int) t (K : Int) u).length ≠ 0 → iofRes (N : Int) t (K : Int) u = ((bestOf (istAll (N : Int) t (K : Int) u)).1, 0) := iof_some hS
    rw [istAll_nat] at hR1 hR2
    generalize iofRes (N : Int) t (K : Int) u = R at hR1 hR2
    generalize (if N = K then ists N t u else []) = L at H2 hR1 hR2
    have hlen := bestOf_len L
    clear sq1 sq2 hS ht hu
    by_cases hz : L.length = 0
    · rw [hR1 hz]
      have e0 : (((bestOf L).2 : Int) == 0) = true := by simp; omega
      have HZ := Hid2.mk hz
      have HB := Hid2.mk hlen
      clear hR1 hR2 hz hlen
      go_enter Try.func17, Try.ntmps17
      go_wp2_with (first | ((with_reducible apply wpM_box' M 30 (sqs (N : Int) t)); rfl; exact ⟨rfl, rfl⟩; clear M; (try clear C); intro bq w9 h_bq M; have C := M.rules; simp only [List.forall_mem_cons, List.not_mem_nil, false_implies, implies_true, and_true, Ent.rules, true_and] at C) | ((with_reducible apply wpM_box' M 30 (sqs (K : Int) u)); rfl; exact ⟨rfl, rfl⟩; clear M; (try clear C); intro br w9 h_br M; have C := M.rules; simp only [List.forall_mem_cons, List.not_mem_nil, false_implies, implies_true, and_true, Ent.rules, true_and] at C) | ((with_reducible apply wpM_alloc' M 35 (trC zeroTri)); rfl; exact ⟨rfl, _, zero_trC _, rfl⟩; clear M; (try clear C); intro b4 w9 h_b4 M; have C := M.rules; simp only [List.forall_mem_cons, List.not_mem_nil, false_implies, implies_true, and_true, Ent.rules, true_and] at C) | ((with_reducible apply wpM_lda' M 2 30 0 (sqs (N : Int) t)); rfl; rfl; rfl; exact ⟨rfl, inf_sqs.trans (congrArg some (sqs_size ..).symm), _, und_sqs, rfl⟩; exact whole_of rfl) | ((with_reducible apply wpM_lda' M 1 30 0 (sqs (K : Int) u)); rfl; rfl; rfl; exact ⟨rfl, inf_sqs.trans (congrArg some (sqs_size ..).symm), _, und_sqs, rfl⟩; exact whole_of rfl) | (go_at_call 55; ((with_reducible refine (H1 _).mono ?_); rintro e w1 ⟨rfl, hb⟩; have hsz := M.size; (try (have G9 := G.later hb; clear G; have G := G9; clear G9)); have M9 := M.later hb; clear M; (try clear C); have M := M9; clear M9; have C := M.rules; simp only [List.forall_mem_cons, List.not_mem_nil, false_implies, implies_true, and_true, Ent.rules, true_and] at C)) | (go_at_call 56; ((with_reducible refine (H2 _).mono ?_); rintro e w1 ⟨rfl, hb⟩; have hsz := M.size; (try (have G9 := G.later hb; clear G; have G := G9; clear G9)); have M9 := M.later hb; clear M; (try clear C); have M := M9; clear M9; have C := M.rules; simp only [List.forall_mem_cons, List.not_mem_nil, false_implies, implies_true, and_true, Ent.rules, true_and] at C)) | ((with_reducible apply wpM_alloc' M 35 (trC zeroTri)); rfl; exact ⟨rfl, _, zero_trC _, rfl⟩; clear M; (try clear C); intro bt w9 h_bt M; have C := M.rules; simp only [List.forall_mem_cons, List.not_mem_nil, false_implies, implies_true, and_true, Ent.rules, true_and] at C) | ((with_reducible apply wpM_sta' M 0 35 (trC (bestOf L).1)); rfl; rfl; rfl; rfl; (first | exact .inl (by assumption) | exact .inr rfl | exact .inr (by assumption)); exact ⟨rfl, inf_trp.trans (congrArg some (trs_size ..).symm), flat_trs _ _ _⟩; (simp only [entCells, List.getElem?_cons_zero, List.getElem?_cons_succ, trs_size, trC_size]); clear M; (try clear C); intro w9 M; simp only [List.set_cons_zero, List.set_cons_succ, entBlk, entT, List.getElem?_cons_zero, List.getElem?_cons_succ] at M; have C := M.rules; simp only [List.forall_mem_cons, List.not_mem_nil, false_implies, implies_true, and_true, Ent.rules, true_and] at C) | (refine wpList_build 35 _ rfl rfl [] rfl _ (build_trp0 _) ?_) | ((with_reducible apply wpM_sta' M 1 35 (trC zeroTri)); rfl; rfl; rfl; rfl; (first | exact .inl (by assumption) | exact .inr rfl | exact .inr (by assumption)); exact ⟨rfl, inf_trp.trans (congrArg some (trs_size ..).symm), flat_trs _ _ _⟩; (simp only [entCells, List.getElem?_cons_zero, List.getElem?_cons_succ, trs_size, trC_size]); clear M; (try clear C); intro w9 M; simp only [List.set_cons_zero, List.set_cons_succ, entBlk, entT, List.getElem?_cons_zero, List.getElem?_cons_succ] at M; have C := M.rules; simp only [List.forall_mem_cons, List.not_mem_nil, false_implies, implies_true, and_true, Ent.rules, true_and] at C))
      refine bodyPost_ret (v := .tuple #[.agg (trC zeroTri), .int .i64 4]) (by exact results_tri rfl _ _ _ _ (trC zeroTri) _ rfl und_trp rfl (inf_trp.trans (congrArg some (trC_size _).symm)) (cells_of_blk0 (M.box 1 rfl)) _ rfl) rfl ?_
      exact ⟨rfl, M.below⟩
    · rw [hR2 hz]
      have e0 : (((bestOf L).2 : Int) == 0) = false := by simp; omega
      have HZ := Hid2.mk hz
      have HB := Hid2.mk hlen
      clear hR1 hR2 hz hlen
      go_enter Try.func17, Try.ntmps17
      go_wp2_with (first | ((with_reducible apply wpM_box' M 30 (sqs (N : Int) t)); rfl; exact ⟨rfl, rfl⟩; clear M; (try clear C); intro bq w9 h_bq M; have C := M.rules; simp only [List.forall_mem_cons, List.not_mem_nil, false_implies, implies_true, and_true, Ent.rules, true_and] at C) | ((with_reducible apply wpM_box' M 30 (sqs (K : Int) u)); rfl; exact ⟨rfl, rfl⟩; clear M; (try clear C); intro br w9 h_br M; have C := M.rules; simp only [List.forall_mem_cons, List.not_mem_nil, false_implies, implies_true, and_true, Ent.rules, true_and] at C) | ((with_reducible apply wpM_alloc' M 35 (trC zeroTri)); rfl; exact ⟨rfl, _, zero_trC _, rfl⟩; clear M; (try clear C); intro b4 w9 h_b4 M; have C := M.rules; simp only [List.forall_mem_cons, List.not_mem_nil, false_implies, implies_true, and_true, Ent.rules, true_and] at C) | ((with_reducible apply wpM_lda' M 2 30 0 (sqs (N : Int) t)); rfl; rfl; rfl; exact ⟨rfl, inf_sqs.trans (congrArg some (sqs_size ..).symm), _, und_sqs, rfl⟩; exact whole_of rfl) | ((with_reducible apply wpM_lda' M 1 30 0 (sqs (K : Int) u)); rfl; rfl; rfl; exact ⟨rfl, inf_sqs.trans (congrArg some (sqs_size ..).symm), _, und_sqs, rfl⟩; exact whole_of rfl) | (go_at_call 55; ((with_reducible refine (H1 _).mono ?_); rintro e w1 ⟨rfl, hb⟩; have hsz := M.size; (try (have G9 := G.later hb; clear G; have G := G9; clear G9)); have M9 := M.later hb; clear M; (try clear C); have M := M9; clear M9; have C := M.rules; simp only [List.forall_mem_cons, List.not_mem_nil, false_implies, implies_true, and_true, Ent.rules, true_and] at C)) | (go_at_call 56; ((with_reducible refine (H2 _).mono ?_); rintro e w1 ⟨rfl, hb⟩; have hsz := M.size; (try (have G9 := G.later hb; clear G; have G := G9; clear G9)); have M9 := M.later hb; clear M; (try clear C); have M := M9; clear M9; have C := M.rules; simp only [List.forall_mem_cons, List.not_mem_nil, false_implies, implies_true, and_true, Ent.rules, true_and] at C)) | ((with_reducible apply wpM_alloc' M 35 (trC zeroTri)); rfl; exact ⟨rfl, _, zero_trC _, rfl⟩; clear M; (try clear C); intro bt w9 h_bt M; have C := M.rules; simp only [List.forall_mem_cons, List.not_mem_nil, false_implies, implies_true, and_true, Ent.rules, true_and] at C) | ((with_reducible apply wpM_sta' M 0 35 (trC (bestOf L).1)); rfl; rfl; rfl; rfl; (first | exact .inl (by assumption) | exact .inr rfl | exact .inr (by assumption)); exact ⟨rfl, inf_trp.trans (congrArg some (trs_size ..).symm), flat_trs _ _ _⟩; (simp only [entCells, List.getElem?_cons_zero, List.getElem?_cons_succ, trs_size, trC_size]); clear M; (try clear C); intro w9 M; simp only [List.set_cons_zero, List.set_cons_succ, entBlk, entT, List.getElem?_cons_zero, List.getElem?_cons_succ] at M; have C := M.rules; simp only [List.forall_mem_cons, List.not_mem_nil, false_implies, implies_true, and_true, Ent.rules, true_and] at C) | ((with_reducible apply wpM_lda' M 0 35 0 (trC (bestOf L).1)); rfl; rfl; rfl; exact ⟨rfl, inf_trp.trans (congrArg some (trs_size ..).symm), _, und_trp, rfl⟩; exact whole_of rfl) | ((with_reducible apply wpM_sta' M 1 35 (trC (bestOf L).1)); rfl; rfl; rfl; rfl; (first | exact .inl (by assumption) | exact .inr rfl | exact .inr (by assumption)); exact ⟨rfl, inf_trp.trans (congrArg some (trs_size ..).symm), flat_trs _ _ _⟩; (simp only [entCells, List.getElem?_cons_zero, List.getElem?_cons_succ, trs_size, trC_size]); clear M; (try clear C); intro w9 M; simp only [List.set_cons_zero, List.set_cons_succ, entBlk, entT, List.getElem?_cons_zero, List.getElem?_cons_succ] at M; have C := M.rules; simp only [List.forall_mem_cons, List.not_mem_nil, false_implies, implies_true, and_true, Ent.rules, true_and] at C))
      refine bodyPost_ret (v := .tuple #[.agg (trC (bestOf L).1), .int .i64 0]) (by exact results_tri rfl _ _ _ _ (trC (bestOf L).1) _ rfl und_trp rfl (inf_trp.trans (congrArg some (trC_size _).symm)) (cells_of_blk0 (M.box 1 rfl)) _ rfl) rfl ?_
      exact ⟨rfl, M.below⟩
  · rw [iof_no hS]
    simp only [if_neg hS] at H1
    clear hS
    go_enter Try.func17, Try.ntmps17
    go_wp2_with (first | ((with_reducible apply wpM_box' M 30 (sqs n t)); rfl; exact ⟨rfl, rfl⟩; clear M; (try clear C); intro bq w9 h_bq M; have C := M.rules; simp only [List.forall_mem_cons, List.not_mem_nil, false_implies, implies_true, and_true, Ent.rules, true_and] at C) | ((with_reducible apply wpM_box' M 30 (sqs k u)); rfl; exact ⟨rfl, rfl⟩; clear M; (try clear C); intro br w9 h_br M; have C := M.rules; simp only [List.forall_mem_cons, List.not_mem_nil, false_implies, implies_true, and_true, Ent.rules, true_and] at C) | ((with_reducible apply wpM_alloc' M 35 (trC zeroTri)); rfl; exact ⟨rfl, _, zero_trC _, rfl⟩; clear M; (try clear C); intro b4 w9 h_b4 M; have C := M.rules; simp only [List.forall_mem_cons, List.not_mem_nil, false_implies, implies_true, and_true, Ent.rules, true_and] at C) | ((with_reducible apply wpM_lda' M 2 30 0 (sqs n t)); rfl; rfl; rfl; exact ⟨rfl, inf_sqs.trans (congrArg some (sqs_size ..).symm), _, und_sqs, rfl⟩; exact whole_of rfl) | ((with_reducible apply wpM_lda' M 1 30 0 (sqs k u)); rfl; rfl; rfl; exact ⟨rfl, inf_sqs.trans (congrArg some (sqs_size ..).symm), _, und_sqs, rfl⟩; exact whole_of rfl) | (go_at_call 55; ((with_reducible refine (H1 _).mono ?_); rintro e w1 ⟨rfl, hb⟩; have hsz := M.size; (try (have G9 := G.later hb; clear G; have G := G9; clear G9)); have M9 := M.later hb; clear M; (try clear C); have M := M9; clear M9; have C := M.rules; simp only [List.forall_mem_cons, List.not_mem_nil, false_implies, implies_true, and_true, Ent.rules, true_and] at C)) | (refine wpList_build 35 _ rfl rfl [] rfl _ (build_trp0 _) ?_) | ((with_reducible apply wpM_sta' M 0 35 (trC zeroTri)); rfl; rfl; rfl; rfl; (first | exact .inl (by assumption) | exact .inr rfl | exact .inr (by assumption)); exact ⟨rfl, inf_trp.trans (congrArg some (trs_size ..).symm), flat_trs _ _ _⟩; (simp only [entCells, List.getElem?_cons_zero, List.getElem?_cons_succ, trs_size, trC_size]); clear M; (try clear C); intro w9 M; simp only [List.set_cons_zero, List.set_cons_succ, entBlk, entT, List.getElem?_cons_zero, List.getElem?_cons_succ] at M; have C := M.rules; simp only [List.forall_mem_cons, List.not_mem_nil, false_implies, implies_true, and_true, Ent.rules, true_and] at C))
    refine bodyPost_ret (v := .tuple #[.agg (trC zeroTri), .int .i64 1]) (by exact results_tri rfl _ _ _ _ (trC zeroTri) _ rfl und_trp rfl (inf_trp.trans (congrArg some (trC_size _).symm)) (cells_of_blk0 (M.box 0 rfl)) _ rfl) rfl ?_
    exact ⟨rfl, M.below⟩

set_option maxRecDepth 100000 in
set_option maxHeartbeats 1000000 in
theorem implIof_any (n k : Int) (t u : Nat → Nat → Nat) (w : World) (ht : Byt2 t) (hu : Byt2 u) : Calls Try.prog 18 #[.agg (sqs n t), .agg (sqs k u)] w (TriCode (iofRes n t k u) w) := by
  have M := Mm.start no w
  have H1 := fun w1 => isSquare_any n t w1 ht
  have H2 := fun w1 => isSquare_any k u w1 hu
  have hbd := build_trp0
  cases e1 : isSq n t with
  | false =>
    simp only [e1] at H1
    rw [iof_no (by rw [e1]; simp)]
    clear e1
    go_enter Try.func18, Try.ntmps18
    go_wp2_with (first | ((with_reducible apply wpM_box' M 30 (sqs n t)); rfl; exact ⟨rfl, rfl⟩; clear M; (try clear C); intro bq w9 h_bq M; have C := M.rules; simp only [List.forall_mem_cons, List.not_mem_nil, false_implies, implies_true, and_true, Ent.rules, true_and] at C) | ((with_reducible apply wpM_box' M 30 (sqs k u)); rfl; exact ⟨rfl, rfl⟩; clear M; (try clear C); intro br w9 h_br M; have C := M.rules; simp only [List.forall_mem_cons, List.not_mem_nil, false_implies, implies_true, and_true, Ent.rules, true_and] at C) | ((with_reducible apply wpM_alloc' M 35 (trC zeroTri)); rfl; exact ⟨rfl, _, zero_trC _, rfl⟩; clear M; (try clear C); intro b4 w9 h_b4 M; have C := M.rules; simp only [List.forall_mem_cons, List.not_mem_nil, false_implies, implies_true, and_true, Ent.rules, true_and] at C) | ((with_reducible apply wpM_lda' M 2 30 0 (sqs n t)); rfl; rfl; rfl; exact ⟨rfl, inf_sqs.trans (congrArg some (sqs_size ..).symm), _, und_sqs, rfl⟩; exact whole_of rfl) | (go_at_call 58; ((with_reducible refine (H1 _).mono ?_); rintro e w1 ⟨rfl, hb⟩; have hsz := M.size; (try (have G9 := G.later hb; clear G; have G := G9; clear G9)); have M9 := M.later hb; clear M; (try clear C); have M := M9; clear M9; have C := M.rules; simp only [List.forall_mem_cons, List.not_mem_nil, false_implies, implies_true, and_true, Ent.rules, true_and] at C)) | (refine wpList_build 35 _ rfl rfl [] rfl _ (build_trp0 _) ?_) | ((with_reducible apply wpM_sta' M 0 35 (trC zeroTri)); rfl; rfl; rfl; rfl; (first | exact .inl (by assumption) | exact .inr rfl | exact .inr (by assumption)); exact ⟨rfl, inf_trp.trans (congrArg some (trs_size ..).symm), flat_trs _ _ _⟩; (simp only [entCells, List.getElem?_cons_zero, List.getElem?_cons_succ, trs_size, trC_size]); clear M; (try clear C); intro w9 M; simp only [List.set_cons_zero, List.set_cons_succ, entBlk, entT, List.getElem?_cons_zero, List.getElem?_cons_succ] at M; have C := M.rules; simp only [List.forall_mem_cons, List.not_mem_nil, false_implies, implies_true, and_true, Ent.rules, true_and] at C))
    refine bodyPost_ret (v := .tuple #[.agg (trC zeroTri), .int .i64 1]) (by exact results_tri rfl _ _ _ _ (trC zeroTri) _ rfl und_trp rfl (inf_trp.trans (congrArg some (trC_size _).symm)) (cells_of_blk0 (M.box 0 rfl)) _ rfl) rfl ?_
    exact ⟨rfl, M.below⟩
  | true =>
    cases e2 : isSq k u with
    | false =>
      simp only [e1] at H1
      simp only [e2] at H2
      rw [iof_no (by rw [e2]; simp)]
      clear e1 e2
      go_enter Try.func18, Try.ntmps18
      go_wp2_with (first | ((with_reducible apply wpM_box' M 30 (sqs n t)); rfl; exact ⟨rfl, rfl⟩; clear M; (try clear C); intro bq w9 h_bq M; have C := M.rules; simp only [List.forall_mem_cons, List.not_mem_nil, false_implies, implies_true, and_true, Ent.rules, true_and] at C) | ((with_reducible apply wpM_box' M 30 (sqs k u)); rfl; exact ⟨rfl, rfl⟩; clear M; (try clear C); intro br w9 h_br M; have C := M.rules; simp only [List.forall_mem_cons, List.not_mem_nil, false_implies, implies_true, and_true, Ent.rules, true_and] at C) | ((with_reducible apply wpM_alloc' M 35 (trC zeroTri)); rfl; exact ⟨rfl, _, zero_trC _, rfl⟩; clear M; (try clear C); intro b4 w9 h_b4 M; have C := M.rules; simp only [List.forall_mem_cons, List.not_mem_nil, false_implies, implies_true, and_true, Ent.rules, true_and] at C) | ((with_reducible apply wpM_lda' M 2 30 0 (sqs n t)); rfl; rfl; rfl; exact ⟨rfl, inf_sqs.trans (congrArg some (sqs_size ..).symm), _, und_sqs, rfl⟩; exact whole_of rfl) | ((with_reducible apply wpM_lda' M 1 30 0 (sqs k u)); rfl; rfl; rfl; exact ⟨rfl, inf_sqs.trans (congrArg some (sqs_size ..).symm), _, und_sqs, rfl⟩; exact whole_of rfl) | (go_at_call 58; ((with_reducible refine (H1 _).mono ?_); rintro e w1 ⟨rfl, hb⟩; have hsz := M.size; (try (have G9 := G.later hb; clear G; have G := G9; clear G9)); have M9 := M.later hb; clear M; (try clear C); have M := M9; clear M9; have C := M.rules; simp only [List.forall_mem_cons, List.not_mem_nil, false_implies, implies_true, and_true, Ent.rules, true_and] at C)) | (go_at_call 58; ((with_reducible refine (H2 _).mono ?_); rintro e w1 ⟨rfl, hb⟩; have hsz := M.size; (try (have G9 := G.later hb; clear G; have G := G9; clear G9)); have M9 := M.later hb; clear M; (try clear C); have M := M9; clear M9; have C := M.rules; simp only [List.forall_mem_cons, List.not_mem_nil, false_implies, implies_true, and_true, Ent.rules, true_and] at C)) | (refine wpList_build 35 _ rfl rfl [] rfl _ (build_trp0 _) ?_) | ((with_reducible apply wpM_sta' M 0 35 (trC zeroTri)); rfl; rfl; rfl; rfl; (first | exact .inl (by assumption) | exact .inr rfl | exact .inr (by assumption)); exact ⟨rfl, inf_trp.trans (congrArg some (trs_size ..).symm), flat_trs _ _ _⟩; (simp only [entCells, List.getElem?_cons_zero, List.getElem?_cons_succ, trs_size, trC_size]); clear M; (try clear C); intro w9 M; simp only [List.set_cons_zero, List.set_cons_succ, entBlk, entT, List.getElem?_cons_zero, List.getElem?_cons_succ] at M; have C := M.rules; simp only [List.forall_mem_cons, List.not_mem_nil, false_implies, implies_true, and_true, Ent.rules, true_and] at C))
      refine bodyPost_ret (v := .tuple #[.agg (trC zeroTri), .int .i64 1]) (by exact results_tri rfl _ _ _ _ (trC zeroTri) _ rfl und_trp rfl (inf_trp.trans (congrArg some (trC_size _).symm)) (cells_of_blk0 (M.box 0 rfl)) _ rfl) rfl ?_
      exact ⟨rfl, M.below⟩
    | true =>
      simp only [e1] at H1
      simp only [e2] at H2
      have sq1 := isSq_true.1 e1
      have sq2 := isSq_true.1 e2
      have hS : isSq n t = true ∧ isSq k u = true := ⟨e1, e2⟩
      clear e1 e2 ht hu
      obtain ⟨N, rfl⟩ : ∃ N : Nat, n = N := ⟨n.toNat, by have := sq1.lo; omega⟩
      obtain ⟨K, rfl⟩ : ∃ K : Nat, k = K := ⟨k.toNat, by have := sq2.lo; omega⟩
      have H3 := fun w1 => isotopisms_any N K t u w1 sq1 sq2
      have htb := istAll_tb (N := N) (K := K) (t := t) (u := u) (by have := sq1.hi; omega)
      have hle := istAll_len sq1 sq2
      have hR1 : (istAll (N : Int) t (K : Int) u).length = 0 → iofRes (N : Int) t (K : Int) u = (zeroTri, 4) := iof_none hS
      have hR2 : (istAll (N : Int) t (K : Int) u).length ≠ 0 → iofRes (N : Int) t (K : Int) u = ((bestOf (istAll (N : Int) t (K : Int) u)).1, 0) := iof_some hS
      rw [istAll_nat] at hR1 hR2
      generalize iofRes (N : Int) t (K : Int) u = R at hR1 hR2
      generalize (if N = K then ists N t u else []) = L at H3 hR1 hR2 htb hle
      clear sq1 sq2 hS
      by_cases hz : L.length = 0
      · rw [hR1 hz]
        have e0 : ((L.length : Int) == 0) = true := by rw [hz]; rfl
        have HZ := Hid2.mk hz
        clear hR1 hR2 hz htb
        go_enter Try.func18, Try.ntmps18
        go_wp2_with (first | ((with_reducible apply wpM_box' M 30 (sqs (N : Int) t)); rfl; exact ⟨rfl, rfl⟩; clear M; (try clear C); intro bq w9 h_bq M; have C := M.rules; simp only [List.forall_mem_cons, List.not_mem_nil, false_implies, implies_true, and_true, Ent.rules, true_and] at C) | ((with_reducible apply wpM_box' M 30 (sqs (K : Int) u)); rfl; exact ⟨rfl, rfl⟩; clear M; (try clear C); intro br w9 h_br M; have C := M.rules; simp only [List.forall_mem_cons, List.not_mem_nil, false_implies, implies_true, and_true, Ent.rules, true_and] at C) | ((with_reducible apply wpM_alloc' M 35 (trC zeroTri)); rfl; exact ⟨rfl, _, zero_trC _, rfl⟩; clear M; (try clear C); intro b4 w9 h_b4 M; have C := M.rules; simp only [List.forall_mem_cons, List.not_mem_nil, false_implies, implies_true, and_true, Ent.rules, true_and] at C) | ((with_reducible apply wpM_lda' M 2 30 0 (sqs (N : Int) t)); rfl; rfl; rfl; exact ⟨rfl, inf_sqs.trans (congrArg some (sqs_size ..).symm), _, und_sqs, rfl⟩; exact whole_of rfl) | ((with_reducible apply wpM_lda' M 1 30 0 (sqs (K : Int) u)); rfl; rfl; rfl; exact ⟨rfl, inf_sqs.trans (congrArg some (sqs_size ..).symm), _, und_sqs, rfl⟩; exact whole_of rfl) | (go_at_call 58; ((with_reducible refine (H1 _).mono ?_); rintro e w1 ⟨rfl, hb⟩; have hsz := M.size; (try (have G9 := G.later hb; clear G; have G := G9; clear G9)); have M9 := M.later hb; clear M; (try clear C); have M := M9; clear M9; have C := M.rules; simp only [List.forall_mem_cons, List.not_mem_nil, false_implies, implies_true, and_true, Ent.rules, true_and] at C)) | (go_at_call 58; ((with_reducible refine (H2 _).mono ?_); rintro e w1 ⟨rfl, hb⟩; have hsz := M.size; (try (have G9 := G.later hb; clear G; have G := G9; clear G9)); have M9 := M.later hb; clear M; (try clear C); have M := M9; clear M9; have C := M.rules; simp only [List.forall_mem_cons, List.not_mem_nil, false_implies, implies_true, and_true, Ent.rules, true_and] at C)) | (go_at_call 59; ((with_reducible refine (H3 _).mono ?_); rintro e w1 ⟨v, rfl, hO, hb⟩; have hsz := M.size; have M9 := M.later hb; clear M; (try clear C); have M := M9; clear M9; (try simp only [List.set_cons_zero, List.set_cons_succ] at M); have C := M.rules; simp only [List.forall_mem_cons, List.not_mem_nil, false_implies, implies_true, and_true, Ent.rules, true_and] at C; clear hb; obtain ⟨pp, cap, rfl⟩ := own_form hO)) | (refine wpList_build 35 _ rfl rfl [] rfl _ (build_trp0 _) ?_) | ((with_reducible apply wpM_sta' M 0 35 (trC zeroTri)); rfl; rfl; rfl; rfl; (first | exact .inl (by assumption) | exact .inr rfl | exact .inr (by assumption)); exact ⟨rfl, inf_trp.trans (congrArg some (trs_size ..).symm), flat_trs _ _ _⟩; (simp only [entCells, List.getElem?_cons_zero, List.getElem?_cons_succ, trs_size, trC_size]); clear M; (try clear C); intro w9 M; simp only [List.set_cons_zero, List.set_cons_succ, entBlk, entT, List.getElem?_cons_zero, List.getElem?_cons_succ] at M; have C := M.rules; simp only [List.forall_mem_cons, List.not_mem_nil, false_implies, implies_true, and_true, Ent.rules, true_and] at C))
        refine bodyPost_ret (v := .tuple #[.agg (trC zeroTri), .int .i64 4]) (by exact results_tri rfl _ _ _ _ (trC zeroTri) _ rfl und_trp rfl (inf_trp.trans (congrArg some (trC_size _).symm)) (cells_of_blk0 (M.box 0 rfl)) _ rfl) rfl ?_
        exact ⟨rfl, M.below⟩
      · rw [hR2 hz]
        have e0 : ((L.length : Int) == 0) = false := beq_eq_false_iff_ne.2 (by omega)
        have hmin := fun w1 g cap hr => minFunc_any L (by omega) (by omega) htb w1 g cap hr
        generalize bestOf L = B at hmin
        have HZ := Hid2.mk (show 0 < L.length * 30 by omega)
        have HM := Hid2.mk hmin
        clear hR1 hR2 hz htb hmin
        go_enter Try.func18, Try.ntmps18
        go_wp2_with (first | ((with_reducible apply wpM_box' M 30 (sqs (N : Int) t)); rfl; exact ⟨rfl, rfl⟩; clear M; (try clear C); intro bq w9 h_bq M; have C := M.rules; simp only [List.forall_mem_cons, List.not_mem_nil, false_implies, implies_true, and_true, Ent.rules, true_and] at C) | ((with_reducible apply wpM_box' M 30 (sqs (K : Int) u)); rfl; exact ⟨rfl, rfl⟩; clear M; (try clear C); intro br w9 h_br M; have C := M.rules; simp only [List.forall_mem_cons, List.not_mem_nil, false_implies, implies_true, and_true, Ent.rules, true_and] at C) | ((with_reducible apply wpM_alloc' M 35 (trC zeroTri)); rfl; exact ⟨rfl, _, zero_trC _, rfl⟩; clear M; (try clear C); intro b4 w9 h_b4 M; have C := M.rules; simp only [List.forall_mem_cons, List.not_mem_nil, false_implies, implies_true, and_true, Ent.rules, true_and] at C) | ((with_reducible apply wpM_lda' M 2 30 0 (sqs (N : Int) t)); rfl; rfl; rfl; exact ⟨rfl, inf_sqs.trans (congrArg some (sqs_size ..).symm), _, und_sqs, rfl⟩; exact whole_of rfl) | ((with_reducible apply wpM_lda' M 1 30 0 (sqs (K : Int) u)); rfl; rfl; rfl; exact ⟨rfl, inf_sqs.trans (congrArg some (sqs_size ..).symm), _, und_sqs, rfl⟩; exact whole_of rfl) | (go_at_call 58; ((with_reducible refine (H1 _).mono ?_); rintro e w1 ⟨rfl, hb⟩; have hsz := M.size; (try (have G9 := G.later hb; clear G; have G := G9; clear G9)); have M9 := M.later hb; clear M; (try clear C); have M := M9; clear M9; have C := M.rules; simp only [List.forall_mem_cons, List.not_mem_nil, false_implies, implies_true, and_true, Ent.rules, true_and] at C)) | (go_at_call 58; ((with_reducible refine (H2 _).mono ?_); rintro e w1 ⟨rfl, hb⟩; have hsz := M.size; (try (have G9 := G.later hb; clear G; have G := G9; clear G9)); have M9 := M.later hb; clear M; (try clear C); have M := M9; clear M9; have C := M.rules; simp only [List.forall_mem_cons, List.not_mem_nil, false_implies, implies_true, and_true, Ent.rules, true_and] at C)) | (go_at_call 59; ((with_reducible refine (H3 _).mono ?_); rintro e w1 ⟨v, rfl, hO, hb⟩; have hsz := M.size; have M9 := M.later hb; clear M; (try clear C); have M := M9; clear M9; (try simp only [List.set_cons_zero, List.set_cons_succ] at M); have C := M.rules; simp only [List.forall_mem_cons, List.not_mem_nil, false_implies, implies_true, and_true, Ent.rules, true_and] at C; clear hb; obtain ⟨g, cap, rfl, _, _, hr⟩ := own_rds hO HZ.out)) | (go_at_call 60; ((with_reducible refine (HM.out _ _ _ hr).mono ?_); rintro e w1 ⟨rfl, hb⟩; have hsz := M.size; (try (have G9 := G.later hb; clear G; have G := G9; clear G9)); have M9 := M.later hb; clear M; (try clear C); have M := M9; clear M9; have C := M.rules; simp only [List.forall_mem_cons, List.not_mem_nil, false_implies, implies_true, and_true, Ent.rules, true_and] at C)) | ((with_reducible apply wpM_sta' M 0 35 (trC B.1)); rfl; rfl; rfl; rfl; (first | exact .inl (by assumption) | exact .inr rfl | exact .inr (by assumption)); exact ⟨rfl, inf_trp.trans (congrArg some (trs_size ..).symm), flat_trs _ _ _⟩; (simp only [entCells, List.getElem?_cons_zero, List.getElem?_cons_succ, trs_size, trC_size]); clear M; (try clear C); intro w9 M; simp only [List.set_cons_zero, List.set_cons_succ, entBlk, entT, List.getElem?_cons_zero, List.getElem?_cons_succ] at M; have C := M.rules; simp only [List.forall_mem_cons, List.not_mem_nil, false_implies, implies_true, and_true, Ent.rules, true_and] at C))
        refine bodyPost_ret (v := .tuple #[.agg (trC B.1), .int .i64 0]) (by exact results_tri rfl _ _ _ _ (trC B.1) _ rfl und_trp rfl (inf_trp.trans (congrArg some (trC_size _).symm)) (cells_of_blk0 (M.box 0 rfl)) _ rfl) rfl ?_
        exact ⟨rfl, M.below⟩
end Go.Proofs.Ytjdfjlgjpjgnhaa
