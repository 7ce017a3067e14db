/- The number of isotopisms, for the program and for the reference: contracts. -/
import Derived.Test.YtjdfjlgjpjgnhaaC23
import Derived.Test.YtjdfjlgjpjgnhaaC7
import Derived.Test.YtjdfjlgjpjgnhaaC4
namespace Go.Proofs.Ytjdfjlgjpjgnhaa
open Go Go.RowKit

/-- All isotopisms of two squares. -/
noncomputable def istAll (n : Int) (t : Nat → Nat → Nat) (k : Int) (u : Nat → Nat → Nat) : List Tri := if n = k then ists n.toNat t u else []
noncomputable def cntRes (n : Int) (t : Nat → Nat → Nat) (k : Int) (u : Nat → Nat → Nat) : Int × Int := if isSq n t = true ∧ isSq k u = true then (((istAll n t k u).length : Int), 0) else (0, 1)

set_option maxRecDepth 100000 in
set_option maxHeartbeats 1000000 in
theorem l02Both_any (n k : Int) (t u : Nat → Nat → Nat) (w : World) (ht : Byt2 t) (hu : Byt2 u) :
    Calls Try.prog 55 #[.agg (sqs n t), .agg (sqs k u)] w fun e w' => e = .returned (.int .i64 (if isSq n t = true ∧ isSq k u = true then 0 else 1)) ∧ Below w.heap.size w w' := by
  have M := Mm.start no w
  have H1 := fun w1 => l01Is_any n t w1 ht
  have H2 := fun w1 => l01Is_any k u w1 hu
  cases e1 : isSq n t with
  | false =>
    simp only [e1] at H1
    rw [if_neg (by simp)]
    go_enter Try.func55, Try.ntmps55
    go_wp2_with (first | ((with_reducible apply wpM_box' M 30 (sqs n t)); rfl; exact ⟨rfl, rfl⟩; clear M; (try clear C); intro bq w9 h_bq M; have C := M.rules; simp only [List.forall_mem_cons, List.not_mem_nil, false_implies, implies_true, and_true, Ent.rules, true_and] at C) | ((with_reducible apply wpM_box' M 30 (sqs k u)); rfl; exact ⟨rfl, rfl⟩; clear M; (try clear C); intro br w9 h_br M; have C := M.rules; simp only [List.forall_mem_cons, List.not_mem_nil, false_implies, implies_true, and_true, Ent.rules, true_and] at C) | ((with_reducible apply wpM_lda' M 1 30 0 (sqs n t)); rfl; rfl; rfl; exact ⟨rfl, inf_sqs.trans (congrArg some (sqs_size ..).symm), _, und_sqs, rfl⟩; exact whole_of rfl) | (go_at_call 86; ((with_reducible refine (H1 _).mono ?_); rintro e w1 ⟨rfl, hb⟩; have hsz := M.size; (try (have G9 := G.later hb; clear G; have G := G9; clear G9)); have M9 := M.later hb; clear M; (try clear C); have M := M9; clear M9; have C := M.rules; simp only [List.forall_mem_cons, List.not_mem_nil, false_implies, implies_true, and_true, Ent.rules, true_and] at C)))
    go_ret
    exact ⟨rfl, M.below⟩
  | true =>
    cases e2 : isSq k u with
    | false =>
      simp only [e1] at H1
      simp only [e2] at H2
      rw [if_neg (by simp)]
      go_enter Try.func55, Try.ntmps55
      go_wp2_with (first | ((with_reducible apply wpM_box' M 30 (sqs n t)); rfl; exact ⟨rfl, rfl⟩; clear M; (try clear C); intro bq w9 h_bq M; have C := M.rules; simp only [List.forall_mem_cons, List.not_mem_nil, false_implies, implies_true, and_true, Ent.rules, true_and] at C) | ((with_reducible apply wpM_box' M 30 (sqs k u)); rfl; exact ⟨rfl, rfl⟩; clear M; (try clear C); intro br w9 h_br M; have C := M.rules; simp only [List.forall_mem_cons, List.not_mem_nil, false_implies, implies_true, and_true, Ent.rules, true_and] at C) | ((with_reducible apply wpM_lda' M 1 30 0 (sqs n t)); rfl; rfl; rfl; exact ⟨rfl, inf_sqs.trans (congrArg some (sqs_size ..).symm), _, und_sqs, rfl⟩; exact whole_of rfl) | ((with_reducible apply wpM_lda' M 0 30 0 (sqs k u)); rfl; rfl; rfl; exact ⟨rfl, inf_sqs.trans (congrArg some (sqs_size ..).symm), _, und_sqs, rfl⟩; exact whole_of rfl) | (go_at_call 86; ((with_reducible refine (H1 _).mono ?_); rintro e w1 ⟨rfl, hb⟩; have hsz := M.size; (try (have G9 := G.later hb; clear G; have G := G9; clear G9)); have M9 := M.later hb; clear M; (try clear C); have M := M9; clear M9; have C := M.rules; simp only [List.forall_mem_cons, List.not_mem_nil, false_implies, implies_true, and_true, Ent.rules, true_and] at C)) | (go_at_call 86; ((with_reducible refine (H2 _).mono ?_); rintro e w1 ⟨rfl, hb⟩; have hsz := M.size; (try (have G9 := G.later hb; clear G; have G := G9; clear G9)); have M9 := M.later hb; clear M; (try clear C); have M := M9; clear M9; have C := M.rules; simp only [List.forall_mem_cons, List.not_mem_nil, false_implies, implies_true, and_true, Ent.rules, true_and] at C)))
      go_ret
      exact ⟨rfl, M.below⟩
    | true =>
      simp only [e1] at H1
      simp only [e2] at H2
      rw [if_pos ⟨rfl, rfl⟩]
      go_enter Try.func55, Try.ntmps55
      go_wp2_with (first | ((with_reducible apply wpM_box' M 30 (sqs n t)); rfl; exact ⟨rfl, rfl⟩; clear M; (try clear C); intro bq w9 h_bq M; have C := M.rules; simp only [List.forall_mem_cons, List.not_mem_nil, false_implies, implies_true, and_true, Ent.rules, true_and] at C) | ((with_reducible apply wpM_box' M 30 (sqs k u)); rfl; exact ⟨rfl, rfl⟩; clear M; (try clear C); intro br w9 h_br M; have C := M.rules; simp only [List.forall_mem_cons, List.not_mem_nil, false_implies, implies_true, and_true, Ent.rules, true_and] at C) | ((with_reducible apply wpM_lda' M 1 30 0 (sqs n t)); rfl; rfl; rfl; exact ⟨rfl, inf_sqs.trans (congrArg some (sqs_size ..).symm), _, und_sqs, rfl⟩; exact whole_of rfl) | ((with_reducible apply wpM_lda' M 0 30 0 (sqs k u)); rfl; rfl; rfl; exact ⟨rfl, inf_sqs.trans (congrArg some (sqs_size ..).symm), _, und_sqs, rfl⟩; exact whole_of rfl) | (go_at_call 86; ((with_reducible refine (H1 _).mono ?_); rintro e w1 ⟨rfl, hb⟩; have hsz := M.size; (try (have G9 := G.later hb; clear G; have G := G9; clear G9)); have M9 := M.later hb; clear M; (try clear C); have M := M9; clear M9; have C := M.rules; simp only [List.forall_mem_cons, List.not_mem_nil, false_implies, implies_true, and_true, Ent.rules, true_and] at C)) | (go_at_call 86; ((with_reducible refine (H2 _).mono ?_); rintro e w1 ⟨rfl, hb⟩; have hsz := M.size; (try (have G9 := G.later hb; clear G; have G := G9; clear G9)); have M9 := M.later hb; clear M; (try clear C); have M := M9; clear M9; have C := M.rules; simp only [List.forall_mem_cons, List.not_mem_nil, false_implies, implies_true, and_true, Ent.rules, true_and] at C)))
      go_ret
      exact ⟨rfl, M.below⟩

/-- Two numbers that are handed back. -/
def TwoInts (c : Int × Int) (w : World) (e : Ending) (w' : World) : Prop := e = .returned (.tuple #[.int .i64 c.1, .int .i64 c.2]) ∧ Below w.heap.size w w'
theorem istAll_nat (N K : Nat) (t u : Nat → Nat → Nat) : istAll (N : Int) t (K : Int) u = if N = K then ists N t u else [] := by
  unfold istAll
  by_cases h : N = K
  · rw [if_pos (by omega), if_pos h]; rfl
  · rw [if_neg (by omega), if_neg h]

set_option maxRecDepth 100000 in
set_option maxHeartbeats 1000000 in
theorem specCount_any (n k : Int) (t u : Nat → Nat → Nat) (w : World) (ht : Byt2 t) (hu : Byt2 u) : Calls Try.prog 14 #[.agg (sqs n t), .agg (sqs k u)] w (TwoInts (cntRes n t k u) w) := by
  have M := Mm.start no w
  have H1 := fun w1 => l02Both_any n k t u w1 ht hu
  by_cases hS : isSq n t = true ∧ isSq k u = true
  · have hR : cntRes n t k u = (((istAll n t k u).length : Int), 0) := by unfold cntRes; rw [if_pos hS]
    rw [hR]
    clear hR
    simp only [if_pos hS] at H1
    have sq1 := isSq_true.1 hS.1
    have sq2 := isSq_true.1 hS.2
    clear hS ht hu
    obtain ⟨N, rfl⟩ : ∃ N : Nat, n = N := ⟨n.toNat, by have := sq1.lo; omega⟩
    obtain ⟨K, rfl⟩ : ∃ K : Nat, k = K := ⟨k.toNat, by have := sq2.lo; omega⟩
    have H2 := fun w1 => l02Isotopisms_any N K t u w1 sq1 sq2
    rw [istAll_nat]
    generalize (if N = K then ists N t u else []) = L at H2
    have hlen := bestOf_len L
    have HLEN := Hid2.mk hlen
    clear hlen sq1 sq2
    go_enter Try.func14, Try.ntmps14
    go_wp2_with (first | ((with_reducible apply wpM_box' M 30 (sqs (N : Int) t)); rfl; exact ⟨rfl, rfl⟩; clear M; (try clear C); intro bq w9 h_bq M; have C := M.rules; simp only [List.forall_mem_cons, List.not_mem_nil, false_implies, implies_true, and_true, Ent.rules, true_and] at C) | ((with_reducible apply wpM_box' M 30 (sqs (K : Int) u)); rfl; exact ⟨rfl, rfl⟩; clear M; (try clear C); intro br w9 h_br M; have C := M.rules; simp only [List.forall_mem_cons, List.not_mem_nil, false_implies, implies_true, and_true, Ent.rules, true_and] at C) | ((with_reducible apply wpM_lda' M 1 30 0 (sqs (N : Int) t)); rfl; rfl; rfl; exact ⟨rfl, inf_sqs.trans (congrArg some (sqs_size ..).symm), _, und_sqs, rfl⟩; exact whole_of rfl) | ((with_reducible apply wpM_lda' M 0 30 0 (sqs (K : Int) u)); rfl; rfl; rfl; exact ⟨rfl, inf_sqs.trans (congrArg some (sqs_size ..).symm), _, und_sqs, rfl⟩; exact whole_of rfl) | (go_at_call 55; ((with_reducible refine (H1 _).mono ?_); rintro e w1 ⟨rfl, hb⟩; have hsz := M.size; (try (have G9 := G.later hb; clear G; have G := G9; clear G9)); have M9 := M.later hb; clear M; (try clear C); have M := M9; clear M9; have C := M.rules; simp only [List.forall_mem_cons, List.not_mem_nil, false_implies, implies_true, and_true, Ent.rules, true_and] at C)) | (go_at_call 56; ((with_reducible refine (H2 _).mono ?_); rintro e w1 ⟨rfl, hb⟩; have hsz := M.size; (try (have G9 := G.later hb; clear G; have G := G9; clear G9)); have M9 := M.later hb; clear M; (try clear C); have M := M9; clear M9; have C := M.rules; simp only [List.forall_mem_cons, List.not_mem_nil, false_implies, implies_true, and_true, Ent.rules, true_and] at C)) | ((with_reducible apply wpM_alloc' M 35 (trC zeroTri)); rfl; exact ⟨rfl, _, zero_trC _, rfl⟩; clear M; (try clear C); intro bt w9 h_bt M; have C := M.rules; simp only [List.forall_mem_cons, List.not_mem_nil, false_implies, implies_true, and_true, Ent.rules, true_and] at C) | ((with_reducible apply wpM_sta' M 0 35 (trC (bestOf L).1)); rfl; rfl; rfl; rfl; (first | exact .inl (by assumption) | exact .inr rfl | exact .inr (by assumption)); exact ⟨rfl, inf_trp.trans (congrArg some (trs_size ..).symm), flat_trs _ _ _⟩; (simp only [entCells, List.getElem?_cons_zero, List.getElem?_cons_succ, trs_size, trC_size]); clear M; (try clear C); intro w9 M; simp only [List.set_cons_zero, List.set_cons_succ, entBlk, entT, List.getElem?_cons_zero, List.getElem?_cons_succ] at M; have C := M.rules; simp only [List.forall_mem_cons, List.not_mem_nil, false_implies, implies_true, and_true, Ent.rules, true_and] at C))
    go_ret2
    exact ⟨by rw [← HLEN.out]; rfl, M.below⟩
  · have hR : cntRes n t k u = (0, 1) := by unfold cntRes; rw [if_neg hS]
    rw [hR]
    clear hR
    simp only [if_neg hS] at H1
    clear hS
    go_enter Try.func14, Try.ntmps14
    go_wp2_with (first | ((with_reducible apply wpM_box' M 30 (sqs n t)); rfl; exact ⟨rfl, rfl⟩; clear M; (try clear C); intro bq w9 h_bq M; have C := M.rules; simp only [List.forall_mem_cons, List.not_mem_nil, false_implies, implies_true, and_true, Ent.rules, true_and] at C) | ((with_reducible apply wpM_box' M 30 (sqs k u)); rfl; exact ⟨rfl, rfl⟩; clear M; (try clear C); intro br w9 h_br M; have C := M.rules; simp only [List.forall_mem_cons, List.not_mem_nil, false_implies, implies_true, and_true, Ent.rules, true_and] at C) | ((with_reducible apply wpM_lda' M 1 30 0 (sqs n t)); rfl; rfl; rfl; exact ⟨rfl, inf_sqs.trans (congrArg some (sqs_size ..).symm), _, und_sqs, rfl⟩; exact whole_of rfl) | ((with_reducible apply wpM_lda' M 0 30 0 (sqs k u)); rfl; rfl; rfl; exact ⟨rfl, inf_sqs.trans (congrArg some (sqs_size ..).symm), _, und_sqs, rfl⟩; exact whole_of rfl) | (go_at_call 55; ((with_reducible refine (H1 _).mono ?_); rintro e w1 ⟨rfl, hb⟩; have hsz := M.size; (try (have G9 := G.later hb; clear G; have G := G9; clear G9)); have M9 := M.later hb; clear M; (try clear C); have M := M9; clear M9; have C := M.rules; simp only [List.forall_mem_cons, List.not_mem_nil, false_implies, implies_true, and_true, Ent.rules, true_and] at C)))
    go_ret2
    exact ⟨rfl, M.below⟩

set_option maxRecDepth 100000 in
set_option maxHeartbeats 1000000 in
theorem implCount_any (n k : Int) (t u : Nat → Nat → Nat) (w : World) (ht : Byt2 t) (hu : Byt2 u) : Calls Try.prog 16 #[.agg (sqs n t), .agg (sqs k u)] w (TwoInts (cntRes n t k u) w) := by
  have M := Mm.start no w
  have H1 := fun w1 => isSquare_any n t w1 ht
  have H2 := fun w1 => isSquare_any k u w1 hu
  cases e1 : isSq n t with
  | false =>
    simp only [e1] at H1
    have hR : cntRes n t k u = (0, 1) := by unfold cntRes; rw [if_neg (by rw [e1]; simp)]
    rw [hR]
    clear hR e1
    go_enter Try.func16, Try.ntmps16
    go_wp2_with (first | ((with_reducible apply wpM_box' M 30 (sqs n t)); rfl; exact ⟨rfl, rfl⟩; clear M; (try clear C); intro bq w9 h_bq M; have C := M.rules; simp only [List.forall_mem_cons, List.not_mem_nil, false_implies, implies_true, and_true, Ent.rules, true_and] at C) | ((with_reducible apply wpM_box' M 30 (sqs k u)); rfl; exact ⟨rfl, rfl⟩; clear M; (try clear C); intro br w9 h_br M; have C := M.rules; simp only [List.forall_mem_cons, List.not_mem_nil, false_implies, implies_true, and_true, Ent.rules, true_and] at C) | ((with_reducible apply wpM_lda' M 1 30 0 (sqs n t)); rfl; rfl; rfl; exact ⟨rfl, inf_sqs.trans (congrArg some (sqs_size ..).symm), _, und_sqs, rfl⟩; exact whole_of rfl) | (go_at_call 58; ((with_reducible refine (H1 _).mono ?_); rintro e w1 ⟨rfl, hb⟩; have hsz := M.size; (try (have G9 := G.later hb; clear G; have G := G9; clear G9)); have M9 := M.later hb; clear M; (try clear C); have M := M9; clear M9; have C := M.rules; simp only [List.forall_mem_cons, List.not_mem_nil, false_implies, implies_true, and_true, Ent.rules, true_and] at C)))
    go_ret2
    exact ⟨rfl, M.below⟩
  | true =>
    cases e2 : isSq k u with
    | false =>
      simp only [e1] at H1
      simp only [e2] at H2
      have hR : cntRes n t k u = (0, 1) := by unfold cntRes; rw [if_neg (by rw [e2]; simp)]
      rw [hR]
      clear hR e1 e2
      go_enter Try.func16, Try.ntmps16
      go_wp2_with (first | ((with_reducible apply wpM_box' M 30 (sqs n t)); rfl; exact ⟨rfl, rfl⟩; clear M; (try clear C); intro bq w9 h_bq M; have C := M.rules; simp only [List.forall_mem_cons, List.not_mem_nil, false_implies, implies_true, and_true, Ent.rules, true_and] at C) | ((with_reducible apply wpM_box' M 30 (sqs k u)); rfl; exact ⟨rfl, rfl⟩; clear M; (try clear C); intro br w9 h_br M; have C := M.rules; simp only [List.forall_mem_cons, List.not_mem_nil, false_implies, implies_true, and_true, Ent.rules, true_and] at C) | ((with_reducible apply wpM_lda' M 1 30 0 (sqs n t)); rfl; rfl; rfl; exact ⟨rfl, inf_sqs.trans (congrArg some (sqs_size ..).symm), _, und_sqs, rfl⟩; exact whole_of rfl) | ((with_reducible apply wpM_lda' M 0 30 0 (sqs k u)); rfl; rfl; rfl; exact ⟨rfl, inf_sqs.trans (congrArg some (sqs_size ..).symm), _, und_sqs, rfl⟩; exact whole_of rfl) | (go_at_call 58; ((with_reducible refine (H1 _).mono ?_); rintro e w1 ⟨rfl, hb⟩; have hsz := M.size; (try (have G9 := G.later hb; clear G; have G := G9; clear G9)); have M9 := M.later hb; clear M; (try clear C); have M := M9; clear M9; have C := M.rules; simp only [List.forall_mem_cons, List.not_mem_nil, false_implies, implies_true, and_true, Ent.rules, true_and] at C)) | (go_at_call 58; ((with_reducible refine (H2 _).mono ?_); rintro e w1 ⟨rfl, hb⟩; have hsz := M.size; (try (have G9 := G.later hb; clear G; have G := G9; clear G9)); have M9 := M.later hb; clear M; (try clear C); have M := M9; clear M9; have C := M.rules; simp only [List.forall_mem_cons, List.not_mem_nil, false_implies, implies_true, and_true, Ent.rules, true_and] at C)))
      go_ret2
      exact ⟨rfl, M.below⟩
    | true =>
      simp only [e1] at H1
      simp only [e2] at H2
      have hR : cntRes n t k u = (((istAll n t k u).length : Int), 0) := by unfold cntRes; rw [if_pos ⟨e1, e2⟩]
      rw [hR]
      clear hR
      have sq1 := isSq_true.1 e1
      have sq2 := isSq_true.1 e2
      clear e1 e2 ht hu
      obtain ⟨N, rfl⟩ : ∃ N : Nat, n = N := ⟨n.toNat, by have := sq1.lo; omega⟩
      obtain ⟨K, rfl⟩ : ∃ K : Nat, k = K := ⟨k.toNat, by have := sq2.lo; omega⟩
      have H3 := fun w1 => isotopisms_any N K t u w1 sq1 sq2
      rw [istAll_nat]
      generalize (if N = K then ists N t u else []) = L at H3
      clear sq1 sq2
      go_enter Try.func16, Try.ntmps16
      go_wp2_with (first | ((with_reducible apply wpM_box' M 30 (sqs (N : Int) t)); rfl; exact ⟨rfl, rfl⟩; clear M; (try clear C); intro bq w9 h_bq M; have C := M.rules; simp only [List.forall_mem_cons, List.not_mem_nil, false_implies, implies_true, and_true, Ent.rules, true_and] at C) | ((with_reducible apply wpM_box' M 30 (sqs (K : Int) u)); rfl; exact ⟨rfl, rfl⟩; clear M; (try clear C); intro br w9 h_br M; have C := M.rules; simp only [List.forall_mem_cons, List.not_mem_nil, false_implies, implies_true, and_true, Ent.rules, true_and] at C) | ((with_reducible apply wpM_lda' M 1 30 0 (sqs (N : Int) t)); rfl; rfl; rfl; exact ⟨rfl, inf_sqs.trans (congrArg some (sqs_size ..).symm), _, und_sqs, rfl⟩; exact whole_of rfl) | ((with_reducible apply wpM_lda' M 0 30 0 (sqs (K : Int) u)); rfl; rfl; rfl; exact ⟨rfl, inf_sqs.trans (congrArg some (sqs_size ..).symm), _, und_sqs, rfl⟩; exact whole_of rfl) | (go_at_call 58; ((with_reducible refine (H1 _).mono ?_); rintro e w1 ⟨rfl, hb⟩; have hsz := M.size; (try (have G9 := G.later hb; clear G; have G := G9; clear G9)); have M9 := M.later hb; clear M; (try clear C); have M := M9; clear M9; have C := M.rules; simp only [List.forall_mem_cons, List.not_mem_nil, false_implies, implies_true, and_true, Ent.rules, true_and] at C)) | (go_at_call 58; ((with_reducible refine (H2 _).mono ?_); rintro e w1 ⟨rfl, hb⟩; have hsz := M.size; (try (have G9 := G.later hb; clear G; have G := G9; clear G9)); have M9 := M.later hb; clear M; (try clear C); have M := M9; clear M9; have C := M.rules; simp only [List.forall_mem_cons, List.not_mem_nil, false_implies, implies_true, and_true, Ent.rules, true_and] at C)) | (go_at_call 59; ((with_reducible refine (H3 _).mono ?_); rintro e w1 ⟨v, rfl, hO, hb⟩; have hsz := M.size; have M9 := M.later hb; clear M; (try clear C); have M := M9; clear M9; (try simp only [List.set_cons_zero, List.set_cons_succ] at M); have C := M.rules; simp only [List.forall_mem_cons, List.not_mem_nil, false_implies, implies_true, and_true, Ent.rules, true_and] at C; clear hb; obtain ⟨pp, cap, rfl⟩ := own_form hO)))
      go_ret2
      exact ⟨rfl, M.below⟩
end Go.Proofs.Ytjdfjlgjpjgnhaa
