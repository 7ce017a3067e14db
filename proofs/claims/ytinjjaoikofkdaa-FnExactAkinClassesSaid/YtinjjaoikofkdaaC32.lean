/- Whether two loops are alike, for the program and for the reference; lists of squares: contracts. -/
import Derived.Test.YtinjjaoikofkdaaC30
import Derived.Test.YtinjjaoikofkdaaC31
import Derived.Test.YtinjjaoikofkdaaC8
import Derived.Test.YtinjjaoikofkdaaK11
namespace Go.Proofs.Ytinjjaoikofkdaa
set_option linter.unusedSimpArgs false
set_option linter.unusedVariables false
open Go Go.RowKit

set_option maxRecDepth 100000 in
set_option maxHeartbeats 1000000 in
theorem alike_any (N K : Nat) (t u : Nat → Nat → Nat) (w : World) (ht : Byt2 t) (hu : Byt2 u) (e1 : isSq (N : Int) t = true) (e2 : isSq (K : Int) u = true) :
    Calls Try.prog 54 #[.agg (sqs (N : Int) t), .agg (sqs (K : Int) u)] w fun e w' => e = .returned (.bool ((isoRes (isoAll N K t u)).2 == 0)) ∧ Below w.heap.size w w' := by
  have M := Mm.start no w
  have H := fun w1 => implIso_any N K t u w1 ht hu e1 e2
  generalize isoRes (isoAll N K t u) = c at H ⊢
  obtain ⟨f, d⟩ := c
  clear ht hu e1 e2
  go_enter Try.func54, Try.ntmps54
  go_wp2_with (first | ((with_reducible apply wpM_box' M 43 (sqs (N : Int) t)); rfl; exact ⟨rfl, rfl⟩; clear M; (try clear C); intro bq w9 h_bq M; have C := M.ruleAll; simp only [Go.Proofs.Ytinjjaoikofkdaa.ruleAll] at C) | ((with_reducible apply wpM_box' M 43 (sqs (K : Int) u)); rfl; exact ⟨rfl, rfl⟩; clear M; (try clear C); intro br w9 h_br M; have C := M.ruleAll; simp only [Go.Proofs.Ytinjjaoikofkdaa.ruleAll] at C) | ((with_reducible apply wpM_lda' M 1 43 0 (sqs (N : Int) t)); rfl; rfl; rfl; exact ⟨rfl, inf_sqs.trans (congrArg some (sqs_size ..).symm), _, und_sqs, rfl⟩; exact whole_of rfl) | ((with_reducible apply wpM_lda' M 0 43 0 (sqs (K : Int) u)); rfl; rfl; rfl; exact ⟨rfl, inf_sqs.trans (congrArg some (sqs_size ..).symm), _, und_sqs, rfl⟩; exact whole_of rfl) | (go_at_call 74; ((with_reducible refine (H _).mono ?_); rintro e w1 ⟨rfl, hb⟩; have hsz := M.size; (try (have G9 := G.later hb; clear G; have G := G9; clear G9)); have M9 := M.later hb; clear M; (try clear C); have M := M9; clear M9; have C := M.ruleAll; simp only [Go.Proofs.Ytinjjaoikofkdaa.ruleAll] at C)) | ((with_reducible apply wpM_alloc' M 70 (bys fun _ => 0)); rfl; exact ⟨rfl, _, zero_plc _, rfl⟩; clear M; (try clear C); intro b5 w9 h_b5 M; have C := M.ruleAll; simp only [Go.Proofs.Ytinjjaoikofkdaa.ruleAll] at C) | ((with_reducible apply wpM_sta' M 0 70 (bys f)); rfl; rfl; rfl; rfl; (first | exact .inl (by assumption) | exact .inr rfl | exact .inr (by assumption)); exact ⟨rfl, inf_plc.trans (congrArg some (bys_size ..).symm), flat_bys _⟩; (simp only [entCells, List.getElem?_cons_zero, List.getElem?_cons_succ, bys_size, bys_size]); clear M; (try clear C); intro w9 M; simp only [List.set_cons_zero, List.set_cons_succ, entBlk, entT, List.getElem?_cons_zero, List.getElem?_cons_succ] at M; have C := M.ruleAll; simp only [Go.Proofs.Ytinjjaoikofkdaa.ruleAll] at C))
  go_ret
  exact ⟨rfl, M.below⟩

set_option maxRecDepth 100000 in
set_option maxHeartbeats 1000000 in
theorem l11Alike_any (N K : Nat) (t u : Nat → Nat → Nat) (w : World) (ht : Byt2 t) (hu : Byt2 u) (e1 : isSq (N : Int) t = true) (e2 : isSq (K : Int) u = true) :
    Calls Try.prog 69 #[.agg (sqs (N : Int) t), .agg (sqs (K : Int) u)] w fun e w' => e = .returned (.tuple #[.agg (bys (isoRes (isoAll N K t u)).1), .bool ((isoRes (isoAll N K t u)).2 == 0)]) ∧ Below w.heap.size w w' := by
  have M := Mm.start no w
  have so1 := sqs_order (N : Int) t
  have so2 := sqs_order (K : Int) u
  have hbd := build_plc
  by_cases hNK : N = K
  · subst hNK
    have H := fun w1 => specIso_any N t u w1 ht hu e1 e2
    generalize isoRes (isoAll N N t u) = c at H ⊢
    obtain ⟨f, d⟩ := c
    clear ht hu e1 e2
    have hnn : ((N : Int) == (N : Int)) = true := by simp
    go_enter Try.func69, Try.ntmps69
    go_wp2_with (first | ((with_reducible apply wpM_box' M 43 (sqs (N : Int) t)); rfl; exact ⟨rfl, rfl⟩; clear M; (try clear C); intro bq w9 h_bq M; have C := M.ruleAll; simp only [Go.Proofs.Ytinjjaoikofkdaa.ruleAll] at C) | ((with_reducible apply wpM_box' M 43 (sqs (N : Int) u)); rfl; exact ⟨rfl, rfl⟩; clear M; (try clear C); intro br w9 h_br M; have C := M.ruleAll; simp only [Go.Proofs.Ytinjjaoikofkdaa.ruleAll] at C) | ((with_reducible apply wpM_lda' M 2 43 0 (sqs (N : Int) t)); rfl; rfl; rfl; exact ⟨rfl, inf_sqs.trans (congrArg some (sqs_size ..).symm), _, und_sqs, rfl⟩; exact whole_of rfl) | ((with_reducible apply wpM_lda' M 1 43 0 (sqs (N : Int) u)); rfl; rfl; rfl; exact ⟨rfl, inf_sqs.trans (congrArg some (sqs_size ..).symm), _, und_sqs, rfl⟩; exact whole_of rfl) | (go_at_call 86; ((with_reducible refine (H _).mono ?_); rintro e w1 ⟨rfl, hb⟩; have hsz := M.size; (try (have G9 := G.later hb; clear G; have G := G9; clear G9)); have M9 := M.later hb; clear M; (try clear C); have M := M9; clear M9; have C := M.ruleAll; simp only [Go.Proofs.Ytinjjaoikofkdaa.ruleAll] at C)) | ((with_reducible apply wpM_alloc' M 70 (bys fun _ => 0)); rfl; exact ⟨rfl, _, zero_plc _, rfl⟩; clear M; (try clear C); intro b4 w9 h_b4 M; have C := M.ruleAll; simp only [Go.Proofs.Ytinjjaoikofkdaa.ruleAll] at C) | ((with_reducible apply wpM_sta' M 0 70 (bys f)); rfl; rfl; rfl; rfl; (first | exact .inl (by assumption) | exact .inr rfl | exact .inr (by assumption)); exact ⟨rfl, inf_plc.trans (congrArg some (bys_size ..).symm), flat_bys _⟩; (simp only [entCells, List.getElem?_cons_zero, List.getElem?_cons_succ, bys_size, bys_size]); clear M; (try clear C); intro w9 M; simp only [List.set_cons_zero, List.set_cons_succ, entBlk, entT, List.getElem?_cons_zero, List.getElem?_cons_succ] at M; have C := M.ruleAll; simp only [Go.Proofs.Ytinjjaoikofkdaa.ruleAll] at C) | ((with_reducible apply wpM_lda' M 0 70 0 (bys f)); rfl; rfl; rfl; exact ⟨rfl, inf_plc.trans (congrArg some (bys_size ..).symm), _, und_plc, rfl⟩; exact whole_of rfl) | ((with_reducible apply wpM_sta' M 1 70 (bys f)); rfl; rfl; rfl; rfl; (first | exact .inl (by assumption) | exact .inr rfl | exact .inr (by assumption)); exact ⟨rfl, inf_plc.trans (congrArg some (bys_size ..).symm), flat_bys _⟩; (simp only [entCells, List.getElem?_cons_zero, List.getElem?_cons_succ, bys_size, bys_size]); clear M; (try clear C); intro w9 M; simp only [List.set_cons_zero, List.set_cons_succ, entBlk, entT, List.getElem?_cons_zero, List.getElem?_cons_succ] at M; have C := M.ruleAll; simp only [Go.Proofs.Ytinjjaoikofkdaa.ruleAll] at C))
    refine bodyPost_ret (v := .tuple #[.agg (bys f), .bool (d == 0)]) (by exact results_plc rfl _ _ _ _ (bys f) _ rfl und_plc rfl (inf_plc.trans (congrArg some (bys_size _).symm)) (cells_of_blk0 (M.box 1 rfl)) _ rfl) rfl ?_
    exact ⟨rfl, M.below⟩
  · have hi : isoAll N K t u = [] := if_neg hNK
    rw [hi]
    have hnn : ((N : Int) == (K : Int)) = false := beq_eq_false_iff_ne.2 (by omega)
    clear hi ht hu e1 e2
    go_enter Try.func69, Try.ntmps69
    go_wp2_with (first | ((with_reducible apply wpM_box' M 43 (sqs (N : Int) t)); rfl; exact ⟨rfl, rfl⟩; clear M; (try clear C); intro bq w9 h_bq M; have C := M.ruleAll; simp only [Go.Proofs.Ytinjjaoikofkdaa.ruleAll] at C) | ((with_reducible apply wpM_box' M 43 (sqs (K : Int) u)); rfl; exact ⟨rfl, rfl⟩; clear M; (try clear C); intro br w9 h_br M; have C := M.ruleAll; simp only [Go.Proofs.Ytinjjaoikofkdaa.ruleAll] at C) | ((with_reducible apply wpM_alloc' M 70 (bys fun _ => 0)); rfl; exact ⟨rfl, _, zero_plc _, rfl⟩; clear M; (try clear C); intro b4 w9 h_b4 M; have C := M.ruleAll; simp only [Go.Proofs.Ytinjjaoikofkdaa.ruleAll] at C) | (refine wpList_build 70 _ rfl rfl [] rfl _ (build_plc _) ?_) | ((with_reducible apply wpM_sta' M 0 70 (bys fun _ => 0)); rfl; rfl; rfl; rfl; (first | exact .inl (by assumption) | exact .inr rfl | exact .inr (by assumption)); exact ⟨rfl, inf_plc.trans (congrArg some (bys_size ..).symm), flat_bys _⟩; (simp only [entCells, List.getElem?_cons_zero, List.getElem?_cons_succ, bys_size, bys_size]); clear M; (try clear C); intro w9 M; simp only [List.set_cons_zero, List.set_cons_succ, entBlk, entT, List.getElem?_cons_zero, List.getElem?_cons_succ] at M; have C := M.ruleAll; simp only [Go.Proofs.Ytinjjaoikofkdaa.ruleAll] at C))
    refine bodyPost_ret (v := .tuple #[.agg (bys fun _ => 0), .bool false]) (by exact results_plc rfl _ _ _ _ (bys fun _ => 0) _ rfl und_plc rfl (inf_plc.trans (congrArg some (bys_size _).symm)) (cells_of_blk0 (M.box 0 rfl)) _ rfl) rfl ?_
    exact ⟨rfl, M.below⟩
end Go.Proofs.Ytinjjaoikofkdaa

/- Lists of squares: contracts. -/
namespace Go.Proofs.Ytinjjaoikofkdaa
set_option linter.unusedSimpArgs false
set_option linter.unusedVariables false
open Go Go.RowKit

theorem sqC_size (q : Sqr) : (sqC q).size = 101 := sqs_size ..
theorem sq_cells {w : World} {g : Nat} {l : List Sqr} (h : rds w g (l.length * 101) (fun j => (slC l).getD j undef)) {k : Nat} (hk : k < l.length) : ∀ j v, (sqs l[k].n l[k].t)[j]? = some v → w.cell? ⟨g, k * 101 + j, none⟩ = some v := row_cells sqC_size h hk
/-- Whether a square is a loop. -/
noncomputable def lpB (q : Sqr) : Bool := isLp q.n q.t

set_option maxRecDepth 100000 in
set_option maxHeartbeats 1000000 in
theorem areLoops_any (l : List Sqr) (hlen : l.length ≤ 10000000) (hby : ∀ q ∈ l, Byt2 q.t) (w : World) (g cap : Nat) (hr : rds w g (l.length * 101) (fun j => (slC l).getD j undef)) :
    Calls Try.prog 59 #[.slice (some ⟨g, 0, none⟩) l.length cap] w fun e w' => e = .returned (.bool (l.all lpB)) ∧ Below w.heap.size w w' := by
  have M := (Mm.start no w).add (x := .rd g (l.length * 101) (fun j => (slC l).getD j undef)) hr fun _ h => by cases h
  have HBY := Hid2.mk hby
  clear hr hby
  have C := M.ruleAll; simp only [Go.Proofs.Ytinjjaoikofkdaa.ruleAll] at C
  go_enter Try.func59, Try.ntmps59
  go_wp2
  go_loopw [7, 4] (fun i _ wr => ∃ k : Nat, k ≤ l.length ∧ i = .int .i64 (k : Int) ∧ (l.take k).all lpB = true ∧ Mm no w wr [.rd g (l.length * 101) (fun j => (slC l).getD j undef)]) (fun i _ _ => l.length - (intOf i).toNat)
  case atStart => exact ⟨0, by omega, rfl, rfl, M⟩
  case round =>
    obtain ⟨k, hk, rfl, hl, M9⟩ := hrel
    clear M; (try clear C)
    have M := M9
    clear M9
    have C := M.ruleAll; simp only [Go.Proofs.Ytinjjaoikofkdaa.ruleAll] at C
    have HL := Hid2.mk hl
    clear hl
    by_cases hlt : k < l.length
    · have hlt' : (k : Int) < (l.length : Int) := by omega
      have hall := all_take lpB l hlt
      have hfail := @all_fails _ lpB l k hlt
      have hB := HBY.out _ (List.getElem_mem hlt)
      obtain ⟨q, hq⟩ : ∃ q, q = l[k] := ⟨_, rfl⟩
      have hcells : ∀ {w3}, rds w3 g (l.length * 101) (fun j => (slC l).getD j undef) → ∀ j v, (sqs q.n q.t)[j]? = some v → w3.cell? ⟨g, k * 101 + j, none⟩ = some v := fun h => by rw [hq]; exact sq_cells h hlt
      rw [← hq] at hall hfail hB
      have H := fun w1 => isLoop_any q.n q.t w1 hB
      have HCE := Hid2.mk @hcells
      have hlp : lpB q = isLp q.n q.t := rfl
      rw [← hlp] at H
      clear hq hB hcells hlp
      cases hv : lpB q with
      | true =>
        simp only [hv] at H
        have HST := Hid2.mk (show (l.take (k + 1)).all lpB = true by rw [hall, HL.out, hv]; rfl)
        clear hall hfail hv
        go_wp2_with (first | (refine wpList_load_part rfl 43 _ rfl (g) (k * 101) rfl (sqs q.n q.t) _ und_sqs rfl inf_sqs (HCE.out (by first | exact M.rd 0 rfl | exact M.rd 1 rfl)) ?_) | ((with_reducible apply wpM_alloc' M 43 (sqs 0 fun _ _ => 0)); rfl; exact ⟨rfl, _, zero_sqs _, rfl⟩; clear M; (try clear C); intro b4 w9 h_b4 M; have C := M.ruleAll; simp only [Go.Proofs.Ytinjjaoikofkdaa.ruleAll] at C) | ((with_reducible apply wpM_sta' M 0 43 (sqs q.n q.t)); rfl; rfl; rfl; rfl; (first | exact .inl (by assumption) | exact .inr rfl | exact .inr (by assumption)); exact ⟨rfl, inf_sqs.trans (congrArg some (sqs_size ..).symm), flat_sqs _ _⟩; (simp only [entCells, List.getElem?_cons_zero, List.getElem?_cons_succ, sqs_size, sqs_size]); clear M; (try clear C); intro w9 M; simp only [List.set_cons_zero, List.set_cons_succ, entBlk, entT, List.getElem?_cons_zero, List.getElem?_cons_succ] at M; have C := M.ruleAll; simp only [Go.Proofs.Ytinjjaoikofkdaa.ruleAll] at C) | ((with_reducible apply wpM_lda' M 0 43 0 (sqs q.n q.t)); rfl; rfl; rfl; exact ⟨rfl, inf_sqs.trans (congrArg some (sqs_size ..).symm), _, und_sqs, rfl⟩; exact whole_of rfl) | (go_at_call 48; ((with_reducible refine (H _).mono ?_); rintro e w1 ⟨rfl, hb⟩; have hsz := M.size; (try (have G9 := G.later hb; clear G; have G := G9; clear G9)); have M9 := M.later hb; clear M; (try clear C); have M := M9; clear M9; have C := M.ruleAll; simp only [Go.Proofs.Ytinjjaoikofkdaa.ruleAll] at C)))
        go_roundw
        case rel => exact ⟨k + 1, by omega, by go_num, HST.out, M.drop 0⟩
        case measure => simp [intOf]; omega
      | false =>
        simp only [hv] at H
        have HST := Hid2.mk (hfail hv)
        clear hall hfail hv
        go_wp2_with (first | (refine wpList_load_part rfl 43 _ rfl (g) (k * 101) rfl (sqs q.n q.t) _ und_sqs rfl inf_sqs (HCE.out (by first | exact M.rd 0 rfl | exact M.rd 1 rfl)) ?_) | ((with_reducible apply wpM_alloc' M 43 (sqs 0 fun _ _ => 0)); rfl; exact ⟨rfl, _, zero_sqs _, rfl⟩; clear M; (try clear C); intro b4 w9 h_b4 M; have C := M.ruleAll; simp only [Go.Proofs.Ytinjjaoikofkdaa.ruleAll] at C) | ((with_reducible apply wpM_sta' M 0 43 (sqs q.n q.t)); rfl; rfl; rfl; rfl; (first | exact .inl (by assumption) | exact .inr rfl | exact .inr (by assumption)); exact ⟨rfl, inf_sqs.trans (congrArg some (sqs_size ..).symm), flat_sqs _ _⟩; (simp only [entCells, List.getElem?_cons_zero, List.getElem?_cons_succ, sqs_size, sqs_size]); clear M; (try clear C); intro w9 M; simp only [List.set_cons_zero, List.set_cons_succ, entBlk, entT, List.getElem?_cons_zero, List.getElem?_cons_succ] at M; have C := M.ruleAll; simp only [Go.Proofs.Ytinjjaoikofkdaa.ruleAll] at C) | ((with_reducible apply wpM_lda' M 0 43 0 (sqs q.n q.t)); rfl; rfl; rfl; exact ⟨rfl, inf_sqs.trans (congrArg some (sqs_size ..).symm), _, und_sqs, rfl⟩; exact whole_of rfl) | (go_at_call 48; ((with_reducible refine (H _).mono ?_); rintro e w1 ⟨rfl, hb⟩; have hsz := M.size; (try (have G9 := G.later hb; clear G; have G := G9; clear G9)); have M9 := M.later hb; clear M; (try clear C); have M := M9; clear M9; have C := M.ruleAll; simp only [Go.Proofs.Ytinjjaoikofkdaa.ruleAll] at C)))
        go_ret
        exact ⟨by rw [HST.out]; rfl, M.below⟩
    · obtain rfl : k = l.length := by omega
      have hge : ¬ ((l.length : Int) < (l.length : Int)) := by omega
      go_wp2
      go_ret
      exact ⟨by rw [← HL.out, List.take_length]; rfl, M.below⟩

set_option maxRecDepth 100000 in
set_option maxHeartbeats 400000 in
theorem isLarge_any (q : Sqr) (w : World) : Calls Try.prog 49 #[.agg (sqs q.n q.t)] w fun e w' => e = .returned (.bool (decide (7 < q.n))) ∧ Below w.heap.size w w' := by
  have M := Mm.start no w
  have so := sqs_order q.n q.t
  go_enter Try.func49, Try.ntmps49
  go_wp2_with (first | ((with_reducible apply wpM_box' M 43 (sqs q.n q.t)); rfl; exact ⟨rfl, rfl⟩; clear M; (try clear C); intro bq w9 h_bq M; have C := M.ruleAll; simp only [Go.Proofs.Ytinjjaoikofkdaa.ruleAll] at C))
  go_ret
  exact ⟨rfl, M.below⟩
end Go.Proofs.Ytinjjaoikofkdaa

/- Places in lists of squares and of names: contracts. -/
namespace Go.Proofs.Ytinjjaoikofkdaa
set_option linter.unusedSimpArgs false
set_option linter.unusedVariables false
open Go Go.RowKit

set_option maxRecDepth 100000 in
set_option maxHeartbeats 1000000 in
theorem indexFunc_any (l : List Sqr) (hlen : l.length ≤ 10000000) (w : World) (g cap : Nat) (hr : rds w g (l.length * 101) (fun j => (slC l).getD j undef)) (f : Nat) (cp : Array Value) (p : Sqr → Bool)
    (hen : ∀ (args : Array Value) (w : World), (callFunc f args).run Try.prog w = .ok (.enter f args) w)
    (hf : ∀ q ∈ l, ∀ w1, Below w.heap.size w w1 → Calls Try.prog f (#[.agg (sqs q.n q.t)] ++ cp) w1 fun e w' => e = .returned (.bool (p q)) ∧ Below w1.heap.size w1 w') :
    Calls Try.prog 73 #[.slice (some ⟨g, 0, none⟩) l.length cap, .func (.func f) #[] cp] w fun e w' => e = .returned (.int .i64 (placeOf p l)) ∧ Below w.heap.size w w' := by
  have M := (Mm.start no w).add (x := .rd g (l.length * 101) (fun j => (slC l).getD j undef)) hr fun _ h => by cases h
  have HF := Hid2.mk hf
  clear hr hf
  have C := M.ruleAll; simp only [Go.Proofs.Ytinjjaoikofkdaa.ruleAll] at C
  go_enter Try.func73, Try.ntmps73
  go_wp2
  go_loopw [8, 5] (fun i _ wr => ∃ k : Nat, k ≤ l.length ∧ i = .int .i64 (k : Int) ∧ (∀ j (h : j < l.length), j < k → p l[j] = false) ∧ Mm no w wr [.rd g (l.length * 101) (fun j => (slC l).getD j undef)]) (fun i _ _ => l.length - (intOf i).toNat)
  case atStart => exact ⟨0, by omega, rfl, fun j _ h => by omega, M⟩
  case round =>
    obtain ⟨k, hk, rfl, hl, M9⟩ := hrel
    clear M; (try clear C)
    have M := M9
    clear M9
    have C := M.ruleAll; simp only [Go.Proofs.Ytinjjaoikofkdaa.ruleAll] at C
    have HL := Hid2.mk hl
    clear hl
    by_cases hlt : k < l.length
    · have hlt' : (k : Int) < (l.length : Int) := by omega
      have hfound := fun h => @placeOf_some _ p l k hlt (fun j hj => HL.out j (Nat.lt_trans hj hlt) hj) h
      have hnext : p l[k] = false → ∀ j (h : j < l.length), j < k + 1 → p l[j] = false := fun h j hj h1 => by
        rcases Nat.lt_or_eq_of_le (Nat.lt_succ_iff.1 h1) with h2 | rfl
        · exact HL.out j hj h2
        · exact h
      have hF := HF.out _ (List.getElem_mem hlt)
      obtain ⟨q, hq⟩ : ∃ q, q = l[k] := ⟨_, rfl⟩
      have hcells : ∀ {w3}, rds w3 g (l.length * 101) (fun j => (slC l).getD j undef) → ∀ j v, (sqs q.n q.t)[j]? = some v → w3.cell? ⟨g, k * 101 + j, none⟩ = some v := fun h => by rw [hq]; exact sq_cells h hlt
      rw [← hq] at hfound hnext hF
      have HCE := Hid2.mk @hcells
      clear hq hcells
      cases hv : p q with
      | false =>
        simp only [hv] at hF
        have HST := Hid2.mk (hnext hv)
        clear hfound hnext hv
        go_wp2_with (first | (refine wpList_load_part rfl 43 _ rfl (g) (k * 101) rfl (sqs q.n q.t) _ und_sqs rfl inf_sqs (HCE.out (M.rd 0 rfl)) ?_))
        refine (hF _ M.below).mono ?_
        rintro e w1 ⟨rfl, hb⟩
        have M9 := M.later hb
        clear M; (try clear C)
        have M := M9
        clear M9
        have C := M.ruleAll; simp only [Go.Proofs.Ytinjjaoikofkdaa.ruleAll] at C
        go_wp2
        go_roundw
        case rel => exact ⟨k + 1, by omega, by go_num, HST.out, M⟩
        case measure => simp [intOf]; omega
      | true =>
        simp only [hv] at hF
        have HST := Hid2.mk (hfound hv)
        clear hfound hnext hv
        go_wp2_with (first | (refine wpList_load_part rfl 43 _ rfl (g) (k * 101) rfl (sqs q.n q.t) _ und_sqs rfl inf_sqs (HCE.out (M.rd 0 rfl)) ?_))
        refine (hF _ M.below).mono ?_
        rintro e w1 ⟨rfl, hb⟩
        have M9 := M.later hb
        clear M; (try clear C)
        have M := M9
        clear M9
        have C := M.ruleAll; simp only [Go.Proofs.Ytinjjaoikofkdaa.ruleAll] at C
        go_wp2
        go_ret
        exact ⟨by rw [HST.out]; rfl, M.below⟩
    · obtain rfl : k = l.length := by omega
      have hge : ¬ ((l.length : Int) < (l.length : Int)) := by omega
      go_wp2
      go_ret
      exact ⟨by rw [placeOf_none fun j hj => HL.out j hj hj]; rfl, M.below⟩

theorem placeOf_sign {α : Type} (p : α → Bool) (l : List α) : decide (0 ≤ placeOf p l) = l.any p := by
  unfold placeOf
  cases h : l.findIdx? p with
  | none =>
    rw [List.findIdx?_eq_none_iff] at h
    rw [show l.any p = false from List.any_eq_false.2 fun x hx => by rw [h x hx]; simp]
    rfl
  | some i =>
    obtain ⟨hi, h1, _⟩ := List.findIdx?_eq_some_iff_getElem.1 h
    rw [show l.any p = true from List.any_eq_true.2 ⟨l[i], List.getElem_mem hi, h1⟩]
    simp

set_option maxRecDepth 100000 in
set_option maxHeartbeats 400000 in
theorem containsFunc_any (l : List Sqr) (hlen : l.length ≤ 10000000) (w : World) (g cap : Nat) (hr : rds w g (l.length * 101) (fun j => (slC l).getD j undef)) (f : Nat) (cp : Array Value) (p : Sqr → Bool)
    (hen : ∀ (args : Array Value) (w : World), (callFunc f args).run Try.prog w = .ok (.enter f args) w)
    (hf : ∀ q ∈ l, ∀ w1, Below w.heap.size w w1 → Calls Try.prog f (#[.agg (sqs q.n q.t)] ++ cp) w1 fun e w' => e = .returned (.bool (p q)) ∧ Below w1.heap.size w1 w') :
    Calls Try.prog 52 #[.slice (some ⟨g, 0, none⟩) l.length cap, .func (.func f) #[] cp] w fun e w' => e = .returned (.bool (l.any p)) ∧ Below w.heap.size w w' := by
  have M := Mm.start no w
  have C := M.rules
  have H := indexFunc_any l hlen w g cap hr f cp p hen hf
  rw [← placeOf_sign]
  generalize placeOf p l = r at H ⊢
  clear hf hr
  go_enter Try.func52, Try.ntmps52
  go_wp2_with (first | (go_at_call 73; ((with_reducible refine (H).mono ?_); rintro e w1 ⟨rfl, hb⟩; have hsz := M.size; (try (have G9 := G.later hb; clear G; have G := G9; clear G9)); have M9 := M.later hb; clear M; (try clear C); have M := M9; clear M9; have C := M.ruleAll; simp only [Go.Proofs.Ytinjjaoikofkdaa.ruleAll] at C)))
  go_ret
  exact ⟨rfl, M.below⟩

/-- A row of names. -/
def nmF (l : List ByteArray) (j : Nat) : Value := .string (l.getD j .empty)
theorem nmF_at {l : List ByteArray} {k : Nat} (h : k < l.length) : nmF l k = .string l[k] := by unfold nmF; rw [List.getD_eq_getElem?_getD, List.getElem?_eq_getElem h]; rfl

set_option maxRecDepth 100000 in
set_option maxHeartbeats 1000000 in
theorem index_any (l : List ByteArray) (m : Nat) (hm : m ≤ l.length) (hlen : l.length ≤ 10000000) (s : ByteArray) (w : World) (g cap : Nat) (hr : rds w g l.length (nmF l)) :
    Calls Try.prog 66 #[.slice (some ⟨g, 0, none⟩) m cap, .string s] w fun e w' => e = .returned (.int .i64 (placeOf (fun x => s.toList == x.toList) (l.take m))) ∧ Below w.heap.size w w' := by
  have M := (Mm.start no w).add (x := .rd g l.length (nmF l)) hr fun _ h => by cases h
  clear hr
  have C := M.ruleAll; simp only [Go.Proofs.Ytinjjaoikofkdaa.ruleAll] at C
  go_enter Try.func66, Try.ntmps66
  go_wp2
  go_loopw [8, 5] (fun i _ wr => ∃ k : Nat, k ≤ m ∧ i = .int .i64 (k : Int) ∧ (∀ j (h : j < (l.take m).length), j < k → (s.toList == (l.take m)[j].toList) = false) ∧ Mm no w wr [.rd g l.length (nmF l)]) (fun i _ _ => m - (intOf i).toNat)
  case atStart => exact ⟨0, by omega, rfl, fun j _ h => by omega, M⟩
  case round =>
    obtain ⟨k, hk, rfl, hl, M9⟩ := hrel
    clear M; (try clear C)
    have M := M9
    clear M9
    have hml : (l.take m).length = m := by rw [List.length_take]; omega
    have HL := Hid2.mk hl
    clear hl
    by_cases hlt : k < m
    · have hlt' : (k : Int) < (m : Int) := by omega
      have hkl : k < (l.take m).length := by omega
      have hfound := fun h => @placeOf_some _ (fun x => s.toList == x.toList) (l.take m) k hkl (fun j hj => HL.out j (Nat.lt_trans hj hkl) hj) h
      have hnext : (s.toList == (l.take m)[k].toList) = false → ∀ j (h : j < (l.take m).length), j < k + 1 → (s.toList == (l.take m)[j].toList) = false := fun h j hj h1 => by
        rcases Nat.lt_or_eq_of_le (Nat.lt_succ_iff.1 h1) with h2 | rfl
        · exact HL.out j hj h2
        · exact h
      have hx : nmF l k = .string (l.take m)[k] := by rw [nmF_at (by omega), List.getElem_take]
      obtain ⟨x, hxx⟩ : ∃ x, x = (l.take m)[k] := ⟨_, rfl⟩
      rw [← hxx] at hfound hnext hx
      have hc := (M.rd 0 rfl).at_ k (by omega)
      rw [hx] at hc
      have HX := Hid2.mk hxx
      clear hxx hx
      cases hv : (s.toList == x.toList) with
      | false =>
        have HST := Hid2.mk (hnext hv)
        clear hfound hnext
        go_wp2
        go_roundw
        case rel => exact ⟨k + 1, by omega, by go_num, HST.out, M⟩
        case measure => simp [intOf]; omega
      | true =>
        have HST := Hid2.mk (hfound hv)
        clear hfound hnext
        go_wp2
        go_ret
        exact ⟨by rw [HST.out]; rfl, M.below⟩
    · obtain rfl : k = m := by omega
      have hge : ¬ ((k : Int) < (k : Int)) := by omega
      go_wp2
      go_ret
      exact ⟨by rw [placeOf_none fun j hj => HL.out j hj (by omega)]; rfl, M.below⟩

set_option maxRecDepth 100000 in
set_option maxHeartbeats 400000 in
theorem contains_any (l : List ByteArray) (m : Nat) (hm : m ≤ l.length) (hlen : l.length ≤ 10000000) (s : ByteArray) (w : World) (g cap : Nat) (hr : rds w g l.length (nmF l)) :
    Calls Try.prog 51 #[.slice (some ⟨g, 0, none⟩) m cap, .string s] w fun e w' => e = .returned (.bool ((l.take m).any fun x => s.toList == x.toList)) ∧ Below w.heap.size w w' := by
  have M := Mm.start no w
  have C := M.rules
  have H := index_any l m hm hlen s w g cap hr
  rw [← placeOf_sign]
  generalize placeOf (fun x : ByteArray => s.toList == x.toList) (l.take m) = r at H ⊢
  clear hr
  go_enter Try.func51, Try.ntmps51
  go_wp2_with (first | (go_at_call 66; ((with_reducible refine (H).mono ?_); rintro e w1 ⟨rfl, hb⟩; have hsz := M.size; (try (have G9 := G.later hb; clear G; have G := G9; clear G9)); have M9 := M.later hb; clear M; (try clear C); have M := M9; clear M9; have C := M.ruleAll; simp only [Go.Proofs.Ytinjjaoikofkdaa.ruleAll] at C)))
  go_ret
  exact ⟨rfl, M.below⟩

/-- A book: its names and its loops. -/
def bkA (g1 c1 g2 c2 n m : Nat) : Array Value := #[.slice (some ⟨g1, 0, none⟩) n c1, .slice (some ⟨g2, 0, none⟩) m c2]
theorem bok_size (g1 c1 g2 c2 n m : Nat) : (bkA g1 c1 g2 c2 n m).size = 2 := rfl
theorem flat_bok (g1 c1 g2 c2 n m : Nat) : flat (bkA g1 c1 g2 c2 n m) := fun u hu => by
  simp only [bkA, List.mem_cons, List.not_mem_nil, or_false] at hu
  rcases hu with rfl | rfl <;> simp
theorem und_bok : Try.prog.underlying 29 = some (.struct (Try.prog.fieldsOf 29)) := by kernel_rfl
theorem inf_bok : (Try.prog.info? 29).map (·.size) = some 2 := by kernel_rfl

set_option maxRecDepth 100000 in
set_option maxHeartbeats 1000000 in
theorem l11Place_any (l : List ByteArray) (hlen : l.length ≤ 10000000) (s : ByteArray) (w : World) (g1 c1 g2 c2 m : Nat) (hr : rds w g1 l.length (nmF l)) :
    Calls Try.prog 44 #[.agg (bkA g1 c1 g2 c2 l.length m), .string s] w fun e w' => e = .returned (.int .i64 (placeOf (fun x => x.toList == s.toList) l)) ∧ Below w.heap.size w w' := by
  have M := (Mm.start no w).add (x := .rd g1 l.length (nmF l)) hr fun _ h => by cases h
  have k0 : (bkA g1 c1 g2 c2 l.length m)[0]? = some (.slice (some ⟨g1, 0, none⟩) l.length c1) := rfl
  clear hr
  have C := M.ruleAll; simp only [Go.Proofs.Ytinjjaoikofkdaa.ruleAll] at C
  go_enter Try.func44, Try.ntmps44
  go_wp2_with (first | ((with_reducible apply wpM_box' M 29 (bkA g1 c1 g2 c2 l.length m)); rfl; exact ⟨rfl, rfl⟩; clear M; (try clear C); intro bb w9 h_bb M; have C := M.ruleAll; simp only [Go.Proofs.Ytinjjaoikofkdaa.ruleAll] at C))
  go_loopw [5] (fun i wr => ∃ k : Nat, k ≤ l.length ∧ i = .int .i64 (k : Int) ∧ (∀ j (h : j < l.length), j < k → (l[j].toList == s.toList) = false) ∧ Mm no w wr [.box bb (bkA g1 c1 g2 c2 l.length m) 29, .rd g1 l.length (nmF l)]) (fun i _ => l.length - (intOf i).toNat)
  case atStart => exact ⟨0, by omega, rfl, fun j _ h => by omega, M⟩
  case round =>
    obtain ⟨k, hk, rfl, hl, M9⟩ := hrel
    clear M; (try clear C)
    have M := M9
    clear M9
    have C := M.ruleAll; simp only [Go.Proofs.Ytinjjaoikofkdaa.ruleAll] at C
    have HL := Hid2.mk hl
    clear hl
    by_cases hlt : k < l.length
    · have hlt' : (k : Int) < (l.length : Int) := by omega
      have hfound := fun h => @placeOf_some _ (fun x => x.toList == s.toList) l k hlt (fun j hj => HL.out j (Nat.lt_trans hj hlt) hj) h
      have hnext : (l[k].toList == s.toList) = false → ∀ j (h : j < l.length), j < k + 1 → (l[j].toList == s.toList) = false := fun h j hj h1 => by
        rcases Nat.lt_or_eq_of_le (Nat.lt_succ_iff.1 h1) with h2 | rfl
        · exact HL.out j hj h2
        · exact h
      have hx := nmF_at hlt
      obtain ⟨x, hxx⟩ : ∃ x, x = l[k] := ⟨_, rfl⟩
      rw [← hxx] at hfound hnext hx
      have HX := Hid2.mk hxx
      clear hxx
      cases hv : (x.toList == s.toList) with
      | false =>
        have HST := Hid2.mk (hnext hv)
        clear hfound hnext
        go_wp2
        go_roundw
        case rel => exact ⟨k + 1, by omega, by go_num, HST.out, M⟩
        case measure => simp [intOf]; omega
      | true =>
        have HST := Hid2.mk (hfound hv)
        clear hfound hnext
        go_wp2
        go_ret
        exact ⟨by rw [HST.out]; rfl, M.below⟩
    · obtain rfl : k = l.length := by omega
      have hge : ¬ ((l.length : Int) < (l.length : Int)) := by omega
      go_wp2
      go_ret
      exact ⟨by rw [placeOf_none fun j hj => HL.out j hj hj]; rfl, M.below⟩
end Go.Proofs.Ytinjjaoikofkdaa

/- The loop of a book that is alike one, for the reference: a contract. -/
namespace Go.Proofs.Ytinjjaoikofkdaa
set_option linter.unusedSimpArgs false
set_option linter.unusedVariables false
open Go Go.RowKit

/-- A square that is valid. -/
def okS (q : Sqr) : Prop := Byt2 q.t ∧ isSq q.n q.t = true
/-- Whether two squares are alike; and the first isomorphism. -/
noncomputable def alkB (q r : Sqr) : Bool := (isoRes (isoAll q.n.toNat r.n.toNat q.t r.t)).2 == 0
noncomputable def alkP (q r : Sqr) : Nat → Nat := (isoRes (isoAll q.n.toNat r.n.toNat q.t r.t)).1
theorem l11Alike_sq (q r : Sqr) (w : World) (hq : okS q) (hr : okS r) : Calls Try.prog 69 #[.agg (sqs q.n q.t), .agg (sqs r.n r.t)] w fun e w' => e = .returned (.tuple #[.agg (bys (alkP q r)), .bool (alkB q r)]) ∧ Below w.heap.size w w' := by
  have s1 := isSq_true.1 hq.2
  have s2 := isSq_true.1 hr.2
  have e1 : ((q.n.toNat : Nat) : Int) = q.n := Int.toNat_of_nonneg (by have := s1.lo; omega)
  have e2 : ((r.n.toNat : Nat) : Int) = r.n := Int.toNat_of_nonneg (by have := s2.lo; omega)
  have h := l11Alike_any q.n.toNat r.n.toNat q.t r.t w hq.1 hr.1 (by rw [e1]; exact hq.2) (by rw [e2]; exact hr.2)
  rw [e1, e2] at h
  exact h
theorem alike_sq (q r : Sqr) (w : World) (hq : okS q) (hr : okS r) : Calls Try.prog 54 #[.agg (sqs q.n q.t), .agg (sqs r.n r.t)] w fun e w' => e = .returned (.bool (alkB q r)) ∧ Below w.heap.size w w' := by
  have s1 := isSq_true.1 hq.2
  have s2 := isSq_true.1 hr.2
  have e1 : ((q.n.toNat : Nat) : Int) = q.n := Int.toNat_of_nonneg (by have := s1.lo; omega)
  have e2 : ((r.n.toNat : Nat) : Int) = r.n := Int.toNat_of_nonneg (by have := s2.lo; omega)
  have h := alike_any q.n.toNat r.n.toNat q.t r.t w hq.1 hr.1 (by rw [e1]; exact hq.2) (by rw [e2]; exact hr.2)
  rw [e1, e2] at h
  exact h

theorem results_part3 {P : Program} {fn : Func} {p q : Tmp} {ty : TypeId} (h : fn.results = #[.tmp q, .cell p ty]) (tmps : Array Value) (w : World) (b off : Nat) (part : Array Value) (d : TypeDesc)
    (hp : tmps.getD p undef = .pointer (some ⟨b, off, none⟩)) (hu : P.underlying ty = some d) (hd : (match d with | .struct _ | .array _ _ => true | _ => false) = true) (hi : (P.info? ty).map (·.size) = some part.size)
    (hc : ∀ j v, part[j]? = some v → w.cell? ⟨b, off + j, none⟩ = some v) (v : Value) (hv : tmps.getD q undef = v) :
    (results fn tmps).run P w = .ok (.tuple #[v, .agg part]) w := by
  have hp' : tmps[p]?.getD undef = .pointer (some ⟨b, off, none⟩) := by simpa using hp
  have hv' : tmps[q]?.getD undef = v := by simpa using hv
  simp [results, h, hp', hv', asAddr, run_load_part w b off ty part d hu hd hi hc]

/-- The first square of a list that is alike one, and the isomorphism. -/
noncomputable def keptP (q : Sqr) (l : List Sqr) : Nat → Nat := match l.find? (alkB q) with | some r => alkP q r | none => fun _ => 0
theorem keptP_some {q : Sqr} {l : List Sqr} {k : Nat} (hk : k < l.length) (hb : ∀ j (h : j < k), alkB q (l[j]'(Nat.lt_trans h hk)) = false) (h : alkB q l[k] = true) : keptP q l = alkP q l[k] := by
  have : l.find? (alkB q) = some l[k] := List.find?_eq_some_iff_getElem.2 ⟨h, k, hk, rfl, fun j hj => by simp [hb j hj]⟩
  unfold keptP; rw [this]
theorem keptP_none {q : Sqr} {l : List Sqr} (hb : ∀ j (h : j < l.length), alkB q l[j] = false) : keptP q l = fun _ => 0 := by
  have : l.find? (alkB q) = none := List.find?_eq_none.2 fun x hx => by
    obtain ⟨j, hj, rfl⟩ := List.getElem_of_mem hx
    simp [hb j hj]
  unfold keptP; rw [this]
/-- A new variable with a permutation. -/
def StW2 (w0 : World) (f : Nat → Nat) : List Value → List Ent → Prop
  | [], Lg => Lg = []
  | [v], Lg => ∃ b, v = .pointer (some ⟨b, 0, none⟩) ∧ w0.heap.size ≤ b ∧ Lg = [.box b (bys fun _ => 0) 70]
  | v :: u :: _, Lg => (∃ b, v = .pointer (some ⟨b, 0, none⟩) ∧ w0.heap.size ≤ b ∧ Lg = [.box b (bys f) 70]) ∧ u = undef

set_option maxRecDepth 100000 in
set_option maxHeartbeats 2000000 in
theorem l11Kept_any (q : Sqr) (l : List Sqr) (hlen : l.length ≤ 10000000) (hq : okS q) (hl : ∀ r ∈ l, okS r) (w : World) (g1 c1 g2 c2 n : Nat) (hr : rds w g2 (l.length * 101) (fun j => (slC l).getD j undef)) :
    Calls Try.prog 43 #[.agg (bkA g1 c1 g2 c2 n l.length), .agg (sqs q.n q.t)] w fun e w' => e = .returned (.tuple #[.int .i64 (placeOf (alkB q) l), .agg (bys (keptP q l))]) ∧ Below w.heap.size w w' := by
  have M := (Mm.start no w).add (x := .rd g2 (l.length * 101) (fun j => (slC l).getD j undef)) hr fun _ h => by cases h
  have k0 : (bkA g1 c1 g2 c2 n l.length)[1]? = some (.slice (some ⟨g2, 0, none⟩) l.length c2) := rfl
  have HQ := Hid2.mk hq
  have HLL := Hid2.mk hl
  have hbd := build_plc
  clear hr hq hl
  have C := M.ruleAll; simp only [Go.Proofs.Ytinjjaoikofkdaa.ruleAll] at C
  go_enter Try.func43, Try.ntmps43
  go_wp2_with (first | ((with_reducible apply wpM_box' M 29 (bkA g1 c1 g2 c2 n l.length)); rfl; exact ⟨rfl, rfl⟩; clear M; (try clear C); intro bb w9 h_bb M; have C := M.ruleAll; simp only [Go.Proofs.Ytinjjaoikofkdaa.ruleAll] at C) | ((with_reducible apply wpM_box' M 43 (sqs q.n q.t)); rfl; exact ⟨rfl, rfl⟩; clear M; (try clear C); intro bq w9 h_bq M; have C := M.ruleAll; simp only [Go.Proofs.Ytinjjaoikofkdaa.ruleAll] at C) | ((with_reducible apply wpM_alloc' M 70 (bys fun _ => 0)); rfl; exact ⟨rfl, _, zero_plc _, rfl⟩; clear M; (try clear C); intro b5 w9 h_b5 M; have C := M.ruleAll; simp only [Go.Proofs.Ytinjjaoikofkdaa.ruleAll] at C))
  go_loopw [6, 7, 8] (fun i _ _ wr => ∃ k : Nat, k ≤ l.length ∧ i = .int .i64 (k : Int) ∧ (∀ j (h : j < l.length), j < k → alkB q l[j] = false) ∧ Mm no w wr [.box b5 (bys fun _ => 0) 70, .box bq (sqs q.n q.t) 43, .box bb (bkA g1 c1 g2 c2 n l.length) 29, .rd g2 (l.length * 101) (fun j => (slC l).getD j undef)]) (fun i _ _ _ => l.length - (intOf i).toNat)
  case atStart => exact ⟨0, by omega, rfl, fun j _ h => by omega, M⟩
  case round =>
    obtain ⟨k, hk, rfl, hl, M9⟩ := hrel
    clear M; (try clear C)
    have M := M9
    clear M9
    have C := M.ruleAll; simp only [Go.Proofs.Ytinjjaoikofkdaa.ruleAll] at C
    have HL := Hid2.mk hl
    clear hl
    by_cases hlt : k < l.length
    · have hlt' : (k : Int) < (l.length : Int) := by omega
      have hfound := fun h => @placeOf_some _ (alkB q) l k hlt (fun j hj => HL.out j (Nat.lt_trans hj hlt) hj) h
      have hfound2 := fun h => @keptP_some q l k hlt (fun j hj => HL.out j (Nat.lt_trans hj hlt) hj) h
      have hnext : alkB q l[k] = false → ∀ j (h : j < l.length), j < k + 1 → alkB q l[j] = false := fun h j hj h1 => by
        rcases Nat.lt_or_eq_of_le (Nat.lt_succ_iff.1 h1) with h2 | rfl
        · exact HL.out j hj h2
        · exact h
      have hF := fun w1 => l11Alike_sq q l[k] w1 HQ.out (HLL.out _ (List.getElem_mem hlt))
      obtain ⟨r, hr⟩ : ∃ r, r = l[k] := ⟨_, rfl⟩
      have hcells : ∀ {w3}, rds w3 g2 (l.length * 101) (fun j => (slC l).getD j undef) → ∀ j v, (sqs r.n r.t)[j]? = some v → w3.cell? ⟨g2, k * 101 + j, none⟩ = some v := fun h => by rw [hr]; exact sq_cells h hlt
      rw [← hr] at hfound hfound2 hnext hF
      have HCE := Hid2.mk @hcells
      clear hr hcells
      generalize alkP q r = f at hF hfound2
      generalize hv : alkB q r = b at hF hfound hfound2 hnext
      clear hv
      have HF1 := Hid2.mk hfound
      have HF2 := Hid2.mk hfound2
      have HN := Hid2.mk hnext
      clear hfound hfound2 hnext
      go_wp2
      apply wp_region_mmf2 M [0, 1, 2, 3, 4, 5, 6, 7, 8, 9] 10 11 12 _ _ (StW2 w f) (by kernel_rfl) (by kernel_rfl) rfl rfl rfl rfl rfl
      case ht => (repeat (first | exact wpTextG_nil | (apply wpTextG_cons; (intro g9 w2 hG; obtain ⟨Lg9, hSt9, G⟩ := hG; have M := G.suffix; have C := M.ruleAll; simp only [Go.Proofs.Ytinjjaoikofkdaa.ruleAll] at C; go_wp2_with (first | ((with_reducible apply wpM_lda' M 1 43 0 (sqs q.n q.t)); rfl; rfl; rfl; exact ⟨rfl, inf_sqs.trans (congrArg some (sqs_size ..).symm), _, und_sqs, rfl⟩; exact whole_of rfl) | (refine wpList_load_part rfl 43 _ rfl (g2) (k * 101) rfl (sqs r.n r.t) _ und_sqs rfl inf_sqs (HCE.out (M.rd 3 rfl)) ?_) | (go_at_call 69; ((with_reducible refine (hF _).mono ?_); rintro e w1 ⟨rfl, hb⟩; have hsz := M.size; (try (have G9 := G.later hb; clear G; have G := G9; clear G9)); have M9 := M.later hb; clear M; (try clear C); have M := M9; clear M9; have C := M.ruleAll; simp only [Go.Proofs.Ytinjjaoikofkdaa.ruleAll] at C))); exact ⟨rfl, rfl, Lg9, hSt9, G⟩); rfl)))
      case hA =>
        intro Lg w2 h M
        obtain rfl : Lg = [] := h
        refine yield_walk (ops := #[]) rfl rfl (by simp [Act.put]) ?_
        go_wp2_with (first | ((with_reducible apply wpM_alloc' M 70 (bys fun _ => 0)); rfl; exact ⟨rfl, _, zero_plc _, rfl⟩; clear M; (try clear C); intro b6 w9 h_b6 M; have C := M.ruleAll; simp only [Go.Proofs.Ytinjjaoikofkdaa.ruleAll] at C))
        exact ⟨_, ⟨b6, rfl, by assumption, rfl⟩, M⟩
      case hA2 =>
        intro v Lg w2 h M
        obtain ⟨b6, rfl, hb6, rfl⟩ := h
        refine yield_store (ops := #[]) (by exact rfl) (by exact rfl) ?_
        simp only [List.cons_append, List.nil_append] at M
        have C := M.ruleAll; simp only [Go.Proofs.Ytinjjaoikofkdaa.ruleAll] at C
        go_wp2_with (first | ((with_reducible apply wpM_sta' M 0 70 (bys f)); rfl; rfl; rfl; rfl; (first | exact .inl (by assumption) | exact .inr rfl | exact .inr (by assumption)); exact ⟨rfl, inf_plc.trans (congrArg some (bys_size ..).symm), flat_bys _⟩; (simp only [entCells, List.getElem?_cons_zero, List.getElem?_cons_succ, bys_size, bys_size]); clear M; (try clear C); intro w9 M; simp only [List.set_cons_zero, List.set_cons_succ, entBlk, entT, List.getElem?_cons_zero, List.getElem?_cons_succ] at M; have C := M.ruleAll; simp only [Go.Proofs.Ytinjjaoikofkdaa.ruleAll] at C))
        exact ⟨_, ⟨⟨b6, rfl, hb6, rfl⟩, rfl⟩, M⟩
      clear M; (try clear C)
      intro v u9 Lg w2 h M
      obtain ⟨⟨b6, rfl, hb6, rfl⟩, rfl⟩ := h
      simp only [List.drop_succ_cons, List.drop_zero, List.cons_append, List.nil_append] at M ⊢
      have C := M.ruleAll; simp only [Go.Proofs.Ytinjjaoikofkdaa.ruleAll] at C
      cases b with
      | false =>
        go_wp2
        go_roundw
        case rel => exact ⟨k + 1, by omega, by go_num, HN.out rfl, M.drop 0⟩
        case measure => simp [intOf]; omega
      | true =>
        go_wp2
        apply wp_region_mm M 3 (by kernel_rfl) (by kernel_rfl); (simp only [List.take_succ_cons, List.take_zero]; repeat (first | exact wpText_nil | (apply wpText_cons; (intro w2 M; have C := M.ruleAll; simp only [Go.Proofs.Ytinjjaoikofkdaa.ruleAll] at C; go_wp2_with (first | ((with_reducible apply wpM_lda' M 0 70 0 (bys f)); rfl; rfl; rfl; exact ⟨rfl, inf_plc.trans (congrArg some (bys_size ..).symm), _, und_plc, rfl⟩; exact whole_of rfl)); exact ⟨rfl, rfl, M⟩); rfl))); (clear M; (try clear C); intro w2 M; simp only [List.drop_succ_cons, List.drop_zero]; have C := M.ruleAll; simp only [Go.Proofs.Ytinjjaoikofkdaa.ruleAll] at C)
        go_wp2_with (first | ((with_reducible apply wpM_sta' M 1 70 (bys f)); rfl; rfl; rfl; rfl; (first | exact .inl (by assumption) | exact .inr rfl | exact .inr (by assumption)); exact ⟨rfl, inf_plc.trans (congrArg some (bys_size ..).symm), flat_bys _⟩; (simp only [entCells, List.getElem?_cons_zero, List.getElem?_cons_succ, bys_size, bys_size]); clear M; (try clear C); intro w9 M; simp only [List.set_cons_zero, List.set_cons_succ, entBlk, entT, List.getElem?_cons_zero, List.getElem?_cons_succ] at M; have C := M.ruleAll; simp only [Go.Proofs.Ytinjjaoikofkdaa.ruleAll] at C))
        refine bodyPost_ret (v := .tuple #[.int .i64 (k : Int), .agg (bys f)]) (by exact results_part3 rfl _ _ _ _ (bys f) _ rfl und_plc rfl (inf_plc.trans (congrArg some (bys_size _).symm)) (cells_of_blk0 (M.box 1 rfl)) _ rfl) rfl ?_
        exact ⟨by rw [HF1.out (by first | rfl | trivial), HF2.out (by first | rfl | trivial)], M.below⟩
    · obtain rfl : k = l.length := by omega
      have hge : ¬ ((l.length : Int) < (l.length : Int)) := by omega
      have h1 := placeOf_none fun j hj => HL.out j hj hj
      have h2 := keptP_none fun j hj => HL.out j hj hj
      have HF1 := Hid2.mk h1
      have HF2 := Hid2.mk h2
      clear h1 h2
      go_wp2_with (first | (refine wpList_build 70 _ rfl rfl [] rfl _ (build_plc _) ?_) | ((with_reducible apply wpM_sta' M 0 70 (bys fun _ => 0)); rfl; rfl; rfl; rfl; (first | exact .inl (by assumption) | exact .inr rfl | exact .inr (by assumption)); exact ⟨rfl, inf_plc.trans (congrArg some (bys_size ..).symm), flat_bys _⟩; (simp only [entCells, List.getElem?_cons_zero, List.getElem?_cons_succ, bys_size, bys_size]); clear M; (try clear C); intro w9 M; simp only [List.set_cons_zero, List.set_cons_succ, entBlk, entT, List.getElem?_cons_zero, List.getElem?_cons_succ] at M; have C := M.ruleAll; simp only [Go.Proofs.Ytinjjaoikofkdaa.ruleAll] at C))
      refine bodyPost_ret (v := .tuple #[.int .i64 (-1), .agg (bys fun _ => 0)]) (by exact results_part3 rfl _ _ _ _ (bys fun _ => 0) _ rfl und_plc rfl (inf_plc.trans (congrArg some (bys_size _).symm)) (cells_of_blk0 (M.box 0 rfl)) _ rfl) rfl ?_
      exact ⟨by rw [HF1.out, HF2.out], M.below⟩
end Go.Proofs.Ytinjjaoikofkdaa

