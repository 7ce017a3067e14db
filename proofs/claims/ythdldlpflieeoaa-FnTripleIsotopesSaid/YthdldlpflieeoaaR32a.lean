/- The law FnTripleIsotopes: it answers true. Printed by gen/x19.py. -/
import Derived.Test.YthdldlpflieeoaaQ6
import Derived.Test.YthdldlpflieeoaaQ5
namespace Go.Proofs.Ythdldlpflieeoaa
set_option linter.unusedSimpArgs false
set_option linter.unusedVariables false
open Go Go.RowKit

set_option maxRecDepth 100000 in
theorem big_any (p : Option Addr) (n c : Nat) (w : World) : Calls Try.prog 11 #[.slice p n c] w fun e w' => e = .returned (.bool (decide ((4096 : Int) < (n : Int)))) ∧ Below w.heap.size w w' := by
  have M := Mm.start no w
  go_enter Try.func11, Try.ntmps11
  go_wp2
  go_ret
  exact ⟨rfl, M.below⟩
theorem byt2_cut {n : Int} {t : Nat → Nat → Nat} (h : IsSq n t) : Byt2 t := by
  obtain ⟨N, rfl⟩ : ∃ N : Nat, n = N := ⟨n.toNat, by have := h.lo; omega⟩
  exact h.byt
theorem ioT_sq {n : Int} {t : Nat → Nat → Nat} {f g h : Nat → Nat} (hb : ioB n t f g h = true) : IsSq n (ioT n t f g h) := by
  unfold ioB at hb
  rw [Bool.and_eq_true] at hb
  have hs := isSq_true.1 hb.1
  obtain ⟨N, rfl⟩ : ∃ N : Nat, n = N := ⟨n.toNat, by have := hs.lo; omega⟩
  obtain ⟨h1, h2, h3⟩ := triB_true.1 hb.2
  exact sq_moved hs h1.toPm h2.toPm h3.toPm
theorem la_loop {n : Int} {t : Nat → Nat → Nat} {a b : Nat} (h : laB n t a b = true) : IsLp n (loopAt n.toNat t a b) := by
  obtain ⟨p1, p2, p3, p4, p5, p6, p7, p8⟩ := la_pre h
  unfold laB at h
  rw [Bool.and_eq_true] at h
  have hs := isSq_true.1 h.1
  obtain ⟨N, rfl⟩ : ∃ N : Nat, n = N := ⟨n.toNat, by have := hs.lo; omega⟩
  have ha : a < N := by omega
  have hb : b < N := by omega
  have hi := loopAt_idn p8 ha hb
  exact ⟨sq_moved hs (pm_toF p8 ha hb) (pm_toG p8 ha hb) (pm_toH p8 ha hb), fun x _ hx => hi.left x (by simpa using hx), fun x _ hx => hi.right x (by simpa using hx)⟩
/-- What leads back. -/
theorem back_all {n : Int} {t : Nat → Nat → Nat} {f g h : Nat → Nat} (hb : ioB n t f g h = true) :
    triB n f g h = true ∧ triB n (bkTo f n.toNat) (bkTo g n.toNat) (bkTo h n.toNat) = true ∧ ioB n (ioT n t f g h) (bkTo f n.toNat) (bkTo g n.toNat) (bkTo h n.toNat) = true ∧
      sqs n (ioT n (ioT n t f g h) (bkTo f n.toNat) (bkTo g n.toNat) (bkTo h n.toNat)) = sqs n t ∧ thTo f (bkTo f n.toNat) n.toNat = idTo n.toNat ∧ thTo g (bkTo g n.toNat) n.toNat = idTo n.toNat ∧ thTo h (bkTo h n.toNat) n.toNat = idTo n.toNat ∧
      ioB n t (idTo n.toNat) (idTo n.toNat) (idTo n.toNat) = true ∧ eqT (ioT n t (idTo n.toNat) (idTo n.toNat) (idTo n.toNat)) t = true := by
  have hq := ioT_sq hb
  unfold ioB at hb
  rw [Bool.and_eq_true] at hb
  obtain ⟨hb1, hb2⟩ := hb
  have hs := isSq_true.1 hb1
  obtain ⟨N, rfl⟩ : ∃ N : Nat, n = N := ⟨n.toNat, by have := hs.lo; omega⟩
  obtain ⟨h1, h2, h3⟩ := triB_true.1 hb2
  have hN0 : 1 ≤ N := by have := hs.lo; omega
  have hN1 : N ≤ 10 := by have := hs.hi; omega
  have hid := idTo_is hN0 hN1
  have k1 : triB (N : Int) (bkTo f N) (bkTo g N) (bkTo h N) = true := triB_true.2 ⟨bk_is h1, bk_is h2, bk_is h3⟩
  refine ⟨hb2, k1, ?_, sqs_ext rfl fun x y hx hy => iso_back hs h1.toPm h2.toPm h3.toPm hx hy, th_bk h1.toPm, th_bk h2.toPm, th_bk h3.toPm, ?_, eqT_iff.2 fun x hx y hy => iso_same hs hx hy⟩
  · unfold ioB; rw [Bool.and_eq_true]; exact ⟨isSq_true.2 hq, k1⟩
  · unfold ioB; rw [Bool.and_eq_true]; exact ⟨hb1, triB_true.2 ⟨hid, hid, hid⟩⟩
theorem idTo_byt {N : Nat} (h : N ≤ 256) : Byt (idTo N) := ⟨fun i _ => by unfold idTo; split <;> omega⟩
theorem bkTo_byt {p : Nat → Nat} : ∀ {k : Nat}, k ≤ 256 → Byt (bkTo p k)
  | 0, _ => ⟨fun _ _ => by show 0 < 256; decide⟩
  | k + 1, h => ⟨fun v hv => by
    show (if v = p k then k else bkTo p k v) < 256
    split
    · omega
    · exact (bkTo_byt (by omega)).at_ v hv⟩

set_option maxRecDepth 100000 in
set_option maxHeartbeats 8000000 in
theorem lawTripleIsotopes_any (l : List Nat) (hbl : Byts l) (p : Option Addr) (c : Nat) (w : World) (hr : rdp w p l.length (cdF l)) :
    Calls Try.prog 4 #[.slice p l.length c] w fun e w' => e = .returned (.bool true) ∧ Below w.heap.size w w' := by
  have M := (Mm.start no w).add (x := Ent.cd l.length p (cdF l)) (rdp.ent hr) fun _ h => by cases h
  have HBIG := Hid2.mk (big_any p l.length c)
  clear hr
  by_cases hbig : 4096 < l.length
  · have hbig' : (4096 : Int) < (l.length : Int) := by omega
    have hd : decide ((4096 : Int) < (l.length : Int)) = true := decide_eq_true hbig'
    rw [hd] at HBIG
    clear hd hbig hbig'
    have C := M.ruleAll; simp only [Go.Proofs.Ythdldlpflieeoaa.ruleAll] at C
    go_enter Try.func4, Try.ntmps4
    go_wp2_with (first | (go_at_call 11; ((with_reducible refine (HBIG.out _).mono ?_); rintro e w1 ⟨rfl, hb⟩; have hsz := M.size; (try (have G9 := G.later hb; clear G; have G := G9; clear G9)); have M9 := M.later hb; clear M; (try clear C); have M := M9; clear M9; have C := M.ruleAll; simp only [Go.Proofs.Ythdldlpflieeoaa.ruleAll] at C)))
    go_ret
    exact ⟨rfl, M.below⟩
  have hd : decide ((4096 : Int) < (l.length : Int)) = false := decide_eq_false (by omega)
  rw [hd] at HBIG
  have hl : l.length ≤ 4096 := by omega
  have HD1 := Hid2.mk (drawIsotopeOf_tc l hbl hl p c)
  have HD2 := Hid2.mk (drawThenTriples_tc l hbl hl p c)
  have HD3 := Hid2.mk (drawBackTriple_tc l hbl hl p c)
  have HD4 := Hid2.mk (drawIsAutotopism_tc l hbl hl p c)
  have HD5 := Hid2.mk (drawLoopAt_tc l hbl hl p c)
  clear hd hbig hl hbl
  have C := M.ruleAll; simp only [Go.Proofs.Ythdldlpflieeoaa.ruleAll] at C
  go_enter Try.func4, Try.ntmps4
  go_wp2_with (first | (go_at_call 11; ((with_reducible refine (HBIG.out _).mono ?_); rintro e w1 ⟨rfl, hb⟩; have hsz := M.size; (try (have G9 := G.later hb; clear G; have G := G9; clear G9)); have M9 := M.later hb; clear M; (try clear C); have M := M9; clear M9; have C := M.ruleAll; simp only [Go.Proofs.Ythdldlpflieeoaa.ruleAll] at C)) | (go_at_call 32; ((with_reducible refine (HD1.out.at M 0 rfl).mono ?_); rintro e w3 ⟨_, rfl, ⟨n, t, f, g, h, rfl, hn0, hn1, ht, hf, hg, hh⟩, M9⟩; clear M; (try clear C); have M := M9; clear M9; have C := M.ruleAll; simp only [Go.Proofs.Ythdldlpflieeoaa.ruleAll] at C)) | ((with_reducible apply wpM_alloc' M 37 (sqs 0 fun _ _ => 0)); rfl; exact ⟨rfl, _, zero_sqs _, rfl⟩; clear M; (try clear C); intro b3 w9 h_b3 M; have C := M.ruleAll; simp only [Go.Proofs.Ythdldlpflieeoaa.ruleAll] at C) | ((with_reducible apply wpM_alloc' M 46 (trs (fun _ => 0) (fun _ => 0) (fun _ => 0))); rfl; exact ⟨rfl, _, zero_trp _, rfl⟩; clear M; (try clear C); intro b4 w9 h_b4 M; have C := M.ruleAll; simp only [Go.Proofs.Ythdldlpflieeoaa.ruleAll] at C) | ((with_reducible apply wpM_sta' M 1 37 (sqs n t)); rfl; rfl; rfl; rfl; (first | exact .inl (by assumption) | exact .inr rfl | exact .inr (by assumption)); exact ⟨rfl, inf_sqs.trans (congrArg some (sqs_size ..).symm), flat_sqs _ _⟩; (simp only [entCells, List.getElem?_cons_zero, List.getElem?_cons_succ, sqs_size, sqs_size]); clear M; (try clear C); intro w9 M; simp only [List.set_cons_zero, List.set_cons_succ, entBlk, entT, List.getElem?_cons_zero, List.getElem?_cons_succ] at M; have C := M.ruleAll; simp only [Go.Proofs.Ythdldlpflieeoaa.ruleAll] at C) | ((with_reducible apply wpM_sta' M 0 46 (trs f g h)); rfl; rfl; rfl; rfl; (first | exact .inl (by assumption) | exact .inr rfl | exact .inr (by assumption)); exact ⟨rfl, inf_trp.trans (congrArg some (trs_size ..).symm), flat_trs _ _ _⟩; (simp only [entCells, List.getElem?_cons_zero, List.getElem?_cons_succ, trs_size, trs_size]); clear M; (try clear C); intro w9 M; simp only [List.set_cons_zero, List.set_cons_succ, entBlk, entT, List.getElem?_cons_zero, List.getElem?_cons_succ] at M; have C := M.ruleAll; simp only [Go.Proofs.Ythdldlpflieeoaa.ruleAll] at C) | ((with_reducible apply wpM_lda' M 1 37 0 (sqs n t)); rfl; rfl; rfl; exact ⟨rfl, inf_sqs.trans (congrArg some (sqs_size ..).symm), _, und_sqs, rfl⟩; exact whole_of rfl) | ((with_reducible apply wpM_lda' M 0 46 0 (trs f g h)); rfl; rfl; rfl; exact ⟨rfl, inf_trp.trans (congrArg some (trs_size ..).symm), _, und_trp, rfl⟩; exact whole_of rfl) | (go_at_call 33; fail))
  have HB0 := Hid2.mk (And.intro ht (And.intro hf (And.intro hg hh)))
  have so := sqs_order n t
  have hi1 := isotopeOf_any n t f g h ht hf hg hh
  have hs1 := specIsotopeOf_any n t f g h ht hf hg hh
  unfold sqR at hi1 hs1
  obtain ⟨n1, e1⟩ : ∃ x, x = (bif ioB n t f g h then n else 0) := ⟨_, rfl⟩
  obtain ⟨t1, e2⟩ : ∃ x, x = (bif ioB n t f g h then ioT n t f g h else fun _ _ => 0) := ⟨_, rfl⟩
  obtain ⟨c1, e3⟩ : ∃ x : Int, x = (bif ioB n t f g h then 0 else 1) := ⟨_, rfl⟩
  rw [← e1, ← e2, ← e3] at hi1 hs1
  have hcc1 : (c1 != c1) = false := by simp
  have E1 := Hid2.mk e1
  have E2 := Hid2.mk e2
  have E3 := Hid2.mk e3
  have HI1 := Hid2.mk hi1
  have HS1 := Hid2.mk hs1
  clear e1 e2 e3 hi1 hs1 ht hf hg hh
  go_wp2_with (first | (go_at_call 33; ((with_reducible refine (HI1.out _).mono ?_); rintro e w1 ⟨rfl, hb⟩; have hsz := M.size; (try (have G9 := G.later hb; clear G; have G := G9; clear G9)); have M9 := M.later hb; clear M; (try clear C); have M := M9; clear M9; have C := M.ruleAll; simp only [Go.Proofs.Ythdldlpflieeoaa.ruleAll] at C)) | ((fail_if_success have := h_b5); ((with_reducible apply wpM_alloc' M 37 (sqs 0 fun _ _ => 0)); rfl; exact ⟨rfl, _, zero_sqs _, rfl⟩; clear M; (try clear C); intro b5 w9 h_b5 M; have C := M.ruleAll; simp only [Go.Proofs.Ythdldlpflieeoaa.ruleAll] at C); have so1 := sqs_order n1 t1) | ((with_reducible apply wpM_sta' M 0 37 (sqs n1 t1)); rfl; rfl; rfl; rfl; (first | exact .inl (by assumption) | exact .inr rfl | exact .inr (by assumption)); exact ⟨rfl, inf_sqs.trans (congrArg some (sqs_size ..).symm), flat_sqs _ _⟩; (simp only [entCells, List.getElem?_cons_zero, List.getElem?_cons_succ, sqs_size, sqs_size]); clear M; (try clear C); intro w9 M; simp only [List.set_cons_zero, List.set_cons_succ, entBlk, entT, List.getElem?_cons_zero, List.getElem?_cons_succ] at M; have C := M.ruleAll; simp only [Go.Proofs.Ythdldlpflieeoaa.ruleAll] at C) | ((with_reducible apply wpM_lda' M 2 37 0 (sqs n t)); rfl; rfl; rfl; exact ⟨rfl, inf_sqs.trans (congrArg some (sqs_size ..).symm), _, und_sqs, rfl⟩; exact whole_of rfl) | ((with_reducible apply wpM_lda' M 1 46 0 (trs f g h)); rfl; rfl; rfl; exact ⟨rfl, inf_trp.trans (congrArg some (trs_size ..).symm), _, und_trp, rfl⟩; exact whole_of rfl) | (go_at_call 34; ((with_reducible refine (HS1.out _).mono ?_); rintro e w1 ⟨rfl, hb⟩; have hsz := M.size; (try (have G9 := G.later hb; clear G; have G := G9; clear G9)); have M9 := M.later hb; clear M; (try clear C); have M := M9; clear M9; have C := M.ruleAll; simp only [Go.Proofs.Ythdldlpflieeoaa.ruleAll] at C)) | ((with_reducible apply wpM_alloc' M 37 (sqs 0 fun _ _ => 0)); rfl; exact ⟨rfl, _, zero_sqs _, rfl⟩; clear M; (try clear C); intro b7 w9 h_b7 M; have C := M.ruleAll; simp only [Go.Proofs.Ythdldlpflieeoaa.ruleAll] at C) | ((with_reducible apply wpM_lda' M 1 37 0 (sqs n1 t1)); rfl; rfl; rfl; exact ⟨rfl, inf_sqs.trans (congrArg some (sqs_size ..).symm), _, und_sqs, rfl⟩; exact whole_of rfl) | ((with_reducible apply wpM_lda' M 0 37 0 (sqs n1 t1)); rfl; rfl; rfl; exact ⟨rfl, inf_sqs.trans (congrArg some (sqs_size ..).symm), _, und_sqs, rfl⟩; exact whole_of rfl) | (refine wpList_agg_g .neq 37 _ _ _ rfl rfl (sqs n1 t1) (sqs n1 t1) rfl rfl egt_sqs _ (neq_sqs _ _ _) ?_) | (go_at_call 35; fail))
  have M9 := (M.drop 0)
  clear M; (try clear C)
  have M := M9
  clear M9
  simp only [List.eraseIdx_cons_zero] at M
  have C := M.ruleAll; simp only [Go.Proofs.Ythdldlpflieeoaa.ruleAll] at C
  go_wp2_with (first | (go_at_call 35; ((with_reducible refine (HD2.out.at M 3 rfl).mono ?_); rintro e w3 ⟨_, rfl, ⟨N2, f2, g2, h2, p2, q2, r2, rfl, hN0, hN1, hf, hg, hh, hp, hq, hr⟩, M9⟩; clear M; (try clear C); have M := M9; clear M9; have C := M.ruleAll; simp only [Go.Proofs.Ythdldlpflieeoaa.ruleAll] at C)) | ((fail_if_success have := h_b9); ((with_reducible apply wpM_alloc' M 46 (trs (fun _ => 0) (fun _ => 0) (fun _ => 0))); rfl; exact ⟨rfl, _, zero_trp _, rfl⟩; clear M; (try clear C); intro b9 w9 h_b9 M; have C := M.ruleAll; simp only [Go.Proofs.Ythdldlpflieeoaa.ruleAll] at C)) | ((with_reducible apply wpM_alloc' M 46 (trs (fun _ => 0) (fun _ => 0) (fun _ => 0))); rfl; exact ⟨rfl, _, zero_trp _, rfl⟩; clear M; (try clear C); intro b10 w9 h_b10 M; have C := M.ruleAll; simp only [Go.Proofs.Ythdldlpflieeoaa.ruleAll] at C) | ((with_reducible apply wpM_sta' M 1 46 (trs f2 g2 h2)); rfl; rfl; rfl; rfl; (first | exact .inl (by assumption) | exact .inr rfl | exact .inr (by assumption)); exact ⟨rfl, inf_trp.trans (congrArg some (trs_size ..).symm), flat_trs _ _ _⟩; (simp only [entCells, List.getElem?_cons_zero, List.getElem?_cons_succ, trs_size, trs_size]); clear M; (try clear C); intro w9 M; simp only [List.set_cons_zero, List.set_cons_succ, entBlk, entT, List.getElem?_cons_zero, List.getElem?_cons_succ] at M; have C := M.ruleAll; simp only [Go.Proofs.Ythdldlpflieeoaa.ruleAll] at C) | ((with_reducible apply wpM_sta' M 0 46 (trs p2 q2 r2)); rfl; rfl; rfl; rfl; (first | exact .inl (by assumption) | exact .inr rfl | exact .inr (by assumption)); exact ⟨rfl, inf_trp.trans (congrArg some (trs_size ..).symm), flat_trs _ _ _⟩; (simp only [entCells, List.getElem?_cons_zero, List.getElem?_cons_succ, trs_size, trs_size]); clear M; (try clear C); intro w9 M; simp only [List.set_cons_zero, List.set_cons_succ, entBlk, entT, List.getElem?_cons_zero, List.getElem?_cons_succ] at M; have C := M.ruleAll; simp only [Go.Proofs.Ythdldlpflieeoaa.ruleAll] at C) | ((with_reducible apply wpM_lda' M 1 46 0 (trs f2 g2 h2)); rfl; rfl; rfl; exact ⟨rfl, inf_trp.trans (congrArg some (trs_size ..).symm), _, und_trp, rfl⟩; exact whole_of rfl) | ((with_reducible apply wpM_lda' M 0 46 0 (trs p2 q2 r2)); rfl; rfl; rfl; exact ⟨rfl, inf_trp.trans (congrArg some (trs_size ..).symm), _, und_trp, rfl⟩; exact whole_of rfl) | (go_at_call 36; fail))
  have hi2 := thenTriplesOf_any (N2 : Int) f2 g2 h2 p2 q2 r2 hf hg hh hp hq hr
  have hs2 := specThenTriples_any (N2 : Int) f2 g2 h2 p2 q2 r2 hf hg hh hp hq hr
  unfold trR at hi2 hs2
  generalize (bif triB (N2 : Int) f2 g2 h2 && triB (N2 : Int) p2 q2 r2 then thTo f2 p2 (N2 : Int).toNat else fun _ => 0) = x2 at hi2 hs2
  generalize (bif triB (N2 : Int) f2 g2 h2 && triB (N2 : Int) p2 q2 r2 then thTo g2 q2 (N2 : Int).toNat else fun _ => 0) = y2 at hi2 hs2
  generalize (bif triB (N2 : Int) f2 g2 h2 && triB (N2 : Int) p2 q2 r2 then thTo h2 r2 (N2 : Int).toNat else fun _ => 0) = z2 at hi2 hs2
  generalize (bif triB (N2 : Int) f2 g2 h2 && triB (N2 : Int) p2 q2 r2 then (0 : Int) else 1) = c2 at hi2 hs2
  have hcc2 : (c2 != c2) = false := by simp
  have HI2 := Hid2.mk hi2
  have HS2 := Hid2.mk hs2
  clear hi2 hs2 hf hg hh hp hq hr
  go_wp2_with (first | (go_at_call 36; ((with_reducible refine (HI2.out _).mono ?_); rintro e w1 ⟨rfl, hb⟩; have hsz := M.size; (try (have G9 := G.later hb; clear G; have G := G9; clear G9)); have M9 := M.later hb; clear M; (try clear C); have M := M9; clear M9; have C := M.ruleAll; simp only [Go.Proofs.Ythdldlpflieeoaa.ruleAll] at C)) | ((fail_if_success have := h_b12); ((with_reducible apply wpM_alloc' M 46 (trs (fun _ => 0) (fun _ => 0) (fun _ => 0))); rfl; exact ⟨rfl, _, zero_trp _, rfl⟩; clear M; (try clear C); intro b12 w9 h_b12 M; have C := M.ruleAll; simp only [Go.Proofs.Ythdldlpflieeoaa.ruleAll] at C)) | ((with_reducible apply wpM_sta' M 0 46 (trs x2 y2 z2)); rfl; rfl; rfl; rfl; (first | exact .inl (by assumption) | exact .inr rfl | exact .inr (by assumption)); exact ⟨rfl, inf_trp.trans (congrArg some (trs_size ..).symm), flat_trs _ _ _⟩; (simp only [entCells, List.getElem?_cons_zero, List.getElem?_cons_succ, trs_size, trs_size]); clear M; (try clear C); intro w9 M; simp only [List.set_cons_zero, List.set_cons_succ, entBlk, entT, List.getElem?_cons_zero, List.getElem?_cons_succ] at M; have C := M.ruleAll; simp only [Go.Proofs.Ythdldlpflieeoaa.ruleAll] at C) | ((with_reducible apply wpM_lda' M 2 46 0 (trs f2 g2 h2)); rfl; rfl; rfl; exact ⟨rfl, inf_trp.trans (congrArg some (trs_size ..).symm), _, und_trp, rfl⟩; exact whole_of rfl) | ((with_reducible apply wpM_lda' M 1 46 0 (trs p2 q2 r2)); rfl; rfl; rfl; exact ⟨rfl, inf_trp.trans (congrArg some (trs_size ..).symm), _, und_trp, rfl⟩; exact whole_of rfl) | (go_at_call 37; ((with_reducible refine (HS2.out _).mono ?_); rintro e w1 ⟨rfl, hb⟩; have hsz := M.size; (try (have G9 := G.later hb; clear G; have G := G9; clear G9)); have M9 := M.later hb; clear M; (try clear C); have M := M9; clear M9; have C := M.ruleAll; simp only [Go.Proofs.Ythdldlpflieeoaa.ruleAll] at C)) | ((with_reducible apply wpM_alloc' M 46 (trs (fun _ => 0) (fun _ => 0) (fun _ => 0))); rfl; exact ⟨rfl, _, zero_trp _, rfl⟩; clear M; (try clear C); intro b14 w9 h_b14 M; have C := M.ruleAll; simp only [Go.Proofs.Ythdldlpflieeoaa.ruleAll] at C) | ((with_reducible apply wpM_lda' M 1 46 0 (trs x2 y2 z2)); rfl; rfl; rfl; exact ⟨rfl, inf_trp.trans (congrArg some (trs_size ..).symm), _, und_trp, rfl⟩; exact whole_of rfl) | ((with_reducible apply wpM_lda' M 0 46 0 (trs x2 y2 z2)); rfl; rfl; rfl; exact ⟨rfl, inf_trp.trans (congrArg some (trs_size ..).symm), _, und_trp, rfl⟩; exact whole_of rfl) | (refine wpList_agg_g .neq 46 _ _ _ rfl rfl (trs x2 y2 z2) (trs x2 y2 z2) rfl rfl egt_trp _ (neq_trs _ _ _ _) ?_) | (go_at_call 38; fail))
  clear HI2 HS2 hcc2
  have M9 := ((((M.drop 0).drop 0).drop 0).drop 0)
  clear M; (try clear C)
  have M := M9
  clear M9
  simp only [List.eraseIdx_cons_zero] at M
  have C := M.ruleAll; simp only [Go.Proofs.Ythdldlpflieeoaa.ruleAll] at C
  go_wp2_with (first | (go_at_call 38; ((with_reducible refine (HD3.out.at M 3 rfl).mono ?_); rintro e w3 ⟨_, rfl, ⟨n3, f3, g3, h3, rfl, hN0, hN1, hf, hg, hh⟩, M9⟩; clear M; (try clear C); have M := M9; clear M9; have C := M.ruleAll; simp only [Go.Proofs.Ythdldlpflieeoaa.ruleAll] at C)) | ((with_reducible apply wpM_alloc' M 46 (trs (fun _ => 0) (fun _ => 0) (fun _ => 0))); rfl; exact ⟨rfl, _, zero_trp _, rfl⟩; clear M; (try clear C); intro b16 w9 h_b16 M; have C := M.ruleAll; simp only [Go.Proofs.Ythdldlpflieeoaa.ruleAll] at C) | ((with_reducible apply wpM_sta' M 0 46 (trs f3 g3 h3)); rfl; rfl; rfl; rfl; (first | exact .inl (by assumption) | exact .inr rfl | exact .inr (by assumption)); exact ⟨rfl, inf_trp.trans (congrArg some (trs_size ..).symm), flat_trs _ _ _⟩; (simp only [entCells, List.getElem?_cons_zero, List.getElem?_cons_succ, trs_size, trs_size]); clear M; (try clear C); intro w9 M; simp only [List.set_cons_zero, List.set_cons_succ, entBlk, entT, List.getElem?_cons_zero, List.getElem?_cons_succ] at M; have C := M.ruleAll; simp only [Go.Proofs.Ythdldlpflieeoaa.ruleAll] at C) | ((with_reducible apply wpM_lda' M 0 46 0 (trs f3 g3 h3)); rfl; rfl; rfl; exact ⟨rfl, inf_trp.trans (congrArg some (trs_size ..).symm), _, und_trp, rfl⟩; exact whole_of rfl) | (go_at_call 39; fail))
  have hi3 := backTripleOf_any n3 f3 g3 h3 hf hg hh
  have hs3 := specBackTriple_any n3 f3 g3 h3 hf hg hh
  unfold trR at hi3 hs3
  generalize (bif triB n3 f3 g3 h3 then bkTo f3 n3.toNat else fun _ => 0) = x3 at hi3 hs3
  generalize (bif triB n3 f3 g3 h3 then bkTo g3 n3.toNat else fun _ => 0) = y3 at hi3 hs3
  generalize (bif triB n3 f3 g3 h3 then bkTo h3 n3.toNat else fun _ => 0) = z3 at hi3 hs3
  generalize (bif triB n3 f3 g3 h3 then (0 : Int) else 1) = c3 at hi3 hs3
  have hj3 := isTriple_any n3 f3 g3 h3 hf hg hh
  have hk3 := specIsTriple_any n3 f3 g3 h3 hf hg hh
  generalize triB n3 f3 g3 h3 = B3 at hj3 hk3
  have hcc3 : (c3 != c3) = false := by simp
  have hbb3 : (B3 != B3) = false := by simp
  have HI3 := Hid2.mk hi3
  have HS3 := Hid2.mk hs3
  have HJ3 := Hid2.mk hj3
  have HK3 := Hid2.mk hk3
  clear hi3 hs3 hj3 hk3 hf hg hh
  go_wp2_with (first | (go_at_call 39; ((with_reducible refine (HI3.out _).mono ?_); rintro e w1 ⟨rfl, hb⟩; have hsz := M.size; (try (have G9 := G.later hb; clear G; have G := G9; clear G9)); have M9 := M.later hb; clear M; (try clear C); have M := M9; clear M9; have C := M.ruleAll; simp only [Go.Proofs.Ythdldlpflieeoaa.ruleAll] at C)) | ((fail_if_success have := h_b18); ((with_reducible apply wpM_alloc' M 46 (trs (fun _ => 0) (fun _ => 0) (fun _ => 0))); rfl; exact ⟨rfl, _, zero_trp _, rfl⟩; clear M; (try clear C); intro b18 w9 h_b18 M; have C := M.ruleAll; simp only [Go.Proofs.Ythdldlpflieeoaa.ruleAll] at C)) | ((with_reducible apply wpM_sta' M 0 46 (trs x3 y3 z3)); rfl; rfl; rfl; rfl; (first | exact .inl (by assumption) | exact .inr rfl | exact .inr (by assumption)); exact ⟨rfl, inf_trp.trans (congrArg some (trs_size ..).symm), flat_trs _ _ _⟩; (simp only [entCells, List.getElem?_cons_zero, List.getElem?_cons_succ, trs_size, trs_size]); clear M; (try clear C); intro w9 M; simp only [List.set_cons_zero, List.set_cons_succ, entBlk, entT, List.getElem?_cons_zero, List.getElem?_cons_succ] at M; have C := M.ruleAll; simp only [Go.Proofs.Ythdldlpflieeoaa.ruleAll] at C) | ((with_reducible apply wpM_lda' M 1 46 0 (trs f3 g3 h3)); rfl; rfl; rfl; exact ⟨rfl, inf_trp.trans (congrArg some (trs_size ..).symm), _, und_trp, rfl⟩; exact whole_of rfl) | (go_at_call 40; ((with_reducible refine (HS3.out _).mono ?_); rintro e w1 ⟨rfl, hb⟩; have hsz := M.size; (try (have G9 := G.later hb; clear G; have G := G9; clear G9)); have M9 := M.later hb; clear M; (try clear C); have M := M9; clear M9; have C := M.ruleAll; simp only [Go.Proofs.Ythdldlpflieeoaa.ruleAll] at C)) | ((with_reducible apply wpM_alloc' M 46 (trs (fun _ => 0) (fun _ => 0) (fun _ => 0))); rfl; exact ⟨rfl, _, zero_trp _, rfl⟩; clear M; (try clear C); intro b20 w9 h_b20 M; have C := M.ruleAll; simp only [Go.Proofs.Ythdldlpflieeoaa.ruleAll] at C))
  apply wp_region_mm M 14 (by kernel_rfl) (by kernel_rfl); (simp only [List.take_succ_cons, List.take_zero]; repeat (first | exact wpText_nil | (apply wpText_cons; (intro w2 M; have C := M.ruleAll; simp only [Go.Proofs.Ythdldlpflieeoaa.ruleAll] at C; go_wp2_with (first | ((with_reducible apply wpM_lda' M 1 46 0 (trs x3 y3 z3)); rfl; rfl; rfl; exact ⟨rfl, inf_trp.trans (congrArg some (trs_size ..).symm), _, und_trp, rfl⟩; exact whole_of rfl) | ((with_reducible apply wpM_lda' M 0 46 0 (trs x3 y3 z3)); rfl; rfl; rfl; exact ⟨rfl, inf_trp.trans (congrArg some (trs_size ..).symm), _, und_trp, rfl⟩; exact whole_of rfl) | (refine wpList_agg_g .neq 46 _ _ _ rfl rfl (trs x3 y3 z3) (trs x3 y3 z3) rfl rfl egt_trp _ (neq_trs _ _ _ _) ?_) | ((with_reducible apply wpM_lda' M 2 46 0 (trs f3 g3 h3)); rfl; rfl; rfl; exact ⟨rfl, inf_trp.trans (congrArg some (trs_size ..).symm), _, und_trp, rfl⟩; exact whole_of rfl) | (go_at_call 41; ((with_reducible refine (HJ3.out _).mono ?_); rintro e w1 ⟨rfl, hb⟩; have hsz := M.size; (try (have G9 := G.later hb; clear G; have G := G9; clear G9)); have M9 := M.later hb; clear M; (try clear C); have M := M9; clear M9; have C := M.ruleAll; simp only [Go.Proofs.Ythdldlpflieeoaa.ruleAll] at C))); exact ⟨rfl, rfl, M⟩); rfl))); (clear M; (try clear C); intro w2 M; simp only [List.drop_succ_cons, List.drop_zero]; have C := M.ruleAll; simp only [Go.Proofs.Ythdldlpflieeoaa.ruleAll] at C)
  go_wp2_with (first | (go_at_call 42; ((with_reducible refine (HK3.out _).mono ?_); rintro e w1 ⟨rfl, hb⟩; have hsz := M.size; (try (have G9 := G.later hb; clear G; have G := G9; clear G9)); have M9 := M.later hb; clear M; (try clear C); have M := M9; clear M9; have C := M.ruleAll; simp only [Go.Proofs.Ythdldlpflieeoaa.ruleAll] at C)) | (go_at_call 43; fail))
  clear HI3 HS3 HJ3 HK3 hcc3 hbb3
  have M9 := (((M.drop 0).drop 0).drop 0)
  clear M; (try clear C)
  have M := M9
  clear M9
  simp only [List.eraseIdx_cons_zero] at M
  have C := M.ruleAll; simp only [Go.Proofs.Ythdldlpflieeoaa.ruleAll] at C
  go_wp2_with (first | (go_at_call 43; ((with_reducible refine (HD4.out.at M 3 rfl).mono ?_); rintro e w3 ⟨_, rfl, ⟨n4, t4, f4, g4, h4, rfl, hN0, hN1, ht, hf, hg, hh⟩, M9⟩; clear M; (try clear C); have M := M9; clear M9; have C := M.ruleAll; simp only [Go.Proofs.Ythdldlpflieeoaa.ruleAll] at C)) | ((with_reducible apply wpM_alloc' M 37 (sqs 0 fun _ _ => 0)); rfl; exact ⟨rfl, _, zero_sqs _, rfl⟩; clear M; (try clear C); intro b22 w9 h_b22 M; have C := M.ruleAll; simp only [Go.Proofs.Ythdldlpflieeoaa.ruleAll] at C) | ((with_reducible apply wpM_alloc' M 46 (trs (fun _ => 0) (fun _ => 0) (fun _ => 0))); rfl; exact ⟨rfl, _, zero_trp _, rfl⟩; clear M; (try clear C); intro b23 w9 h_b23 M; have C := M.ruleAll; simp only [Go.Proofs.Ythdldlpflieeoaa.ruleAll] at C) | ((with_reducible apply wpM_sta' M 1 37 (sqs n4 t4)); rfl; rfl; rfl; rfl; (first | exact .inl (by assumption) | exact .inr rfl | exact .inr (by assumption)); exact ⟨rfl, inf_sqs.trans (congrArg some (sqs_size ..).symm), flat_sqs _ _⟩; (simp only [entCells, List.getElem?_cons_zero, List.getElem?_cons_succ, sqs_size, sqs_size]); clear M; (try clear C); intro w9 M; simp only [List.set_cons_zero, List.set_cons_succ, entBlk, entT, List.getElem?_cons_zero, List.getElem?_cons_succ] at M; have C := M.ruleAll; simp only [Go.Proofs.Ythdldlpflieeoaa.ruleAll] at C) | ((with_reducible apply wpM_sta' M 0 46 (trs f4 g4 h4)); rfl; rfl; rfl; rfl; (first | exact .inl (by assumption) | exact .inr rfl | exact .inr (by assumption)); exact ⟨rfl, inf_trp.trans (congrArg some (trs_size ..).symm), flat_trs _ _ _⟩; (simp only [entCells, List.getElem?_cons_zero, List.getElem?_cons_succ, trs_size, trs_size]); clear M; (try clear C); intro w9 M; simp only [List.set_cons_zero, List.set_cons_succ, entBlk, entT, List.getElem?_cons_zero, List.getElem?_cons_succ] at M; have C := M.ruleAll; simp only [Go.Proofs.Ythdldlpflieeoaa.ruleAll] at C) | ((with_reducible apply wpM_lda' M 1 37 0 (sqs n4 t4)); rfl; rfl; rfl; exact ⟨rfl, inf_sqs.trans (congrArg some (sqs_size ..).symm), _, und_sqs, rfl⟩; exact whole_of rfl) | ((with_reducible apply wpM_lda' M 0 46 0 (trs f4 g4 h4)); rfl; rfl; rfl; exact ⟨rfl, inf_trp.trans (congrArg some (trs_size ..).symm), _, und_trp, rfl⟩; exact whole_of rfl) | (go_at_call 44; fail))
  have hi4 := isAutotopism_any n4 t4 f4 g4 h4 ht hf hg hh
  have hs4 := specIsAutotopism_any n4 t4 f4 g4 h4 ht hf hg hh
  unfold auR at hi4 hs4
  generalize (bif ioB n4 t4 f4 g4 h4 then (0 : Int) else 1) = c4 at hi4 hs4
  generalize (ioB n4 t4 f4 g4 h4 && eqT (ioT n4 t4 f4 g4 h4) t4) = B4 at hi4 hs4
  have hcc4 : (c4 != c4) = false := by simp
  have hbb4 : (B4 != B4) = false := by simp
  have HI4 := Hid2.mk hi4
  have HS4 := Hid2.mk hs4
  clear hi4 hs4 ht hf hg hh
  go_wp2_with (first | (go_at_call 44; ((with_reducible refine (HI4.out _).mono ?_); rintro e w1 ⟨rfl, hb⟩; have hsz := M.size; (try (have G9 := G.later hb; clear G; have G := G9; clear G9)); have M9 := M.later hb; clear M; (try clear C); have M := M9; clear M9; have C := M.ruleAll; simp only [Go.Proofs.Ythdldlpflieeoaa.ruleAll] at C)) | ((with_reducible apply wpM_lda' M 1 37 0 (sqs n4 t4)); rfl; rfl; rfl; exact ⟨rfl, inf_sqs.trans (congrArg some (sqs_size ..).symm), _, und_sqs, rfl⟩; exact whole_of rfl) | ((with_reducible apply wpM_lda' M 0 46 0 (trs f4 g4 h4)); rfl; rfl; rfl; exact ⟨rfl, inf_trp.trans (congrArg some (trs_size ..).symm), _, und_trp, rfl⟩; exact whole_of rfl) | (go_at_call 45; ((with_reducible refine (HS4.out _).mono ?_); rintro e w1 ⟨rfl, hb⟩; have hsz := M.size; (try (have G9 := G.later hb; clear G; have G := G9; clear G9)); have M9 := M.later hb; clear M; (try clear C); have M := M9; clear M9; have C := M.ruleAll; simp only [Go.Proofs.Ythdldlpflieeoaa.ruleAll] at C)) | (go_at_call 46; fail))
  clear HI4 HS4 hcc4 hbb4
  have M9 := ((M.drop 0).drop 0)
  clear M; (try clear C)
  have M := M9
  clear M9
  simp only [List.eraseIdx_cons_zero] at M
  have C := M.ruleAll; simp only [Go.Proofs.Ythdldlpflieeoaa.ruleAll] at C
  go_wp2_with (first | (go_at_call 46; ((with_reducible refine (HD5.out.at M 3 rfl).mono ?_); rintro e w3 ⟨_, rfl, ⟨n5, t5, x5, y5, rfl, hN0, hN1, ht, hx5, hy5⟩, M9⟩; clear M; (try clear C); have M := M9; clear M9; have C := M.ruleAll; simp only [Go.Proofs.Ythdldlpflieeoaa.ruleAll] at C)) | ((with_reducible apply wpM_alloc' M 37 (sqs 0 fun _ _ => 0)); rfl; exact ⟨rfl, _, zero_sqs _, rfl⟩; clear M; (try clear C); intro b28 w9 h_b28 M; have C := M.ruleAll; simp only [Go.Proofs.Ythdldlpflieeoaa.ruleAll] at C) | ((with_reducible apply wpM_sta' M 0 37 (sqs n5 t5)); rfl; rfl; rfl; rfl; (first | exact .inl (by assumption) | exact .inr rfl | exact .inr (by assumption)); exact ⟨rfl, inf_sqs.trans (congrArg some (sqs_size ..).symm), flat_sqs _ _⟩; (simp only [entCells, List.getElem?_cons_zero, List.getElem?_cons_succ, sqs_size, sqs_size]); clear M; (try clear C); intro w9 M; simp only [List.set_cons_zero, List.set_cons_succ, entBlk, entT, List.getElem?_cons_zero, List.getElem?_cons_succ] at M; have C := M.ruleAll; simp only [Go.Proofs.Ythdldlpflieeoaa.ruleAll] at C) | ((with_reducible apply wpM_lda' M 0 37 0 (sqs n5 t5)); rfl; rfl; rfl; exact ⟨rfl, inf_sqs.trans (congrArg some (sqs_size ..).symm), _, und_sqs, rfl⟩; exact whole_of rfl) | (go_at_call 47; fail))
  have hi5 := loopAt_any n5 t5 x5 y5 ht hx5 hy5
  have hs5 := specLoopAt_any n5 t5 x5 y5 ht hx5 hy5
  unfold laR at hi5 hs5
  have hx5' : (x5 : Int) < 256 := by omega
  have hy5' : (y5 : Int) < 256 := by omega
  obtain ⟨n6, t6, c6, hi6, hs6, h6⟩ : ∃ (n6 : Int) (t6 : Nat → Nat → Nat) (c6 : Int), (∀ w1, Calls Try.prog 47 #[.agg (sqs n5 t5), .int .u8 (x5 : Int), .int .u8 (y5 : Int)] w1 fun e w' => e = .returned (.tuple #[.agg (sqs n6 t6), .int .i64 c6]) ∧ Below w1.heap.size w1 w') ∧
      (∀ w1, Calls Try.prog 48 #[.agg (sqs n5 t5), .int .u8 (x5 : Int), .int .u8 (y5 : Int)] w1 fun e w' => e = .returned (.tuple #[.agg (sqs n6 t6), .int .i64 c6]) ∧ Below w1.heap.size w1 w') ∧
      ((c6 == 0) = false ∨ ((c6 == 0) = true ∧ ∀ w1, Calls Try.prog 49 #[.agg (sqs n6 t6)] w1 fun e w' => e = .returned (.bool true) ∧ Below w1.heap.size w1 w')) := by
    refine ⟨_, _, _, hi5, hs5, ?_⟩
    cases hl : laB n5 t5 x5 y5 with
    | true =>
      refine .inr ⟨by rw [c2_ok hl]; rfl, fun w1 => ?_⟩
      have hlp := la_loop hl
      have h9 := isLoop_any n5 (loopAt n5.toNat t5 x5 y5) w1 (byt2_cut hlp.sq)
      rw [isLp_true.2 hlp] at h9
      exact h9
    | false => exact .inl (by rcases c2_bad hl with h | h <;> rw [h] <;> rfl)
  have hcc6 : (c6 != c6) = false := by simp
  have HI6 := Hid2.mk hi6
  have HS6 := Hid2.mk hs6
  have h7 : ((n1 == 0) = true ∧ (c1 != 0) = true) ∨ ((c1 != 0) = false ∧ ∃ f8 g8 h8 e8 : Nat → Nat,
      (∀ w1, Calls Try.prog 39 #[.agg (trs f g h), .int .i64 n] w1 fun e w' => e = .returned (.tuple #[.agg (trs f8 g8 h8), .int .i64 0]) ∧ Below w1.heap.size w1 w') ∧
      (∀ w1, Calls Try.prog 33 #[.agg (sqs n1 t1), .agg (trs f8 g8 h8)] w1 fun e w' => e = .returned (.tuple #[.agg (sqs n t), .int .i64 0]) ∧ Below w1.heap.size w1 w') ∧
      (∀ w1, Calls Try.prog 36 #[.agg (trs f g h), .agg (trs f8 g8 h8), .int .i64 n] w1 fun e w' => e = .returned (.tuple #[.agg (trs e8 e8 e8), .int .i64 0]) ∧ Below w1.heap.size w1 w') ∧
      (∀ w1, Calls Try.prog 44 #[.agg (sqs n t), .agg (trs e8 e8 e8)] w1 fun e w' => e = .returned (.tuple #[.bool true, .int .i64 0]) ∧ Below w1.heap.size w1 w') ∧
      (∀ w1, Calls Try.prog 24 #[.agg (sqs n1 t1)] w1 fun e w' => e = .returned (.bool true) ∧ Below w1.heap.size w1 w')) := by
    rw [E1.out, E2.out, E3.out]
    obtain ⟨ht, hf, hg, hh⟩ := HB0.out
    cases hb : ioB n t f g h with
    | false => exact .inl ⟨rfl, rfl⟩
    | true =>
      obtain ⟨k1, k2, k3, k4, k5, k6, k7, k8, k9⟩ := back_all hb
      have hsq := ioT_sq hb
      have hn : n.toNat ≤ 256 := by have := hsq.hi; omega
      refine .inr ⟨rfl, bkTo f n.toNat, bkTo g n.toNat, bkTo h n.toNat, idTo n.toNat, fun w1 => ?_, fun w1 => ?_, fun w1 => ?_, fun w1 => ?_, fun w1 => ?_⟩
      · have h9 := backTripleOf_any n f g h hf hg hh w1
        rw [k1] at h9
        exact h9
      · have h9 := isotopeOf_any n (ioT n t f g h) _ _ _ (byt2_cut hsq) (bkTo_byt (p := f) hn) (bkTo_byt (p := g) hn) (bkTo_byt (p := h) hn) w1
        rw [k3] at h9
        unfold sqR at h9
        simp only [cond_true] at h9
        rw [k4] at h9
        exact h9
      · have h9 := thenTriplesOf_any n f g h _ _ _ hf hg hh (bkTo_byt (p := f) hn) (bkTo_byt (p := g) hn) (bkTo_byt (p := h) hn) w1
        rw [k1, k2, k5, k6, k7] at h9
        exact h9
      · have h9 := isAutotopism_any n t _ _ _ ht (idTo_byt hn) (idTo_byt hn) (idTo_byt hn) w1
        rw [k8, k9] at h9
        exact h9
      · have h9 := isSquare_any n (ioT n t f g h) w1 (byt2_cut hsq)
        rw [isSq_true.2 hsq] at h9
        exact h9
  clear hi5 hs5 hi6 hs6 ht
  clear HB0 E1 E2 E3
  rcases h6 with h6 | ⟨h6, hlp⟩ <;> rcases h7 with ⟨h7, h8⟩ | ⟨h7, f8, g8, h8, e8, hbk, hag, hth, hau, hsq⟩
  rotate_left
  have HBK := Hid2.mk hbk
  have HAG := Hid2.mk hag
  have HTH := Hid2.mk hth
  have HAU := Hid2.mk hau
  have HSQ := Hid2.mk hsq
  clear hbk hag hth hau hsq
  rotate_left
  have HLP := Hid2.mk hlp
  clear hlp
  rotate_left
  have HLP := Hid2.mk hlp
  have HBK := Hid2.mk hbk
  have HAG := Hid2.mk hag
  have HTH := Hid2.mk hth
  have HAU := Hid2.mk hau
  have HSQ := Hid2.mk hsq
  clear hbk hag hth hau hsq hlp
  rotate_left
  all_goals (go_wp2_with (first | (go_at_call 47; ((with_reducible refine (HI6.out _).mono ?_); rintro e w1 ⟨rfl, hb⟩; have hsz := M.size; (try (have G9 := G.later hb; clear G; have G := G9; clear G9)); have M9 := M.later hb; clear M; (try clear C); have M := M9; clear M9; have C := M.ruleAll; simp only [Go.Proofs.Ythdldlpflieeoaa.ruleAll] at C)) | ((fail_if_success have := h_b31); ((with_reducible apply wpM_alloc' M 37 (sqs 0 fun _ _ => 0)); rfl; exact ⟨rfl, _, zero_sqs _, rfl⟩; clear M; (try clear C); intro b31 w9 h_b31 M; have C := M.ruleAll; simp only [Go.Proofs.Ythdldlpflieeoaa.ruleAll] at C)) | ((fail_if_success have := h_b35); ((with_reducible apply wpM_sta' M 0 37 (sqs n6 t6)); rfl; rfl; rfl; rfl; (first | exact .inl (by assumption) | exact .inr rfl | exact .inr (by assumption)); exact ⟨rfl, inf_sqs.trans (congrArg some (sqs_size ..).symm), flat_sqs _ _⟩; (simp only [entCells, List.getElem?_cons_zero, List.getElem?_cons_succ, sqs_size, sqs_size]); clear M; (try clear C); intro w9 M; simp only [List.set_cons_zero, List.set_cons_succ, entBlk, entT, List.getElem?_cons_zero, List.getElem?_cons_succ] at M; have C := M.ruleAll; simp only [Go.Proofs.Ythdldlpflieeoaa.ruleAll] at C)) | ((with_reducible apply wpM_lda' M 1 37 0 (sqs n5 t5)); rfl; rfl; rfl; exact ⟨rfl, inf_sqs.trans (congrArg some (sqs_size ..).symm), _, und_sqs, rfl⟩; exact whole_of rfl) | (go_at_call 48; ((with_reducible refine (HS6.out _).mono ?_); rintro e w1 ⟨rfl, hb⟩; have hsz := M.size; (try (have G9 := G.later hb; clear G; have G := G9; clear G9)); have M9 := M.later hb; clear M; (try clear C); have M := M9; clear M9; have C := M.ruleAll; simp only [Go.Proofs.Ythdldlpflieeoaa.ruleAll] at C)) | ((fail_if_success have := h_b33); ((with_reducible apply wpM_alloc' M 37 (sqs 0 fun _ _ => 0)); rfl; exact ⟨rfl, _, zero_sqs _, rfl⟩; clear M; (try clear C); intro b33 w9 h_b33 M; have C := M.ruleAll; simp only [Go.Proofs.Ythdldlpflieeoaa.ruleAll] at C)) | ((with_reducible apply wpM_lda' M 1 37 0 (sqs n6 t6)); rfl; rfl; rfl; exact ⟨rfl, inf_sqs.trans (congrArg some (sqs_size ..).symm), _, und_sqs, rfl⟩; exact whole_of rfl) | ((with_reducible apply wpM_lda' M 0 37 0 (sqs n6 t6)); rfl; rfl; rfl; exact ⟨rfl, inf_sqs.trans (congrArg some (sqs_size ..).symm), _, und_sqs, rfl⟩; exact whole_of rfl) | (refine wpList_agg_g .neq 37 _ _ _ rfl rfl (sqs n6 t6) (sqs n6 t6) rfl rfl egt_sqs _ (neq_sqs _ _ _) ?_) | (go_at_call 49; ((with_reducible refine (HLP.out _).mono ?_); rintro e w1 ⟨rfl, hb⟩; have hsz := M.size; (try (have G9 := G.later hb; clear G; have G := G9; clear G9)); have M9 := M.later hb; clear M; (try clear C); have M := M9; clear M9; have C := M.ruleAll; simp only [Go.Proofs.Ythdldlpflieeoaa.ruleAll] at C)) | ((with_reducible apply wpM_lda' M 4 46 0 (trs f g h)); rfl; rfl; rfl; exact ⟨rfl, inf_trp.trans (congrArg some (trs_size ..).symm), _, und_trp, rfl⟩; exact whole_of rfl) | (go_at_call 39; ((with_reducible refine (HBK.out _).mono ?_); rintro e w1 ⟨rfl, hb⟩; have hsz := M.size; (try (have G9 := G.later hb; clear G; have G := G9; clear G9)); have M9 := M.later hb; clear M; (try clear C); have M := M9; clear M9; have C := M.ruleAll; simp only [Go.Proofs.Ythdldlpflieeoaa.ruleAll] at C)) | ((fail_if_success have := h_b35); ((with_reducible apply wpM_alloc' M 46 (trs (fun _ => 0) (fun _ => 0) (fun _ => 0))); rfl; exact ⟨rfl, _, zero_trp _, rfl⟩; clear M; (try clear C); intro b35 w9 h_b35 M; have C := M.ruleAll; simp only [Go.Proofs.Ythdldlpflieeoaa.ruleAll] at C)) | ((with_reducible apply wpM_sta' M 0 46 (trs f8 g8 h8)); rfl; rfl; rfl; rfl; (first | exact .inl (by assumption) | exact .inr rfl | exact .inr (by assumption)); exact ⟨rfl, inf_trp.trans (congrArg some (trs_size ..).symm), flat_trs _ _ _⟩; (simp only [entCells, List.getElem?_cons_zero, List.getElem?_cons_succ, trs_size, trs_size]); clear M; (try clear C); intro w9 M; simp only [List.set_cons_zero, List.set_cons_succ, entBlk, entT, List.getElem?_cons_zero, List.getElem?_cons_succ] at M; have C := M.ruleAll; simp only [Go.Proofs.Ythdldlpflieeoaa.ruleAll] at C) | ((with_reducible apply wpM_lda' M 4 37 0 (sqs n1 t1)); rfl; rfl; rfl; exact ⟨rfl, inf_sqs.trans (congrArg some (sqs_size ..).symm), _, und_sqs, rfl⟩; exact whole_of rfl) | ((with_reducible apply wpM_lda' M 0 46 0 (trs f8 g8 h8)); rfl; rfl; rfl; exact ⟨rfl, inf_trp.trans (congrArg some (trs_size ..).symm), _, und_trp, rfl⟩; exact whole_of rfl) | (go_at_call 33; ((with_reducible refine (HAG.out _).mono ?_); rintro e w1 ⟨rfl, hb⟩; have hsz := M.size; (try (have G9 := G.later hb; clear G; have G := G9; clear G9)); have M9 := M.later hb; clear M; (try clear C); have M := M9; clear M9; have C := M.ruleAll; simp only [Go.Proofs.Ythdldlpflieeoaa.ruleAll] at C)) | ((fail_if_success have := h_b37); ((with_reducible apply wpM_alloc' M 37 (sqs 0 fun _ _ => 0)); rfl; exact ⟨rfl, _, zero_sqs _, rfl⟩; clear M; (try clear C); intro b37 w9 h_b37 M; have C := M.ruleAll; simp only [Go.Proofs.Ythdldlpflieeoaa.ruleAll] at C)) | ((with_reducible apply wpM_sta' M 0 37 (sqs n t)); rfl; rfl; rfl; rfl; (first | exact .inl (by assumption) | exact .inr rfl | exact .inr (by assumption)); exact ⟨rfl, inf_sqs.trans (congrArg some (sqs_size ..).symm), flat_sqs _ _⟩; (simp only [entCells, List.getElem?_cons_zero, List.getElem?_cons_succ, sqs_size, sqs_size]); clear M; (try clear C); intro w9 M; simp only [List.set_cons_zero, List.set_cons_succ, entBlk, entT, List.getElem?_cons_zero, List.getElem?_cons_succ] at M; have C := M.ruleAll; simp only [Go.Proofs.Ythdldlpflieeoaa.ruleAll] at C) | ((with_reducible apply wpM_lda' M 6 46 0 (trs f g h)); rfl; rfl; rfl; exact ⟨rfl, inf_trp.trans (congrArg some (trs_size ..).symm), _, und_trp, rfl⟩; exact whole_of rfl) | ((with_reducible apply wpM_lda' M 1 46 0 (trs f8 g8 h8)); rfl; rfl; rfl; exact ⟨rfl, inf_trp.trans (congrArg some (trs_size ..).symm), _, und_trp, rfl⟩; exact whole_of rfl) | (go_at_call 36; ((with_reducible refine (HTH.out _).mono ?_); rintro e w1 ⟨rfl, hb⟩; have hsz := M.size; (try (have G9 := G.later hb; clear G; have G := G9; clear G9)); have M9 := M.later hb; clear M; (try clear C); have M := M9; clear M9; have C := M.ruleAll; simp only [Go.Proofs.Ythdldlpflieeoaa.ruleAll] at C)) | ((with_reducible apply wpM_alloc' M 46 (trs (fun _ => 0) (fun _ => 0) (fun _ => 0))); rfl; exact ⟨rfl, _, zero_trp _, rfl⟩; clear M; (try clear C); intro b39 w9 h_b39 M; have C := M.ruleAll; simp only [Go.Proofs.Ythdldlpflieeoaa.ruleAll] at C) | ((with_reducible apply wpM_sta' M 0 46 (trs e8 e8 e8)); rfl; rfl; rfl; rfl; (first | exact .inl (by assumption) | exact .inr rfl | exact .inr (by assumption)); exact ⟨rfl, inf_trp.trans (congrArg some (trs_size ..).symm), flat_trs _ _ _⟩; (simp only [entCells, List.getElem?_cons_zero, List.getElem?_cons_succ, trs_size, trs_size]); clear M; (try clear C); intro w9 M; simp only [List.set_cons_zero, List.set_cons_succ, entBlk, entT, List.getElem?_cons_zero, List.getElem?_cons_succ] at M; have C := M.ruleAll; simp only [Go.Proofs.Ythdldlpflieeoaa.ruleAll] at C) | ((with_reducible apply wpM_lda' M 8 37 0 (sqs n t)); rfl; rfl; rfl; exact ⟨rfl, inf_sqs.trans (congrArg some (sqs_size ..).symm), _, und_sqs, rfl⟩; exact whole_of rfl) | ((with_reducible apply wpM_lda' M 0 46 0 (trs e8 e8 e8)); rfl; rfl; rfl; exact ⟨rfl, inf_trp.trans (congrArg some (trs_size ..).symm), _, und_trp, rfl⟩; exact whole_of rfl) | (go_at_call 44; ((with_reducible refine (HAU.out _).mono ?_); rintro e w1 ⟨rfl, hb⟩; have hsz := M.size; (try (have G9 := G.later hb; clear G; have G := G9; clear G9)); have M9 := M.later hb; clear M; (try clear C); have M := M9; clear M9; have C := M.ruleAll; simp only [Go.Proofs.Ythdldlpflieeoaa.ruleAll] at C)) | ((with_reducible apply wpM_lda' M 1 37 0 (sqs n t)); rfl; rfl; rfl; exact ⟨rfl, inf_sqs.trans (congrArg some (sqs_size ..).symm), _, und_sqs, rfl⟩; exact whole_of rfl) | (refine wpList_agg_g .eql 37 _ _ _ rfl rfl (sqs n t) (sqs n t) rfl rfl egt_sqs _ (eql_sqs _ _ _) ?_) | ((with_reducible apply wpM_lda' M 6 37 0 (sqs n1 t1)); rfl; rfl; rfl; exact ⟨rfl, inf_sqs.trans (congrArg some (sqs_size ..).symm), _, und_sqs, rfl⟩; exact whole_of rfl) | (go_at_call 24; ((with_reducible refine (HSQ.out _).mono ?_); rintro e w1 ⟨rfl, hb⟩; have hsz := M.size; (try (have G9 := G.later hb; clear G; have G := G9; clear G9)); have M9 := M.later hb; clear M; (try clear C); have M := M9; clear M9; have C := M.ruleAll; simp only [Go.Proofs.Ythdldlpflieeoaa.ruleAll] at C))))
  all_goals
    go_ret
    first | exact ⟨rfl, M.below⟩ | (rw [h7]; exact ⟨rfl, M.below⟩)
end Go.Proofs.Ythdldlpflieeoaa

