/- The laws that hold, on both sides; the laws LawsOf and LawFails: their walks. -/
import Derived.Test.YtpmemoabkbmljaaDoorC95
import Derived.Test.YtpmemoabkbmljaaDoorU0
namespace Go.Proofs.YtpmemoabkbmljaaDoor
set_option linter.unusedSimpArgs false
set_option linter.unusedVariables false
open Go Go.RowKit

noncomputable def loRes (n : Int) (t : Nat → Nat → Nat) : List Int × Int := if isLp n t = true then (selTo (lawB n.toNat t) 20, 0) else ([], 1)
theorem lo_len (n : Int) (t : Nat → Nat → Nat) : (loRes n t).1.length ≤ 20 := by
  unfold loRes
  split
  · exact selTo_len _ 20
  · exact Nat.zero_le _
theorem lf_len (n : Int) (t : Nat → Nat → Nat) (k : Int) : (lfRes n t k).1.length ≤ 20 := by
  unfold lfRes
  split
  · split
    · exact Nat.zero_le _
    · exact Nat.le_trans (ff_len _) (by decide)
  · exact Nat.zero_le _
theorem lp_nat {n : Int} {t : Nat → Nat → Nat} (h : isLp n t = true) : ∃ N : Nat, n = N ∧ IsSq (N : Int) t := by
  have hs := (isLp_true.1 h).sq
  exact ⟨n.toNat, by have := hs.lo; omega, by rw [show ((n.toNat : Nat) : Int) = n by have := hs.lo; omega]; exact hs⟩
set_option maxRecDepth 100000 in
set_option maxHeartbeats 2000000 in
theorem specLawsOf_any (n : Int) (t : Nat → Nat → Nat) (hby : Byt2 t) (w : World) : Calls Tryd.prog 7 #[.agg (sqs n t)] w (FaPost (loRes n t).1 (loRes n t).2 w) := by
  have M := Mm.start no w
  have H1 := fun w1 => l01Loop_any n t w1 hby
  cases hl : isLp n t with
  | false =>
    have hres : loRes n t = ([], 1) := if_neg (by rw [hl]; exact Bool.false_ne_true)
    rw [hres]
    rw [hl] at H1
    clear hby hl hres
    go_enter Tryd.func7, Tryd.ntmps7
    go_wp2_with (first | ((with_reducible apply wpM_box' M 31 (sqs n t)); rfl; exact ⟨rfl, rfl⟩; clear M; (try clear C); intro bq w9 h_bq M; have C := M.ruleAll; simp only [Go.Proofs.YtpmemoabkbmljaaDoor.ruleAll] at C) | ((with_reducible apply wpM_lda' M 0 31 0 (sqs n t)); rfl; rfl; rfl; exact ⟨rfl, inf_sqs.trans (congrArg some (sqs_size ..).symm), _, und_sqs, rfl⟩; exact whole_of rfl) | (go_at_call 19; ((with_reducible refine (H1 _).mono ?_); rintro e w1 ⟨rfl, hb⟩; have hsz := M.size; (try (have G9 := G.later hb; clear G; have G := G9; clear G9)); have M9 := M.later hb; clear M; (try clear C); have M := M9; clear M9; have C := M.ruleAll; simp only [Go.Proofs.YtpmemoabkbmljaaDoor.ruleAll] at C)))
    go_ret2
    exact FaPost.nil2 M.below 1
  | true =>
    obtain ⟨N, rfl, hs⟩ := lp_nat hl
    have hres : loRes N t = (selTo (lawB N t) 20, 0) := if_pos hl
    rw [hres]
    rw [hl] at H1
    have H2 := Hid2.mk (fun w1 => l07Laws_any N t hs w1)
    generalize selTo (lawB N t) 20 = out at H2 ⊢
    clear hby hl hres hs
    go_enter Tryd.func7, Tryd.ntmps7
    go_wp2_with (first | ((with_reducible apply wpM_box' M 31 (sqs (N : Int) t)); rfl; exact ⟨rfl, rfl⟩; clear M; (try clear C); intro bq w9 h_bq M; have C := M.ruleAll; simp only [Go.Proofs.YtpmemoabkbmljaaDoor.ruleAll] at C) | ((with_reducible apply wpM_lda' M 0 31 0 (sqs (N : Int) t)); rfl; rfl; rfl; exact ⟨rfl, inf_sqs.trans (congrArg some (sqs_size ..).symm), _, und_sqs, rfl⟩; exact whole_of rfl) | (go_at_call 19; ((with_reducible refine (H1 _).mono ?_); rintro e w1 ⟨rfl, hb⟩; have hsz := M.size; (try (have G9 := G.later hb; clear G; have G := G9; clear G9)); have M9 := M.later hb; clear M; (try clear C); have M := M9; clear M9; have C := M.ruleAll; simp only [Go.Proofs.YtpmemoabkbmljaaDoor.ruleAll] at C)) | (go_at_call 20; fail))
    refine (H2.out _).mono ?_
    rintro e w2 ⟨v, rfl, M'⟩
    have M9 := M.joinRow M'
    obtain ⟨pp, cc, rfl⟩ := own_form (M9.row 0 rfl)
    clear M; (try clear C)
    have M := M9
    clear M9 M'
    go_wp2
    go_ret2
    exact ⟨_, rfl, M.sub [0] (by decide)⟩
set_option maxRecDepth 100000 in
set_option maxHeartbeats 2000000 in
theorem implLawsOf_any (n : Int) (t : Nat → Nat → Nat) (hby : Byt2 t) (w : World) (hg : glb w) : Calls Tryd.prog 9 #[.agg (sqs n t)] w (FaPost (loRes n t).1 (loRes n t).2 w) := by
  have M := Mm.start no w
  have H1 := fun w1 => isLoop_any n t w1 hby
  cases hl : isLp n t with
  | false =>
    have hres : loRes n t = ([], 1) := if_neg (by rw [hl]; exact Bool.false_ne_true)
    rw [hres]
    rw [hl] at H1
    clear hby hl hres hg
    go_enter Tryd.func9, Tryd.ntmps9
    go_wp2_with (first | ((with_reducible apply wpM_box' M 31 (sqs n t)); rfl; exact ⟨rfl, rfl⟩; clear M; (try clear C); intro bq w9 h_bq M; have C := M.ruleAll; simp only [Go.Proofs.YtpmemoabkbmljaaDoor.ruleAll] at C) | ((with_reducible apply wpM_lda' M 0 31 0 (sqs n t)); rfl; rfl; rfl; exact ⟨rfl, inf_sqs.trans (congrArg some (sqs_size ..).symm), _, und_sqs, rfl⟩; exact whole_of rfl) | (go_at_call 22; ((with_reducible refine (H1 _).mono ?_); rintro e w1 ⟨rfl, hb⟩; have hsz := M.size; (try (have G9 := G.later hb; clear G; have G := G9; clear G9)); have M9 := M.later hb; clear M; (try clear C); have M := M9; clear M9; have C := M.ruleAll; simp only [Go.Proofs.YtpmemoabkbmljaaDoor.ruleAll] at C)))
    go_ret2
    exact FaPost.nil2 M.below 1
  | true =>
    obtain ⟨N, rfl, hs⟩ := lp_nat hl
    have hres : loRes N t = (selTo (lawB N t) 20, 0) := if_pos hl
    rw [hres]
    rw [hl] at H1
    have hmf : ∀ (fn : Fn) (first cap : Array Value) (w : World), (Instr.makeFunc fn first cap).run Tryd.prog w = .ok (.func fn first cap) w := fun _ _ _ _ => rfl
    have H2 := Hid2.mk (fun w1 (hb : Below w.heap.size w w1) => lawsThat_any (lawB N t) 24 #[.agg (sqs (N : Int) t)] #[] w1 (enters_of (P := Tryd.prog) (f := 24) (by exact Tryd.func24) (by kernel_rfl) rfl) (fun k hk w2 hb2 => obeys_any N t hs k hk w2 ((hg.later hb).later hb2)))
    generalize selTo (lawB N t) 20 = out at H2 ⊢
    clear hby hl hres hs hg
    go_enter Tryd.func9, Tryd.ntmps9
    go_wp2_with (first | ((with_reducible apply wpM_box' M 31 (sqs (N : Int) t)); rfl; exact ⟨rfl, rfl⟩; clear M; (try clear C); intro bq w9 h_bq M; have C := M.ruleAll; simp only [Go.Proofs.YtpmemoabkbmljaaDoor.ruleAll] at C) | ((with_reducible apply wpM_lda' M 0 31 0 (sqs (N : Int) t)); rfl; rfl; rfl; exact ⟨rfl, inf_sqs.trans (congrArg some (sqs_size ..).symm), _, und_sqs, rfl⟩; exact whole_of rfl) | (go_at_call 22; ((with_reducible refine (H1 _).mono ?_); rintro e w1 ⟨rfl, hb⟩; have hsz := M.size; (try (have G9 := G.later hb; clear G; have G := G9; clear G9)); have M9 := M.later hb; clear M; (try clear C); have M := M9; clear M9; have C := M.ruleAll; simp only [Go.Proofs.YtpmemoabkbmljaaDoor.ruleAll] at C)) | (go_at_call 23; fail))
    refine (H2.out _ M.below).mono ?_
    rintro e w2 ⟨v, rfl, M'⟩
    have M9 := M.joinRow M'
    obtain ⟨pp, cc, rfl⟩ := own_form (M9.row 0 rfl)
    clear M; (try clear C)
    have M := M9
    clear M9 M'
    go_wp2
    go_ret2
    exact ⟨_, rfl, M.sub [0] (by decide)⟩

set_option maxRecDepth 100000 in
set_option maxHeartbeats 4000000 in
theorem lawLawsOf_any (n : Int) (t : Nat → Nat → Nat) (hby : Byt2 t) (w : World) (hg : glb w) :
    Calls Tryd.prog 3 #[.agg (sqs n t)] w fun e w' => e = .returned (.bool true) ∧ Below w.heap.size w w' := by
  have M := Mm.start no w
  have HSP := Hid2.mk (fun w1 => specLawsOf_any n t hby w1)
  have HIM := Hid2.mk (fun w1 (hb : Below w.heap.size w w1) => implLawsOf_any n t hby w1 (hg.later hb))
  have HTQ := Hid2.mk (fun w1 => toSquare_any n t w1)
  have hol := lo_len n t
  clear hg hby
  generalize (loRes n t).1 = out at HSP HIM hol
  generalize (loRes n t).2 = code at HSP HIM
  have HEQ := Hid2.mk (fun w1 a1 a2 d1 d2 => eqInt64S_any out (by omega) w1 a1 a2 d1 d2)
  have HHD := Hid2.mk (fun w1 p c => heldInt64S_any p out.length c 1 (by omega) (by omega) w1)
  have hcc : (code == code) = true := by simp
  have hcn : (code != code) = false := by simp
  have hq0 : ¬ ((1 : Int) + (out.length : Int) < 0) := by omega
  have hqq : ((1 : Int) + (out.length : Int) == 1 + (out.length : Int)) = true := by simp
  have hqn : ((1 : Int) + (out.length : Int) != 1 + (out.length : Int)) = false := by simp
  go_enter Tryd.func3, Tryd.ntmps3
  go_wp2_with (first | ((with_reducible apply wpM_box' M 25 (sqs n t)); rfl; exact ⟨rfl, rfl⟩; clear M; (try clear C); intro bq w9 h_bq M; have C := M.ruleAll; simp only [Go.Proofs.YtpmemoabkbmljaaDoor.ruleAll] at C) | ((with_reducible apply wpM_lda' M 0 25 0 (sqs n t)); rfl; rfl; rfl; exact ⟨rfl, inf_sq0.trans (congrArg some (sqs_size ..).symm), _, und_sq0, rfl⟩; exact whole_of rfl) | (go_at_call 8; ((with_reducible refine (HTQ.out _).mono ?_); rintro e w1 ⟨rfl, hb⟩; have hsz := M.size; (try (have G9 := G.later hb; clear G; have G := G9; clear G9)); have M9 := M.later hb; clear M; (try clear C); have M := M9; clear M9; have C := M.ruleAll; simp only [Go.Proofs.YtpmemoabkbmljaaDoor.ruleAll] at C)) | (go_at_call 7; fail))
  refine (HSP.out _).mono ?_
  rintro e w1 ⟨vw, rfl, M'⟩
  have M9 := M.joinRow M'
  obtain ⟨pw, cw, rfl⟩ := own_form (M9.row 0 rfl)
  clear M; (try clear C)
  have M := M9
  clear M9 M'
  have C := M.ruleAll; simp only [Go.Proofs.YtpmemoabkbmljaaDoor.ruleAll] at C
  go_wp2_with (first | ((with_reducible apply wpM_lda' M 1 25 0 (sqs n t)); rfl; rfl; rfl; exact ⟨rfl, inf_sq0.trans (congrArg some (sqs_size ..).symm), _, und_sq0, rfl⟩; exact whole_of rfl) | (go_at_call 8; ((with_reducible refine (HTQ.out _).mono ?_); rintro e w1 ⟨rfl, hb⟩; have hsz := M.size; (try (have G9 := G.later hb; clear G; have G := G9; clear G9)); have M9 := M.later hb; clear M; (try clear C); have M := M9; clear M9; have C := M.ruleAll; simp only [Go.Proofs.YtpmemoabkbmljaaDoor.ruleAll] at C)) | (go_at_call 9; fail))
  refine (HIM.out _ M.below).mono ?_
  rintro e w1 ⟨vg, rfl, M'⟩
  have M9 := M.joinRow M'
  obtain ⟨pg, cg, rfl⟩ := own_form (M9.row 0 rfl)
  clear M; (try clear C)
  have M := M9
  clear M9 M'
  have C := M.ruleAll; simp only [Go.Proofs.YtpmemoabkbmljaaDoor.ruleAll] at C
  go_wp2_with (first | (go_at_call 10; fail))
  refine (HEQ.out _ _ _ _ _ (fa_rdq rfl (M.row 0 rfl)) (fa_rdq rfl (M.row 1 rfl))).mono ?_
  rintro e w1 ⟨rfl, hb⟩
  have M9 := M.later hb
  clear M; (try clear C)
  have M := M9
  clear M9 hb
  have C := M.ruleAll; simp only [Go.Proofs.YtpmemoabkbmljaaDoor.ruleAll] at C
  go_wp2_with (first | (go_at_call 11; fail))
  refine (markInt64S_any w.heap.size _ _ _ 1 (by omega) (by omega) _ (M.row 0 rfl)).mono ?_
  rintro e w1 ⟨rfl, hk, hown⟩
  have M9 := M.rowmark 0 rfl (Nat.le_refl _) hk hown
  simp only [List.set_cons_zero, List.set_cons_succ] at M9
  clear M; (try clear C)
  have M := M9
  clear M9 hk hown
  have C := M.ruleAll; simp only [Go.Proofs.YtpmemoabkbmljaaDoor.ruleAll] at C
  go_wp2_with (first | (go_at_call 12; fail))
  refine (HHD.out _ _ _ (mk_rdq (M.row 0 rfl))).mono ?_
  rintro e w1 ⟨rfl, hb⟩
  have M9 := M.later hb
  clear M; (try clear C)
  have M := M9
  clear M9 hb
  have C := M.ruleAll; simp only [Go.Proofs.YtpmemoabkbmljaaDoor.ruleAll] at C
  go_wp2_with (first | ((with_reducible apply wpM_lda' M 2 25 0 (sqs n t)); rfl; rfl; rfl; exact ⟨rfl, inf_sq0.trans (congrArg some (sqs_size ..).symm), _, und_sq0, rfl⟩; exact whole_of rfl) | (go_at_call 8; ((with_reducible refine (HTQ.out _).mono ?_); rintro e w1 ⟨rfl, hb⟩; have hsz := M.size; (try (have G9 := G.later hb; clear G; have G := G9; clear G9)); have M9 := M.later hb; clear M; (try clear C); have M := M9; clear M9; have C := M.ruleAll; simp only [Go.Proofs.YtpmemoabkbmljaaDoor.ruleAll] at C)) | (go_at_call 9; fail))
  refine (HIM.out _ M.below).mono ?_
  rintro e w1 ⟨vh, rfl, M'⟩
  have M9 := M.joinRow M'
  obtain ⟨ph, ch, rfl⟩ := own_form (M9.row 0 rfl)
  clear M; (try clear C)
  have M := M9
  clear M9 M'
  have C := M.ruleAll; simp only [Go.Proofs.YtpmemoabkbmljaaDoor.ruleAll] at C
  go_wp2_with (first | (go_at_call 10; fail))
  refine (HEQ.out _ _ _ _ _ (fa_rdq rfl (M.row 0 rfl)) (fa_rdq rfl (M.row 2 rfl))).mono ?_
  rintro e w1 ⟨rfl, hb⟩
  have M9 := M.later hb
  clear M; (try clear C)
  have M := M9
  clear M9 hb
  have C := M.ruleAll; simp only [Go.Proofs.YtpmemoabkbmljaaDoor.ruleAll] at C
  go_wp2_with (first | (go_at_call 12; fail))
  refine (HHD.out _ _ _ (mk_rdq (M.row 1 rfl))).mono ?_
  rintro e w1 ⟨rfl, hb⟩
  have M9 := M.later hb
  clear M; (try clear C)
  have M := M9
  clear M9 hb
  have C := M.ruleAll; simp only [Go.Proofs.YtpmemoabkbmljaaDoor.ruleAll] at C
  go_wp2
  go_ret
  exact ⟨rfl, M.below⟩


set_option maxRecDepth 100000 in
set_option maxHeartbeats 4000000 in
theorem lawLawFails_any (n : Int) (t : Nat → Nat → Nat) (hby : Byt2 t) (k : Int) (w : World) (hg : glb w) :
    Calls Tryd.prog 4 #[.agg (sqs n t), .int .i64 k] w fun e w' => e = .returned (.bool true) ∧ Below w.heap.size w w' := by
  have M := Mm.start no w
  have HSP := Hid2.mk (fun w1 => specLawFails_any n t hby k w1)
  have HIM := Hid2.mk (fun w1 (hb : Below w.heap.size w w1) => implLawFails_any n t hby k w1 (hg.later hb))
  have HTQ := Hid2.mk (fun w1 => toSquare_any n t w1)
  have hol := lf_len n t k
  clear hg hby
  generalize (lfRes n t k).1 = out at HSP HIM hol
  generalize (lfRes n t k).2 = code at HSP HIM
  have HEQ := Hid2.mk (fun w1 a1 a2 d1 d2 => eqInt64S_any out (by omega) w1 a1 a2 d1 d2)
  have HHD := Hid2.mk (fun w1 p c => heldInt64S_any p out.length c 1 (by omega) (by omega) w1)
  have hcc : (code == code) = true := by simp
  have hcn : (code != code) = false := by simp
  have hq0 : ¬ ((1 : Int) + (out.length : Int) < 0) := by omega
  have hqq : ((1 : Int) + (out.length : Int) == 1 + (out.length : Int)) = true := by simp
  have hqn : ((1 : Int) + (out.length : Int) != 1 + (out.length : Int)) = false := by simp
  go_enter Tryd.func4, Tryd.ntmps4
  go_wp2_with (first | ((with_reducible apply wpM_box' M 25 (sqs n t)); rfl; exact ⟨rfl, rfl⟩; clear M; (try clear C); intro bq w9 h_bq M; have C := M.ruleAll; simp only [Go.Proofs.YtpmemoabkbmljaaDoor.ruleAll] at C) | ((with_reducible apply wpM_lda' M 0 25 0 (sqs n t)); rfl; rfl; rfl; exact ⟨rfl, inf_sq0.trans (congrArg some (sqs_size ..).symm), _, und_sq0, rfl⟩; exact whole_of rfl) | (go_at_call 8; ((with_reducible refine (HTQ.out _).mono ?_); rintro e w1 ⟨rfl, hb⟩; have hsz := M.size; (try (have G9 := G.later hb; clear G; have G := G9; clear G9)); have M9 := M.later hb; clear M; (try clear C); have M := M9; clear M9; have C := M.ruleAll; simp only [Go.Proofs.YtpmemoabkbmljaaDoor.ruleAll] at C)) | (go_at_call 13; fail))
  refine (HSP.out _).mono ?_
  rintro e w1 ⟨vw, rfl, M'⟩
  have M9 := M.joinRow M'
  obtain ⟨pw, cw, rfl⟩ := own_form (M9.row 0 rfl)
  clear M; (try clear C)
  have M := M9
  clear M9 M'
  have C := M.ruleAll; simp only [Go.Proofs.YtpmemoabkbmljaaDoor.ruleAll] at C
  go_wp2_with (first | ((with_reducible apply wpM_lda' M 1 25 0 (sqs n t)); rfl; rfl; rfl; exact ⟨rfl, inf_sq0.trans (congrArg some (sqs_size ..).symm), _, und_sq0, rfl⟩; exact whole_of rfl) | (go_at_call 8; ((with_reducible refine (HTQ.out _).mono ?_); rintro e w1 ⟨rfl, hb⟩; have hsz := M.size; (try (have G9 := G.later hb; clear G; have G := G9; clear G9)); have M9 := M.later hb; clear M; (try clear C); have M := M9; clear M9; have C := M.ruleAll; simp only [Go.Proofs.YtpmemoabkbmljaaDoor.ruleAll] at C)) | (go_at_call 14; fail))
  refine (HIM.out _ M.below).mono ?_
  rintro e w1 ⟨vg, rfl, M'⟩
  have M9 := M.joinRow M'
  obtain ⟨pg, cg, rfl⟩ := own_form (M9.row 0 rfl)
  clear M; (try clear C)
  have M := M9
  clear M9 M'
  have C := M.ruleAll; simp only [Go.Proofs.YtpmemoabkbmljaaDoor.ruleAll] at C
  go_wp2_with (first | (go_at_call 10; fail))
  refine (HEQ.out _ _ _ _ _ (fa_rdq rfl (M.row 0 rfl)) (fa_rdq rfl (M.row 1 rfl))).mono ?_
  rintro e w1 ⟨rfl, hb⟩
  have M9 := M.later hb
  clear M; (try clear C)
  have M := M9
  clear M9 hb
  have C := M.ruleAll; simp only [Go.Proofs.YtpmemoabkbmljaaDoor.ruleAll] at C
  go_wp2_with (first | (go_at_call 11; fail))
  refine (markInt64S_any w.heap.size _ _ _ 1 (by omega) (by omega) _ (M.row 0 rfl)).mono ?_
  rintro e w1 ⟨rfl, hk, hown⟩
  have M9 := M.rowmark 0 rfl (Nat.le_refl _) hk hown
  simp only [List.set_cons_zero, List.set_cons_succ] at M9
  clear M; (try clear C)
  have M := M9
  clear M9 hk hown
  have C := M.ruleAll; simp only [Go.Proofs.YtpmemoabkbmljaaDoor.ruleAll] at C
  go_wp2_with (first | (go_at_call 12; fail))
  refine (HHD.out _ _ _ (mk_rdq (M.row 0 rfl))).mono ?_
  rintro e w1 ⟨rfl, hb⟩
  have M9 := M.later hb
  clear M; (try clear C)
  have M := M9
  clear M9 hb
  have C := M.ruleAll; simp only [Go.Proofs.YtpmemoabkbmljaaDoor.ruleAll] at C
  go_wp2_with (first | ((with_reducible apply wpM_lda' M 2 25 0 (sqs n t)); rfl; rfl; rfl; exact ⟨rfl, inf_sq0.trans (congrArg some (sqs_size ..).symm), _, und_sq0, rfl⟩; exact whole_of rfl) | (go_at_call 8; ((with_reducible refine (HTQ.out _).mono ?_); rintro e w1 ⟨rfl, hb⟩; have hsz := M.size; (try (have G9 := G.later hb; clear G; have G := G9; clear G9)); have M9 := M.later hb; clear M; (try clear C); have M := M9; clear M9; have C := M.ruleAll; simp only [Go.Proofs.YtpmemoabkbmljaaDoor.ruleAll] at C)) | (go_at_call 14; fail))
  refine (HIM.out _ M.below).mono ?_
  rintro e w1 ⟨vh, rfl, M'⟩
  have M9 := M.joinRow M'
  obtain ⟨ph, ch, rfl⟩ := own_form (M9.row 0 rfl)
  clear M; (try clear C)
  have M := M9
  clear M9 M'
  have C := M.ruleAll; simp only [Go.Proofs.YtpmemoabkbmljaaDoor.ruleAll] at C
  go_wp2_with (first | (go_at_call 10; fail))
  refine (HEQ.out _ _ _ _ _ (fa_rdq rfl (M.row 0 rfl)) (fa_rdq rfl (M.row 2 rfl))).mono ?_
  rintro e w1 ⟨rfl, hb⟩
  have M9 := M.later hb
  clear M; (try clear C)
  have M := M9
  clear M9 hb
  have C := M.ruleAll; simp only [Go.Proofs.YtpmemoabkbmljaaDoor.ruleAll] at C
  go_wp2_with (first | (go_at_call 12; fail))
  refine (HHD.out _ _ _ (mk_rdq (M.row 1 rfl))).mono ?_
  rintro e w1 ⟨rfl, hb⟩
  have M9 := M.later hb
  clear M; (try clear C)
  have M := M9
  clear M9 hb
  have C := M.ruleAll; simp only [Go.Proofs.YtpmemoabkbmljaaDoor.ruleAll] at C
  go_wp2
  go_ret
  exact ⟨rfl, M.below⟩

end Go.Proofs.YtpmemoabkbmljaaDoor
