/- AllNormal and IsSimpleLoop of the reference, and the laws: their walks. -/
import Derived.Test.YteonahoboligdaaG26
import Derived.Test.YteonahoboligdaaU0
import Derived.Test.YteonahoboligdaaC5
namespace Go.Proofs.Yteonahoboligdaa
set_option linter.unusedSimpArgs false
set_option linter.unusedVariables false
open Go Go.RowKit

set_option maxRecDepth 100000 in
set_option maxHeartbeats 1000000 in
theorem specAllNorm_any (n : Int) (t : Nat → Nat → Nat) (hby : Byt2 t) (w : World) : Calls Try.prog 26 #[.agg (sqs n t)] w (AsPost (anL n t) (asCode n t) w) := by
  have M := Mm.start no w
  have H1 := Hid2.mk (fun w1 => l01Loop_any n t w1 hby)
  unfold anL asCode
  cases hl : isLp n t with
  | false =>
    rw [hl] at H1
    rw [if_neg (by decide), if_neg (by decide)]
    clear hby hl
    go_enter Try.func26, Try.ntmps26
    go_wp2_with (first | ((with_reducible apply wpM_box' M 30 (sqs n t)); rfl; exact ⟨rfl, rfl⟩; clear M; (try clear C); intro bq w9 h_bq M; have C := M.ruleAll; simp only [Go.Proofs.Yteonahoboligdaa.ruleAll] at C) | ((with_reducible apply wpM_lda' M 0 30 0 (sqs n t)); rfl; rfl; rfl; exact ⟨rfl, inf_sqs.trans (congrArg some (sqs_size ..).symm), _, und_sqs, rfl⟩; exact whole_of rfl) | (go_at_call 37; ((with_reducible refine (H1.out _).mono ?_); rintro e w1 ⟨rfl, hb⟩; have hsz := M.size; (try (have G9 := G.later hb; clear G; have G := G9; clear G9)); have M9 := M.later hb; clear M; (try clear C); have M := M9; clear M9; have C := M.ruleAll; simp only [Go.Proofs.Yteonahoboligdaa.ruleAll] at C)))
    go_ret2
    exact ⟨_, rfl, ClsHere.nil _ _, M.below⟩
  | true =>
    obtain ⟨N, rfl, hs⟩ := lp_natG hl
    have hlo := Loo.of_lp (isLp_true.1 hl)
    rw [hl] at H1
    rw [if_pos rfl, if_pos rfl]
    have H2 : Hid2 (∀ w1, Calls Try.prog 38 #[.agg (sqs (N : Int) t)] w1 (LstPost (anN N t) w1)) := ⟨fun w1 => (l06All_any N t hlo w1).mono fun e w' ⟨L, F, h⟩ => by rw [← foundN_eq hlo F]; exact h⟩
    simp only [Int.toNat_natCast]
    generalize anN N t = cls at H2 ⊢
    clear hby hl hs hlo
    go_enter Try.func26, Try.ntmps26
    go_wp2_with (first | ((with_reducible apply wpM_box' M 30 (sqs (N : Int) t)); rfl; exact ⟨rfl, rfl⟩; clear M; (try clear C); intro bq w9 h_bq M; have C := M.ruleAll; simp only [Go.Proofs.Yteonahoboligdaa.ruleAll] at C) | ((with_reducible apply wpM_lda' M 0 30 0 (sqs (N : Int) t)); rfl; rfl; rfl; exact ⟨rfl, inf_sqs.trans (congrArg some (sqs_size ..).symm), _, und_sqs, rfl⟩; exact whole_of rfl) | (go_at_call 37; ((with_reducible refine (H1.out _).mono ?_); rintro e w1 ⟨rfl, hb⟩; have hsz := M.size; (try (have G9 := G.later hb; clear G; have G := G9; clear G9)); have M9 := M.later hb; clear M; (try clear C); have M := M9; clear M9; have C := M.ruleAll; simp only [Go.Proofs.Yteonahoboligdaa.ruleAll] at C)) | (go_at_call 38; fail))
    refine (H2.out _).mono ?_
    rintro e w2 ⟨g, cap, hd, rfl, hcap, HL, hb⟩
    have M9 := M.later hb
    have HC := Hid2.mk (HL.cls (cap := cap))
    clear M; (try clear C)
    have M := M9
    clear M9 HL hb hcap
    go_wp2
    go_ret2
    exact ⟨_, rfl, HC.out, M.below⟩
/-- A loop with one element has one normal subloop. -/
theorem anN_one {t : Nat → Nat → Nat} : (anN 1 t).length ≤ 1 := by
  have hs := anN_srt 1 t
  have hm : ∀ x ∈ anN 1 t, x = [0] := fun x hx => by
    obtain ⟨m, h, _, rfl⟩ := anN_mem.1 hx
    have e : m = 1 := mask_ext fun i => by
      rw [show (1 : Nat) = 2 ^ 0 from rfl, Nat.testBit_two_pow, decide_eq_true_eq]
      exact ⟨fun h2 => by have := h.2.2 i h2; omega, fun h2 => h2 ▸ h.2.1.zero⟩
    subst e; decide
  generalize anN 1 t = l at *
  match l, hs, hm with
  | [], _, _ => exact Nat.zero_le _
  | [_], _, _ => exact Nat.le_refl _
  | a :: b :: l, hs, hm =>
    have h1 := (List.pairwise_cons.1 hs).1 b (List.mem_cons_self ..)
    rw [hm a (List.mem_cons_self ..), hm b (List.mem_cons_of_mem _ (List.mem_cons_self ..)), befL_irr] at h1
    cases h1

set_option maxRecDepth 100000 in
set_option maxHeartbeats 1000000 in
theorem specSimple_any (n : Int) (t : Nat → Nat → Nat) (hby : Byt2 t) (w : World) : Calls Try.prog 17 #[.agg (sqs n t)] w fun e w' => e = .returned (.tuple #[.bool (simB n t), .int .i64 (asCode n t)]) ∧ Below w.heap.size w w' := by
  have M := Mm.start no w
  have H1 := Hid2.mk (fun w1 => l01Loop_any n t w1 hby)
  unfold simB asCode
  cases hl : isLp n t with
  | false =>
    rw [hl] at H1
    rw [if_neg (by decide), if_neg (by decide)]
    clear hby hl
    go_enter Try.func17, Try.ntmps17
    go_wp2_with (first | ((with_reducible apply wpM_box' M 30 (sqs n t)); rfl; exact ⟨rfl, rfl⟩; clear M; (try clear C); intro bq w9 h_bq M; have C := M.ruleAll; simp only [Go.Proofs.Yteonahoboligdaa.ruleAll] at C) | ((with_reducible apply wpM_lda' M 0 30 0 (sqs n t)); rfl; rfl; rfl; exact ⟨rfl, inf_sqs.trans (congrArg some (sqs_size ..).symm), _, und_sqs, rfl⟩; exact whole_of rfl) | (go_at_call 37; ((with_reducible refine (H1.out _).mono ?_); rintro e w1 ⟨rfl, hb⟩; have hsz := M.size; (try (have G9 := G.later hb; clear G; have G := G9; clear G9)); have M9 := M.later hb; clear M; (try clear C); have M := M9; clear M9; have C := M.ruleAll; simp only [Go.Proofs.Yteonahoboligdaa.ruleAll] at C)))
    go_ret2
    exact ⟨rfl, M.below⟩
  | true =>
    obtain ⟨N, rfl, hs⟩ := lp_natG hl
    have hlo := Loo.of_lp (isLp_true.1 hl)
    rw [hl] at H1
    rw [if_pos rfl, if_pos rfl]
    have H2 : Hid2 (∀ w1, Calls Try.prog 38 #[.agg (sqs (N : Int) t)] w1 (LstPost (anN N t) w1)) := ⟨fun w1 => (l06All_any N t hlo w1).mono fun e w' ⟨L, F, h⟩ => by rw [← foundN_eq hlo F]; exact h⟩
    simp only [Int.toNat_natCast]
    have hE : (decide ((1 : Int) < (N : Int)) && ((anN N t).length == 2)) = (((anN N t).length : Int) == 2) := by
      have h0 := hlo.pos
      rw [Bool.eq_iff_iff, Bool.and_eq_true, decide_eq_true_iff, beq_iff_eq, beq_iff_eq]
      constructor
      · exact fun h => by omega
      · intro h
        refine ⟨?_, by omega⟩
        rcases Nat.lt_or_ge 1 N with h1 | h1
        · omega
        · obtain rfl : N = 1 := by omega
          have := anN_one (t := t); omega
    rw [hE]
    generalize anN N t = cls at H2 ⊢
    clear hby hl hs hlo hE
    go_enter Try.func17, Try.ntmps17
    go_wp2_with (first | ((with_reducible apply wpM_box' M 30 (sqs (N : Int) t)); rfl; exact ⟨rfl, rfl⟩; clear M; (try clear C); intro bq w9 h_bq M; have C := M.ruleAll; simp only [Go.Proofs.Yteonahoboligdaa.ruleAll] at C) | ((with_reducible apply wpM_lda' M 0 30 0 (sqs (N : Int) t)); rfl; rfl; rfl; exact ⟨rfl, inf_sqs.trans (congrArg some (sqs_size ..).symm), _, und_sqs, rfl⟩; exact whole_of rfl) | (go_at_call 37; ((with_reducible refine (H1.out _).mono ?_); rintro e w1 ⟨rfl, hb⟩; have hsz := M.size; (try (have G9 := G.later hb; clear G; have G := G9; clear G9)); have M9 := M.later hb; clear M; (try clear C); have M := M9; clear M9; have C := M.ruleAll; simp only [Go.Proofs.Yteonahoboligdaa.ruleAll] at C)) | (go_at_call 38; fail))
    refine (H2.out _).mono ?_
    rintro e w2 ⟨g, cap, hd, rfl, hcap, HL, hb⟩
    have M9 := M.later hb
    clear M; (try clear C)
    have M := M9
    clear M9 HL hb hcap
    go_wp2
    go_ret2
    exact ⟨rfl, M.below⟩


set_option maxRecDepth 100000 in
set_option maxHeartbeats 4000000 in
theorem lawAllNorm_any (n : Int) (t : Nat → Nat → Nat) (hby : Byt2 t) (w : World) :
    Calls Try.prog 8 #[.agg (sqs n t)] w fun e w' => e = .returned (.bool true) ∧ Below w.heap.size w w' := by
  have M := Mm.start no w
  have HSP := Hid2.mk (fun w1 => specAllNorm_any n t hby w1)
  have HIM := Hid2.mk (fun w1 => implAllNorm_any n t hby w1)
  have HTQ := Hid2.mk (fun w1 => toSquare_any n t w1)
  have hcl := anL_len n t
  have hcs := anL_small n t
  clear hby
  generalize (anL n t) = cls at HSP HIM hcl hcs
  generalize (asCode n t) = code at HSP HIM
  have HEQ := Hid2.mk (fun w1 v1 v2 (h1 : ClsHere w1 v1 cls) (h2 : ClsHere w1 v2 cls) => eqInt64SS_any cls hcl hcs w1 v1 v2 h1 h2)
  have HHD := Hid2.mk (fun w1 v (h : MkHere w1 v 1 cls) => heldInt64SS_any cls hcl hcs v 1 (by omega) (by omega) w1 h)
  have HMK := Hid2.mk (fun vs (hvl : vs.length = cls.length) B v L w0 w1 (hB : w0.heap.size ≤ B) M => markInt64SS_any cls vs hvl hcl hcs B v 1 (by omega) (by omega) L w0 w1 hB M)
  have hcc : (code == code) = true := by simp
  have hcn : (code != code) = false := by simp
  clear hcl hcs
  go_enter Try.func8, Try.ntmps8
  go_wp2_with (first | ((with_reducible apply wpM_box' M 25 (sqs n t)); rfl; exact ⟨rfl, rfl⟩; clear M; (try clear C); intro bq w9 h_bq M; have C := M.ruleAll; simp only [Go.Proofs.Yteonahoboligdaa.ruleAll] at C) | ((with_reducible apply wpM_lda' M 0 25 0 (sqs n t)); rfl; rfl; rfl; exact ⟨rfl, inf_sq0.trans (congrArg some (sqs_size ..).symm), _, und_sq0, rfl⟩; exact whole_of rfl) | (go_at_call 10; ((with_reducible refine (HTQ.out _).mono ?_); rintro e w1 ⟨rfl, hb⟩; have hsz := M.size; (try (have G9 := G.later hb; clear G; have G := G9; clear G9)); have M9 := M.later hb; clear M; (try clear C); have M := M9; clear M9; have C := M.ruleAll; simp only [Go.Proofs.Yteonahoboligdaa.ruleAll] at C)) | (go_at_call 26; fail))
  refine (HSP.out _).mono ?_
  rintro e wS ⟨vw, rfl, hW, hb⟩
  have M9 := M.later hb
  clear M; (try clear C)
  have HW := Hid2.mk (fun w' (hb : Below wS.heap.size wS w') => hW.later hb)
  have HMW := Hid2.mk M9
  have M := M9.anew
  clear M9 hW hb
  have C := M.ruleAll; simp only [Go.Proofs.Yteonahoboligdaa.ruleAll] at C
  go_wp2_with (first | ((with_reducible apply wpM_lda' M 0 25 0 (sqs n t)); rfl; rfl; rfl; exact ⟨rfl, inf_sq0.trans (congrArg some (sqs_size ..).symm), _, und_sq0, rfl⟩; exact whole_of rfl) | (go_at_call 10; ((with_reducible refine (HTQ.out _).mono ?_); rintro e w1 ⟨rfl, hb⟩; have hsz := M.size; (try (have G9 := G.later hb; clear G; have G := G9; clear G9)); have M9 := M.later hb; clear M; (try clear C); have M := M9; clear M9; have C := M.ruleAll; simp only [Go.Proofs.Yteonahoboligdaa.ruleAll] at C)) | (go_at_call 27; fail))
  refine (HIM.out _).mono ?_
  rintro e w5 ⟨vg, rfl, vsg, hvg, M'⟩
  have M9 := M.join M' (cls_new M')
  have hBB := M.size
  clear M; (try clear C)
  clear M'
  generalize hB9 : World.heap _ = hp9 at M9 hBB
  generalize hp9.size = B at M9 hBB
  clear hB9
  have M : Mm no wS w5 (.row B vg cls.length vsg 33 1 :: (clsE B 2 vsg cls ++ [.box bq (sqs n t) 25])) := M9
  clear M9
  have FG : ∀ {w'} {T : List Ent}, Mm no wS w' (.row B vg cls.length vsg 33 1 :: (clsE B 2 vsg cls ++ T)) → ClsHere w' vg cls := fun M => ClsHere.of hvg fun x hx => M.mem (by
      rcases List.mem_cons.1 hx with rfl | h
      · exact List.mem_cons_self ..
      · exact List.mem_cons_of_mem _ (List.mem_append_left _ h))
  go_wp2_with (first | (go_at_call 21; fail))
  refine (HEQ.out _ _ _ (FG M) (HW.out _ M.below)).mono ?_
  rintro e w6 ⟨rfl, hb⟩
  have M9 := M.later hb
  clear M
  have M := M9
  clear M9 hb
  clear FG
  go_wp2_with (first | (go_at_call 22; fail))
  refine (HMK.out vsg hvg B vg [.box bq (sqs n t) 25] _ _ hBB M).mono ?_
  rintro e w11 ⟨rfl, M9⟩
  clear M
  have M := M9
  clear M9
  have hq0 : ¬ ((1 : Int) + ((tot cls : Nat) : Int) < 0) := by omega
  have hqq : ((1 : Int) + ((tot cls : Nat) : Int) == 1 + ((tot cls : Nat) : Int)) = true := by simp
  have hqn : ((1 : Int) + ((tot cls : Nat) : Int) != 1 + ((tot cls : Nat) : Int)) = false := by simp
  go_wp2_with (first | (go_at_call 23; fail))
  refine (HHD.out _ _ (MkHere.of hvg M)).mono ?_
  rintro e w12 ⟨rfl, hb⟩
  have M9 := M.later hb
  clear M
  have M := M9
  clear M9 hb
  have M9 := Mm.swap (Ent.row B vg cls.length vsg 33 1 :: clsM B 2 vsg (mkdTo 1 cls cls.length)) [.box bq (sqs n t) 25] M
  clear M
  have M : Mm no wS _ (.box bq (sqs n t) 25 :: (Ent.row B vg cls.length vsg 33 1 :: clsM B 2 vsg (mkdTo 1 cls cls.length))) := M9
  clear M9
  have C := M.ruleAll; simp only [Go.Proofs.Yteonahoboligdaa.ruleAll] at C
  go_wp2_with (first | ((with_reducible apply wpM_lda' M 0 25 0 (sqs n t)); rfl; rfl; rfl; exact ⟨rfl, inf_sq0.trans (congrArg some (sqs_size ..).symm), _, und_sq0, rfl⟩; exact whole_of rfl) | (go_at_call 10; ((with_reducible refine (HTQ.out _).mono ?_); rintro e w1 ⟨rfl, hb⟩; have hsz := M.size; (try (have G9 := G.later hb; clear G; have G := G9; clear G9)); have M9 := M.later hb; clear M; (try clear C); have M := M9; clear M9; have C := M.ruleAll; simp only [Go.Proofs.Yteonahoboligdaa.ruleAll] at C)) | (go_at_call 27; fail))
  refine (HIM.out _).mono ?_
  rintro e w14 ⟨vh, rfl, vsh, hvh, M'⟩
  have FH : ClsHere w14 vh cls := ClsHere.of hvh fun x hx => M'.mem hx
  have M9 := M.later M'.below
  clear M; (try clear C)
  clear M'
  have M : Mm no wS w14 (.box bq (sqs n t) 25 :: (Ent.row B vg cls.length vsg 33 1 :: clsM B 2 vsg (mkdTo 1 cls cls.length))) := M9
  clear M9
  go_wp2_with (first | (go_at_call 21; fail))
  refine (HEQ.out _ _ _ (FH) (HW.out _ M.below)).mono ?_
  rintro e w6 ⟨rfl, hb⟩
  have M9 := M.later hb
  clear M
  have M := M9
  clear M9 hb
  clear FH
  have M9 := Mm.swap [.box bq (sqs n t) 25] (Ent.row B vg cls.length vsg 33 1 :: clsM B 2 vsg (mkdTo 1 cls cls.length)) M
  clear M
  have M : Mm no wS _ (.row B vg cls.length vsg 33 1 :: (clsM B 2 vsg (mkdTo 1 cls cls.length) ++ [.box bq (sqs n t) 25])) := M9
  clear M9
  go_wp2_with (first | (go_at_call 23; fail))
  refine (HHD.out _ _ (MkHere.of hvg M)).mono ?_
  rintro e w12 ⟨rfl, hb⟩
  have M9 := M.later hb
  clear M
  have M := M9
  clear M9 hb
  go_wp2
  go_ret
  exact ⟨rfl, (HMW.out.onto M).below⟩


set_option maxRecDepth 100000 in
set_option maxHeartbeats 4000000 in
theorem lawSimple_any (n : Int) (t : Nat → Nat → Nat) (hby : Byt2 t) (w : World) :
    Calls Try.prog 5 #[.agg (sqs n t)] w fun e w' => e = .returned (.bool true) ∧ Below w.heap.size w w' := by
  have M := Mm.start no w
  have HSP := Hid2.mk (fun w1 => specSimple_any n t hby w1)
  have HIM := Hid2.mk (fun w1 => implSimple_any n t hby w1)
  have HTQ := Hid2.mk (fun w1 => toSquare_any n t w1)
  clear hby
  generalize simB n t = r at HSP HIM
  generalize asCode n t = code at HSP HIM
  have hcc : (code == code) = true := by simp
  have hcn : (code != code) = false := by simp
  have hrc : (r == r) = true := by simp
  have hrn : (r != r) = false := by simp
  go_enter Try.func5, Try.ntmps5
  go_wp2_with (first | ((with_reducible apply wpM_box' M 25 (sqs n t)); rfl; exact ⟨rfl, rfl⟩; clear M; (try clear C); intro bq w9 h_bq M; have C := M.ruleAll; simp only [Go.Proofs.Yteonahoboligdaa.ruleAll] at C) | ((with_reducible apply wpM_lda' M 0 25 0 (sqs n t)); rfl; rfl; rfl; exact ⟨rfl, inf_sq0.trans (congrArg some (sqs_size ..).symm), _, und_sq0, rfl⟩; exact whole_of rfl) | (go_at_call 10; ((with_reducible refine (HTQ.out _).mono ?_); rintro e w1 ⟨rfl, hb⟩; have hsz := M.size; (try (have G9 := G.later hb; clear G; have G := G9; clear G9)); have M9 := M.later hb; clear M; (try clear C); have M := M9; clear M9; have C := M.ruleAll; simp only [Go.Proofs.Yteonahoboligdaa.ruleAll] at C)) | (go_at_call 17; ((with_reducible refine (HSP.out _).mono ?_); rintro e w1 ⟨rfl, hb⟩; have hsz := M.size; (try (have G9 := G.later hb; clear G; have G := G9; clear G9)); have M9 := M.later hb; clear M; (try clear C); have M := M9; clear M9; have C := M.ruleAll; simp only [Go.Proofs.Yteonahoboligdaa.ruleAll] at C)) | (go_at_call 18; ((with_reducible refine (HIM.out _).mono ?_); rintro e w1 ⟨rfl, hb⟩; have hsz := M.size; (try (have G9 := G.later hb; clear G; have G := G9; clear G9)); have M9 := M.later hb; clear M; (try clear C); have M := M9; clear M9; have C := M.ruleAll; simp only [Go.Proofs.Yteonahoboligdaa.ruleAll] at C)))
  go_ret
  exact ⟨rfl, M.below⟩
end Go.Proofs.Yteonahoboligdaa
