/- AllSubloops of the program, and the law: its walk. -/
import Derived.Test.YteonahoboligdaaG9
import Derived.Test.YteonahoboligdaaU0
import Derived.Test.YteonahoboligdaaC5
namespace Go.Proofs.Yteonahoboligdaa
set_option linter.unusedSimpArgs false
set_option linter.unusedVariables false
open Go Go.RowKit

def MsPost (cls : List (List Nat)) (code : Int) (w : World) (e : Ending) (w' : World) : Prop := ∃ v, e = .returned (.tuple #[v, .int .i64 code]) ∧ ClsRes w.heap.size w w' v cls 33 2
theorem MsPost.nil {w w' : World} (hb : Below w.heap.size w w') (c : Int) : MsPost [] c w (.returned (.tuple #[.slice none 0 0, .int .i64 c])) w' :=
  ⟨_, rfl, [], rfl, ((Mm.start no w).later hb).nilRow w.heap.size 33 1⟩
set_option maxRecDepth 100000 in
set_option maxHeartbeats 1000000 in
theorem implAllSub_any (n : Int) (t : Nat → Nat → Nat) (hby : Byt2 t) (w : World) : Calls Try.prog 20 #[.agg (sqs n t)] w (MsPost (asL n t) (asCode n t) w) := by
  have M := Mm.start no w
  have H1 := Hid2.mk (fun w1 => isLoop_any n t w1 hby)
  unfold asL asCode
  cases hl : isLp n t with
  | false =>
    rw [hl] at H1
    rw [if_neg (by decide), if_neg (by decide)]
    clear hby hl
    go_enter Try.func20, Try.ntmps20
    go_wp2_with (first | ((with_reducible apply wpM_box' M 30 (sqs n t)); rfl; exact ⟨rfl, rfl⟩; clear M; (try clear C); intro bq w9 h_bq M; have C := M.ruleAll; simp only [Go.Proofs.Yteonahoboligdaa.ruleAll] at C) | ((with_reducible apply wpM_lda' M 0 30 0 (sqs n t)); rfl; rfl; rfl; exact ⟨rfl, inf_sqs.trans (congrArg some (sqs_size ..).symm), _, und_sqs, rfl⟩; exact whole_of rfl) | (go_at_call 39; ((with_reducible refine (H1.out _).mono ?_); rintro e w1 ⟨rfl, hb⟩; have hsz := M.size; (try (have G9 := G.later hb; clear G; have G := G9; clear G9)); have M9 := M.later hb; clear M; (try clear C); have M := M9; clear M9; have C := M.ruleAll; simp only [Go.Proofs.Yteonahoboligdaa.ruleAll] at C)))
    go_ret2
    exact MsPost.nil M.below 1
  | true =>
    obtain ⟨N, rfl, hs⟩ := lp_natG hl
    rw [hl] at H1
    rw [if_pos rfl, if_pos rfl]
    have H2 := Hid2.mk (fun w1 => subloops_any N t hs w1)
    have H3 := Hid2.mk (fun w1 p cap (h : rdq w1 p (subs N t).length (i64F (subs N t))) => subs_lists N t ▸ listsOf_any (subs N t) (by rw [subs_len]; have := allL_len N t hs; omega) (fun m hm => (subs_mem.1 hm).1) w1 p cap h)
    simp only [Int.toNat_natCast]
    generalize allL N t = cls at H3 ⊢
    generalize subs N t = ms at H2 H3
    clear hby hl hs
    go_enter Try.func20, Try.ntmps20
    go_wp2_with (first | ((with_reducible apply wpM_box' M 30 (sqs (N : Int) t)); rfl; exact ⟨rfl, rfl⟩; clear M; (try clear C); intro bq w9 h_bq M; have C := M.ruleAll; simp only [Go.Proofs.Yteonahoboligdaa.ruleAll] at C) | ((with_reducible apply wpM_lda' M 0 30 0 (sqs (N : Int) t)); rfl; rfl; rfl; exact ⟨rfl, inf_sqs.trans (congrArg some (sqs_size ..).symm), _, und_sqs, rfl⟩; exact whole_of rfl) | (go_at_call 39; ((with_reducible refine (H1.out _).mono ?_); rintro e w1 ⟨rfl, hb⟩; have hsz := M.size; (try (have G9 := G.later hb; clear G; have G := G9; clear G9)); have M9 := M.later hb; clear M; (try clear C); have M := M9; clear M9; have C := M.ruleAll; simp only [Go.Proofs.Yteonahoboligdaa.ruleAll] at C)) | (go_at_call 43; fail))
    refine (H2.out _).mono ?_
    rintro e w2 ⟨v, rfl, M'⟩
    have M9 := M.joinRow M'
    obtain ⟨pp, cc, rfl⟩ := own_form (M9.row 0 rfl)
    clear M; (try clear C)
    have M := M9
    clear M9 M'
    have hr := rdq_of_own (M.row 0 rfl)
    rw [Nat.mul_one] at hr
    have H4 := Hid2.mk (H3.out _ pp cc (rdq.congr hr fun j hj => i64N_at hj))
    clear hr
    go_wp2_with (first | (go_at_call 42; fail))
    refine H4.out.mono ?_
    rintro e w3 ⟨v3, rfl, vs, hvs, M'⟩
    have M9 := clsRes_lower M.size M.below M'
    obtain ⟨p3, c3, rfl⟩ := own_form (M9.row 0 rfl)
    have HM := Hid2.mk M9
    clear M M' M9
    go_wp2
    go_ret2
    exact ⟨_, rfl, vs, hvs, HM.out⟩

set_option maxRecDepth 100000 in
set_option maxHeartbeats 4000000 in
theorem lawAllSub_any (n : Int) (t : Nat → Nat → Nat) (hby : Byt2 t) (w : World) :
    Calls Try.prog 6 #[.agg (sqs n t)] w fun e w' => e = .returned (.bool true) ∧ Below w.heap.size w w' := by
  have M := Mm.start no w
  have HSP := Hid2.mk (fun w1 => specAllSub_any n t hby w1)
  have HIM := Hid2.mk (fun w1 => implAllSub_any n t hby w1)
  have HTQ := Hid2.mk (fun w1 => toSquare_any n t w1)
  have hcl := asL_len n t
  have hcs := asL_small n t
  clear hby
  generalize (asL n t) = cls at HSP HIM hcl hcs
  generalize (asCode n t) = code at HSP HIM
  have HEQ := Hid2.mk (fun w1 v1 v2 (h1 : ClsHere w1 v1 cls) (h2 : ClsHere w1 v2 cls) => eqInt64SS_any cls hcl hcs w1 v1 v2 h1 h2)
  have HHD := Hid2.mk (fun w1 v (h : MkHere w1 v 1 cls) => heldInt64SS_any cls hcl hcs v 1 (by omega) (by omega) w1 h)
  have HMK := Hid2.mk (fun vs (hvl : vs.length = cls.length) B v L w0 w1 (hB : w0.heap.size ≤ B) M => markInt64SS_any cls vs hvl hcl hcs B v 1 (by omega) (by omega) L w0 w1 hB M)
  have hcc : (code == code) = true := by simp
  have hcn : (code != code) = false := by simp
  clear hcl hcs
  go_enter Try.func6, Try.ntmps6
  go_wp2_with (first | ((with_reducible apply wpM_box' M 25 (sqs n t)); rfl; exact ⟨rfl, rfl⟩; clear M; (try clear C); intro bq w9 h_bq M; have C := M.ruleAll; simp only [Go.Proofs.Yteonahoboligdaa.ruleAll] at C) | ((with_reducible apply wpM_lda' M 0 25 0 (sqs n t)); rfl; rfl; rfl; exact ⟨rfl, inf_sq0.trans (congrArg some (sqs_size ..).symm), _, und_sq0, rfl⟩; exact whole_of rfl) | (go_at_call 10; ((with_reducible refine (HTQ.out _).mono ?_); rintro e w1 ⟨rfl, hb⟩; have hsz := M.size; (try (have G9 := G.later hb; clear G; have G := G9; clear G9)); have M9 := M.later hb; clear M; (try clear C); have M := M9; clear M9; have C := M.ruleAll; simp only [Go.Proofs.Yteonahoboligdaa.ruleAll] at C)) | (go_at_call 19; fail))
  refine (HSP.out _).mono ?_
  rintro e wS ⟨vw, rfl, hW, hb⟩
  have M9 := M.later hb
  clear M; (try clear C)
  have HW := Hid2.mk (fun w' (hb : Below wS.heap.size wS w') => hW.later hb)
  have HMW := Hid2.mk M9
  have M := M9.anew
  clear M9 hW hb
  have C := M.ruleAll; simp only [Go.Proofs.Yteonahoboligdaa.ruleAll] at C
  go_wp2_with (first | ((with_reducible apply wpM_lda' M 0 25 0 (sqs n t)); rfl; rfl; rfl; exact ⟨rfl, inf_sq0.trans (congrArg some (sqs_size ..).symm), _, und_sq0, rfl⟩; exact whole_of rfl) | (go_at_call 10; ((with_reducible refine (HTQ.out _).mono ?_); rintro e w1 ⟨rfl, hb⟩; have hsz := M.size; (try (have G9 := G.later hb; clear G; have G := G9; clear G9)); have M9 := M.later hb; clear M; (try clear C); have M := M9; clear M9; have C := M.ruleAll; simp only [Go.Proofs.Yteonahoboligdaa.ruleAll] at C)) | (go_at_call 20; fail))
  refine (HIM.out _).mono ?_
  rintro e w5 ⟨vg, rfl, vsg, hvg, M'⟩
  have M9 := M.join M' (cls_new M')
  have hBB := M.size
  clear M; (try clear C)
  clear M'
  generalize hB9 : World.heap _ = hp9 at M9 hBB
  generalize hp9.size = B at M9 hBB
  clear hB9
  have M : Mm no wS w5 (.row B vg cls.length vsg 33 1 :: (clsE B 2 vsg cls ++ [.box bq (sqs n t) 25])) := M9
  clear M9
  have FG : ∀ {w'} {T : List Ent}, Mm no wS w' (.row B vg cls.length vsg 33 1 :: (clsE B 2 vsg cls ++ T)) → ClsHere w' vg cls := fun M => ClsHere.of hvg fun x hx => M.mem (by
      rcases List.mem_cons.1 hx with rfl | h
      · exact List.mem_cons_self ..
      · exact List.mem_cons_of_mem _ (List.mem_append_left _ h))
  go_wp2_with (first | (go_at_call 21; fail))
  refine (HEQ.out _ _ _ (FG M) (HW.out _ M.below)).mono ?_
  rintro e w6 ⟨rfl, hb⟩
  have M9 := M.later hb
  clear M
  have M := M9
  clear M9 hb
  clear FG
  go_wp2_with (first | (go_at_call 22; fail))
  refine (HMK.out vsg hvg B vg [.box bq (sqs n t) 25] _ _ hBB M).mono ?_
  rintro e w11 ⟨rfl, M9⟩
  clear M
  have M := M9
  clear M9
  have hq0 : ¬ ((1 : Int) + ((tot cls : Nat) : Int) < 0) := by omega
  have hqq : ((1 : Int) + ((tot cls : Nat) : Int) == 1 + ((tot cls : Nat) : Int)) = true := by simp
  have hqn : ((1 : Int) + ((tot cls : Nat) : Int) != 1 + ((tot cls : Nat) : Int)) = false := by simp
  go_wp2_with (first | (go_at_call 23; fail))
  refine (HHD.out _ _ (MkHere.of hvg M)).mono ?_
  rintro e w12 ⟨rfl, hb⟩
  have M9 := M.later hb
  clear M
  have M := M9
  clear M9 hb
  have M9 := Mm.swap (Ent.row B vg cls.length vsg 33 1 :: clsM B 2 vsg (mkdTo 1 cls cls.length)) [.box bq (sqs n t) 25] M
  clear M
  have M : Mm no wS _ (.box bq (sqs n t) 25 :: (Ent.row B vg cls.length vsg 33 1 :: clsM B 2 vsg (mkdTo 1 cls cls.length))) := M9
  clear M9
  have C := M.ruleAll; simp only [Go.Proofs.Yteonahoboligdaa.ruleAll] at C
  go_wp2_with (first | ((with_reducible apply wpM_lda' M 0 25 0 (sqs n t)); rfl; rfl; rfl; exact ⟨rfl, inf_sq0.trans (congrArg some (sqs_size ..).symm), _, und_sq0, rfl⟩; exact whole_of rfl) | (go_at_call 10; ((with_reducible refine (HTQ.out _).mono ?_); rintro e w1 ⟨rfl, hb⟩; have hsz := M.size; (try (have G9 := G.later hb; clear G; have G := G9; clear G9)); have M9 := M.later hb; clear M; (try clear C); have M := M9; clear M9; have C := M.ruleAll; simp only [Go.Proofs.Yteonahoboligdaa.ruleAll] at C)) | (go_at_call 20; fail))
  refine (HIM.out _).mono ?_
  rintro e w14 ⟨vh, rfl, vsh, hvh, M'⟩
  have FH : ClsHere w14 vh cls := ClsHere.of hvh fun x hx => M'.mem hx
  have M9 := M.later M'.below
  clear M; (try clear C)
  clear M'
  have M : Mm no wS w14 (.box bq (sqs n t) 25 :: (Ent.row B vg cls.length vsg 33 1 :: clsM B 2 vsg (mkdTo 1 cls cls.length))) := M9
  clear M9
  go_wp2_with (first | (go_at_call 21; fail))
  refine (HEQ.out _ _ _ (FH) (HW.out _ M.below)).mono ?_
  rintro e w6 ⟨rfl, hb⟩
  have M9 := M.later hb
  clear M
  have M := M9
  clear M9 hb
  clear FH
  have M9 := Mm.swap [.box bq (sqs n t) 25] (Ent.row B vg cls.length vsg 33 1 :: clsM B 2 vsg (mkdTo 1 cls cls.length)) M
  clear M
  have M : Mm no wS _ (.row B vg cls.length vsg 33 1 :: (clsM B 2 vsg (mkdTo 1 cls cls.length) ++ [.box bq (sqs n t) 25])) := M9
  clear M9
  go_wp2_with (first | (go_at_call 23; fail))
  refine (HHD.out _ _ (MkHere.of hvg M)).mono ?_
  rintro e w12 ⟨rfl, hb⟩
  have M9 := M.later hb
  clear M
  have M := M9
  clear M9 hb
  go_wp2
  go_ret
  exact ⟨rfl, (HMW.out.onto M).below⟩
end Go.Proofs.Yteonahoboligdaa
