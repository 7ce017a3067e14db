/- The law FrattiniOf: its walk. -/
import Derived.Test.YteonahoboligdaaG12
import Derived.Test.YteonahoboligdaaG13
import Derived.Test.YteonahoboligdaaU0
import Derived.Test.YteonahoboligdaaC5
namespace Go.Proofs.Yteonahoboligdaa
set_option linter.unusedSimpArgs false
set_option linter.unusedVariables false
open Go Go.RowKit

set_option maxRecDepth 100000 in
set_option maxHeartbeats 4000000 in
theorem lawFrattini_any (n : Int) (t : Nat → Nat → Nat) (hby : Byt2 t) (w : World) :
    Calls Try.prog 7 #[.agg (sqs n t)] w fun e w' => e = .returned (.bool true) ∧ Below w.heap.size w w' := by
  have M := Mm.start no w
  have HSP := Hid2.mk (fun w1 => specFrattini_any n t hby w1)
  have HIM := Hid2.mk (fun w1 (hb : Below w.heap.size w w1) => implFrattini_any n t hby w1)
  have HTQ := Hid2.mk (fun w1 => toSquare_any n t w1)
  have hol : (frRes n t).1.length ≤ 100 := ls_len n t fun N => fraM N t
  clear hby
  generalize ((frRes n t)).1 = out at HSP HIM hol
  generalize ((frRes n t)).2 = code at HSP HIM
  have HEQ := Hid2.mk (fun w1 a1 a2 d1 d2 => eqInt64S_any out (by omega) w1 a1 a2 d1 d2)
  have HHD := Hid2.mk (fun w1 p c => heldInt64S_any p out.length c 1 (by omega) (by omega) w1)
  have hcc : (code == code) = true := by simp
  have hcn : (code != code) = false := by simp
  have hq0 : ¬ ((1 : Int) + (out.length : Int) < 0) := by omega
  have hqq : ((1 : Int) + (out.length : Int) == 1 + (out.length : Int)) = true := by simp
  have hqn : ((1 : Int) + (out.length : Int) != 1 + (out.length : Int)) = false := by simp
  go_enter Try.func7, Try.ntmps7
  go_wp2_with (first | ((with_reducible apply wpM_box' M 25 (sqs n t)); rfl; exact ⟨rfl, rfl⟩; clear M; (try clear C); intro bq w9 h_bq M; have C := M.ruleAll; simp only [Go.Proofs.Yteonahoboligdaa.ruleAll] at C) | ((with_reducible apply wpM_lda' M 0 25 0 (sqs n t)); rfl; rfl; rfl; exact ⟨rfl, inf_sq0.trans (congrArg some (sqs_size ..).symm), _, und_sq0, rfl⟩; exact whole_of rfl) | (go_at_call 10; ((with_reducible refine (HTQ.out _).mono ?_); rintro e w1 ⟨rfl, hb⟩; have hsz := M.size; (try (have G9 := G.later hb; clear G; have G := G9; clear G9)); have M9 := M.later hb; clear M; (try clear C); have M := M9; clear M9; have C := M.ruleAll; simp only [Go.Proofs.Yteonahoboligdaa.ruleAll] at C)) | (go_at_call 24; fail))
  refine (HSP.out _).mono ?_
  rintro e w1 ⟨vw, rfl, M'⟩
  have M9 := M.joinRow M'
  obtain ⟨pw, cw, rfl⟩ := own_form (M9.row 0 rfl)
  clear M; (try clear C)
  have M := M9
  clear M9 M'
  have C := M.ruleAll; simp only [Go.Proofs.Yteonahoboligdaa.ruleAll] at C
  go_wp2_with (first | ((with_reducible apply wpM_lda' M 1 25 0 (sqs n t)); rfl; rfl; rfl; exact ⟨rfl, inf_sq0.trans (congrArg some (sqs_size ..).symm), _, und_sq0, rfl⟩; exact whole_of rfl) | (go_at_call 10; ((with_reducible refine (HTQ.out _).mono ?_); rintro e w1 ⟨rfl, hb⟩; have hsz := M.size; (try (have G9 := G.later hb; clear G; have G := G9; clear G9)); have M9 := M.later hb; clear M; (try clear C); have M := M9; clear M9; have C := M.ruleAll; simp only [Go.Proofs.Yteonahoboligdaa.ruleAll] at C)) | (go_at_call 25; fail))
  refine (HIM.out _ M.below).mono ?_
  rintro e w1 ⟨vg, rfl, M'⟩
  have M9 := M.joinRow M'
  obtain ⟨pg, cg, rfl⟩ := own_form (M9.row 0 rfl)
  clear M; (try clear C)
  have M := M9
  clear M9 M'
  have C := M.ruleAll; simp only [Go.Proofs.Yteonahoboligdaa.ruleAll] at C
  go_wp2_with (first | (go_at_call 14; fail))
  refine (HEQ.out _ _ _ _ _ (fa_rdq rfl (M.row 0 rfl)) (fa_rdq rfl (M.row 1 rfl))).mono ?_
  rintro e w1 ⟨rfl, hb⟩
  have M9 := M.later hb
  clear M; (try clear C)
  have M := M9
  clear M9 hb
  have C := M.ruleAll; simp only [Go.Proofs.Yteonahoboligdaa.ruleAll] at C
  go_wp2_with (first | (go_at_call 15; fail))
  refine (markInt64S_any w.heap.size _ _ _ 1 (by omega) (by omega) _ (M.row 0 rfl)).mono ?_
  rintro e w1 ⟨rfl, hk, hown⟩
  have M9 := M.rowmark 0 rfl (Nat.le_refl _) hk hown
  simp only [List.set_cons_zero, List.set_cons_succ] at M9
  clear M; (try clear C)
  have M := M9
  clear M9 hk hown
  have C := M.ruleAll; simp only [Go.Proofs.Yteonahoboligdaa.ruleAll] at C
  go_wp2_with (first | (go_at_call 16; fail))
  refine (HHD.out _ _ _ (mk_rdq (M.row 0 rfl))).mono ?_
  rintro e w1 ⟨rfl, hb⟩
  have M9 := M.later hb
  clear M; (try clear C)
  have M := M9
  clear M9 hb
  have C := M.ruleAll; simp only [Go.Proofs.Yteonahoboligdaa.ruleAll] at C
  go_wp2_with (first | ((with_reducible apply wpM_lda' M 2 25 0 (sqs n t)); rfl; rfl; rfl; exact ⟨rfl, inf_sq0.trans (congrArg some (sqs_size ..).symm), _, und_sq0, rfl⟩; exact whole_of rfl) | (go_at_call 10; ((with_reducible refine (HTQ.out _).mono ?_); rintro e w1 ⟨rfl, hb⟩; have hsz := M.size; (try (have G9 := G.later hb; clear G; have G := G9; clear G9)); have M9 := M.later hb; clear M; (try clear C); have M := M9; clear M9; have C := M.ruleAll; simp only [Go.Proofs.Yteonahoboligdaa.ruleAll] at C)) | (go_at_call 25; fail))
  refine (HIM.out _ M.below).mono ?_
  rintro e w1 ⟨vh, rfl, M'⟩
  have M9 := M.joinRow M'
  obtain ⟨ph, ch, rfl⟩ := own_form (M9.row 0 rfl)
  clear M; (try clear C)
  have M := M9
  clear M9 M'
  have C := M.ruleAll; simp only [Go.Proofs.Yteonahoboligdaa.ruleAll] at C
  go_wp2_with (first | (go_at_call 14; fail))
  refine (HEQ.out _ _ _ _ _ (fa_rdq rfl (M.row 0 rfl)) (fa_rdq rfl (M.row 2 rfl))).mono ?_
  rintro e w1 ⟨rfl, hb⟩
  have M9 := M.later hb
  clear M; (try clear C)
  have M := M9
  clear M9 hb
  have C := M.ruleAll; simp only [Go.Proofs.Yteonahoboligdaa.ruleAll] at C
  go_wp2_with (first | (go_at_call 16; fail))
  refine (HHD.out _ _ _ (mk_rdq (M.row 1 rfl))).mono ?_
  rintro e w1 ⟨rfl, hb⟩
  have M9 := M.later hb
  clear M; (try clear C)
  have M := M9
  clear M9 hb
  have C := M.ruleAll; simp only [Go.Proofs.Yteonahoboligdaa.ruleAll] at C
  go_wp2
  go_ret
  exact ⟨rfl, M.below⟩
end Go.Proofs.Yteonahoboligdaa
