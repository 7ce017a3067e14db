/- The law on the laws among some texts: its walk. -/
import Derived.Test.YtpmemoabkbmljaaC90
import Derived.Test.YtpmemoabkbmljaaU0
import Derived.Test.YtpmemoabkbmljaaI2
import Derived.Test.YtpmemoabkbmljaaI3
namespace Go.Proofs.Ytpmemoabkbmljaa
set_option linter.unusedSimpArgs false
set_option linter.unusedVariables false
open Go Go.RowKit

theorem la_len (n : Int) (t : Nat → Nat → Nat) (ls : List (List Nat)) : (laRes n t ls).1.length ≤ 30 := by
  unfold laRes
  split
  · split
    · exact Nat.zero_le _
    · split
      · exact Nat.zero_le _
      · rename_i out h
        have := laTo_len h
        show out.length ≤ 30
        omega
  · exact Nat.zero_le _
theorem nm_tx (ls : List (List Nat)) {j : Nat} (h : j < ls.length) : nmF (ls.map str) j = txF ls j := by
  unfold nmF txF
  rw [List.getD_eq_getElem?_getD, List.getD_eq_getElem?_getD, List.getElem?_map, List.getElem?_eq_getElem h]
  rfl
theorem str_rdq {w : World} {p : Option Addr} {ls : List (List Nat)} {m : Nat} (e : (ls.map str).length = m) (h : rdq w p (ls.map str).length (nmF (ls.map str))) : rdq w p m (nmF (ls.map str)) := e ▸ h
theorem tx_rdq {w : World} {p : Option Addr} {ls : List (List Nat)} (h : rdq w p (ls.map str).length (nmF (ls.map str))) : rdq w p ls.length (txF ls) := by
  rw [List.length_map] at h
  exact h.congr fun j hj => nm_tx ls hj

set_option maxRecDepth 100000 in
set_option maxHeartbeats 4000000 in
theorem lawLawsAmong_any (n : Int) (t : Nat → Nat → Nat) (hby : Byt2 t) (ls : List (List Nat)) (hn : ls.length ≤ maxLen) (hls : ∀ l ∈ ls, l.length ≤ maxLen ∧ Byts l) (w : World) (p : Option Addr) (cap : Nat) (hr : rdp w p (ls.map str).length (nmF (ls.map str))) :
    Calls Try.prog 4 #[.agg (sqs n t), .slice p ls.length cap] w fun e w' => e = .returned (.bool true) ∧ Below w.heap.size w w' := by
  have M := Mm.start no w
  have hll : (ls.map str).length = ls.length := List.length_map _
  have HS := Hid2.mk (fun w1 (hb : Below w.heap.size w w1) => szStringS_any (ls.map str) (by rw [hll]; exact Nat.le_trans hn (by decide)) (fun x hx => by obtain ⟨l, hl, rfl⟩ := List.mem_map.1 hx; rw [str_size]; exact Nat.le_trans (hls l hl).1 (by decide)) w1 p cap 1048576 (by omega) (by omega) (hr.later hb))
  have R1 := Hid2.mk (fun w1 (hb : Below w.heap.size w w1) => hr.later hb)
  have HTS := Hid2.mk (fun (h : ls.length ≤ 1048576) w1 (hb : Below w.heap.size w w1) => toStringS_any (ls.map str) (by rw [hll]; exact h) w1 p cap (hr.later hb))
  have HES := Hid2.mk (fun w1 a1 a2 d1 d2 => eqStringS_any (ls.map str) (by rw [hll]; exact Nat.le_trans hn (by decide)) w1 a1 a2 d1 d2)
  have HSP := Hid2.mk (fun w1 a1 d1 => specLawsAmong_any n t hby ls hn hls w1 a1 d1)
  have HIM := Hid2.mk (fun w1 a1 d1 => implLawsAmong_any n t hby ls hn hls w1 a1 d1)
  have HTQ := Hid2.mk (fun w1 => toSquare_any n t w1)
  have hol := la_len n t ls
  rw [hll] at HS HTS HES
  clear hr hby hls hn
  generalize (laRes n t ls).1 = out at HSP HIM hol
  generalize (laRes n t ls).2 = code at HSP HIM
  have HEQ := Hid2.mk (fun w1 a1 a2 d1 d2 => eqInt64S_any out (by omega) w1 a1 a2 d1 d2)
  have hcc : (code == code) = true := by simp
  have hcn : (code != code) = false := by simp
  go_enter Try.func4, Try.ntmps4
  go_wp2_with (first | ((with_reducible apply wpM_box' M 25 (sqs n t)); rfl; exact ⟨rfl, rfl⟩; clear M; (try clear C); intro bq w9 h_bq M; have C := M.ruleAll; simp only [Go.Proofs.Ytpmemoabkbmljaa.ruleAll] at C) | (go_at_call 15; fail))
  refine (HS.out _ M.below).mono ?_
  rintro e w1 ⟨r, rfl, hr, hb⟩
  have M9 := M.later hb
  clear M; (try clear C)
  have M := M9
  clear M9 hb
  have C := M.ruleAll; simp only [Go.Proofs.Ytpmemoabkbmljaa.ruleAll] at C
  clear HS
  by_cases hneg : r < 0
  · go_wp2
    go_ret
    exact ⟨rfl, M.below⟩
  have hl1 : ls.length ≤ 1048576 := by have := hr (by omega); omega
  have HTS := Hid2.mk (HTS.out hl1)
  clear hr
  go_wp2_with (first | ((with_reducible apply wpM_lda' M 0 25 0 (sqs n t)); rfl; rfl; rfl; exact ⟨rfl, inf_sq0.trans (congrArg some (sqs_size ..).symm), _, und_sq0, rfl⟩; exact whole_of rfl) | (go_at_call 7; ((with_reducible refine (HTQ.out _).mono ?_); rintro e w1 ⟨rfl, hb⟩; have hsz := M.size; (try (have G9 := G.later hb; clear G; have G := G9; clear G9)); have M9 := M.later hb; clear M; (try clear C); have M := M9; clear M9; have C := M.ruleAll; simp only [Go.Proofs.Ytpmemoabkbmljaa.ruleAll] at C)) | (go_at_call 17; fail))
  refine (HTS.out _ M.below).mono ?_
  rintro e w1 ⟨g5, rfl, hg5, cs5, hs5, M'⟩
  have M9 := M.join1 M' (new_box hg5)
  have HG5 := Hid2.mk (And.intro (Nat.le_trans M.size hg5) hs5)
  clear M; (try clear C)
  have M := M9
  clear M9 M' hg5 hs5
  have C := M.ruleAll; simp only [Go.Proofs.Ytpmemoabkbmljaa.ruleAll] at C
  go_wp2_with (first | (go_at_call 16; fail))
  refine (HSP.out _ _ _ (tx_rdq ((M.box 0 rfl).rds HG5.out.2.2).rdq)).mono ?_
  rintro e w1 ⟨vw, rfl, M'⟩
  have M9 := M.joinRow M'
  obtain ⟨pw, cw, rfl⟩ := own_form (M9.row 0 rfl)
  clear M; (try clear C)
  have M := M9
  clear M9 M'
  have C := M.ruleAll; simp only [Go.Proofs.Ytpmemoabkbmljaa.ruleAll] at C
  go_wp2_with (first | ((with_reducible apply wpM_lda' M 2 25 0 (sqs n t)); rfl; rfl; rfl; exact ⟨rfl, inf_sq0.trans (congrArg some (sqs_size ..).symm), _, und_sq0, rfl⟩; exact whole_of rfl) | (go_at_call 7; ((with_reducible refine (HTQ.out _).mono ?_); rintro e w1 ⟨rfl, hb⟩; have hsz := M.size; (try (have G9 := G.later hb; clear G; have G := G9; clear G9)); have M9 := M.later hb; clear M; (try clear C); have M := M9; clear M9; have C := M.ruleAll; simp only [Go.Proofs.Ytpmemoabkbmljaa.ruleAll] at C)) | (go_at_call 17; fail))
  refine (HTS.out _ M.below).mono ?_
  rintro e w1 ⟨g6, rfl, hg6, cs6, hs6, M'⟩
  have M9 := M.join1 M' (new_box hg6)
  have HG6 := Hid2.mk (And.intro (Nat.le_trans M.size hg6) hs6)
  clear M; (try clear C)
  have M := M9
  clear M9 M' hg6 hs6
  have C := M.ruleAll; simp only [Go.Proofs.Ytpmemoabkbmljaa.ruleAll] at C
  go_wp2_with (first | ((with_reducible apply wpM_lda' M 3 25 0 (sqs n t)); rfl; rfl; rfl; exact ⟨rfl, inf_sq0.trans (congrArg some (sqs_size ..).symm), _, und_sq0, rfl⟩; exact whole_of rfl) | (go_at_call 7; ((with_reducible refine (HTQ.out _).mono ?_); rintro e w1 ⟨rfl, hb⟩; have hsz := M.size; (try (have G9 := G.later hb; clear G; have G := G9; clear G9)); have M9 := M.later hb; clear M; (try clear C); have M := M9; clear M9; have C := M.ruleAll; simp only [Go.Proofs.Ytpmemoabkbmljaa.ruleAll] at C)) | (go_at_call 18; fail))
  refine (HIM.out _ _ _ (tx_rdq ((M.box 0 rfl).rds HG6.out.2.2).rdq)).mono ?_
  rintro e w1 ⟨vg, rfl, M'⟩
  have M9 := M.joinRow M'
  obtain ⟨pg, cg, rfl⟩ := own_form (M9.row 0 rfl)
  clear M; (try clear C)
  have M := M9
  clear M9 M'
  have C := M.ruleAll; simp only [Go.Proofs.Ytpmemoabkbmljaa.ruleAll] at C
  go_wp2_with (first | (go_at_call 10; fail))
  refine (HEQ.out _ _ _ _ _ (fa_rdq rfl (M.row 0 rfl)) (fa_rdq rfl (M.row 2 rfl))).mono ?_
  rintro e w1 ⟨rfl, hb⟩
  have M9 := M.later hb
  clear M; (try clear C)
  have M := M9
  clear M9 hb
  have C := M.ruleAll; simp only [Go.Proofs.Ytpmemoabkbmljaa.ruleAll] at C
  go_wp2_with (first | ((with_reducible apply wpM_lda' M 5 25 0 (sqs n t)); rfl; rfl; rfl; exact ⟨rfl, inf_sq0.trans (congrArg some (sqs_size ..).symm), _, und_sq0, rfl⟩; exact whole_of rfl) | (go_at_call 7; ((with_reducible refine (HTQ.out _).mono ?_); rintro e w1 ⟨rfl, hb⟩; have hsz := M.size; (try (have G9 := G.later hb; clear G; have G := G9; clear G9)); have M9 := M.later hb; clear M; (try clear C); have M := M9; clear M9; have C := M.ruleAll; simp only [Go.Proofs.Ytpmemoabkbmljaa.ruleAll] at C)) | (go_at_call 17; fail))
  refine (HTS.out _ M.below).mono ?_
  rintro e w1 ⟨g7, rfl, hg7, cs7, hs7, M'⟩
  have M9 := M.join1 M' (new_box hg7)
  have HG7 := Hid2.mk (And.intro (Nat.le_trans M.size hg7) hs7)
  clear M; (try clear C)
  have M := M9
  clear M9 M' hg7 hs7
  have C := M.ruleAll; simp only [Go.Proofs.Ytpmemoabkbmljaa.ruleAll] at C
  go_wp2_with (first | (go_at_call 19; fail))
  refine (HES.out _ _ _ _ _ (str_rdq hll ((M.box 2 rfl).rds HG6.out.2.2).rdq) (str_rdq hll ((M.box 0 rfl).rds HG7.out.2.2).rdq)).mono ?_
  rintro e w1 ⟨rfl, hb⟩
  have M9 := M.later hb
  clear M; (try clear C)
  have M := M9
  clear M9 hb
  have C := M.ruleAll; simp only [Go.Proofs.Ytpmemoabkbmljaa.ruleAll] at C
  go_wp2_with (first | (go_at_call 20; fail))
  refine (markStringS_any ls.length g6 ls.length cs6 (HG6.out.2.1.trans hll) hl1 1 (by omega) _ (M.box 2 rfl)).mono ?_
  rintro e w1 ⟨rfl, cs8, _, _, M'⟩
  have M9 := M.wrote 2 rfl (.inl HG6.out.1) M'.kept.grown (M'.box 0 rfl)
  simp only [List.set_cons_zero, List.set_cons_succ] at M9
  clear M; (try clear C)
  have M := M9
  clear M9 M'
  have C := M.ruleAll; simp only [Go.Proofs.Ytpmemoabkbmljaa.ruleAll] at C
  have hk0 : ¬ (((1 + ls.length : Nat) : Int) < 0) := by omega
  go_wp2_with (first | (go_at_call 10; fail))
  refine (HEQ.out _ _ _ _ _ (fa_rdq rfl (M.row 1 rfl)) (fa_rdq rfl (M.row 3 rfl))).mono ?_
  rintro e w1 ⟨rfl, hb⟩
  have M9 := M.later hb
  clear M; (try clear C)
  have M := M9
  clear M9 hb
  have C := M.ruleAll; simp only [Go.Proofs.Ytpmemoabkbmljaa.ruleAll] at C
  go_wp2_with (first | (go_at_call 13; fail))
  refine (markInt64S_any w.heap.size _ _ _ 1 (by omega) (by omega) _ (M.row 1 rfl)).mono ?_
  rintro e w1 ⟨rfl, hk, hown⟩
  have M9 := M.rowmark 1 rfl (Nat.le_refl _) hk hown
  simp only [List.set_cons_zero, List.set_cons_succ] at M9
  clear M; (try clear C)
  have M := M9
  clear M9 hk hown
  have C := M.ruleAll; simp only [Go.Proofs.Ytpmemoabkbmljaa.ruleAll] at C
  have HHD := Hid2.mk (fun w1 p c => heldInt64S_any p out.length c 1 (by omega) (by omega) w1)
  have hq0 : ¬ ((1 : Int) + (out.length : Int) < 0) := by omega
  have hqq : ((1 : Int) + (out.length : Int) == 1 + (out.length : Int)) = true := by simp
  have hqn : ((1 : Int) + (out.length : Int) != 1 + (out.length : Int)) = false := by simp
  go_wp2_with (first | (go_at_call 14; fail))
  refine (HHD.out _ _ _ (mk_rdq (M.row 1 rfl))).mono ?_
  rintro e w1 ⟨rfl, hb⟩
  have M9 := M.later hb
  clear M; (try clear C)
  have M := M9
  clear M9 hb
  have C := M.ruleAll; simp only [Go.Proofs.Ytpmemoabkbmljaa.ruleAll] at C
  go_wp2_with (first | ((with_reducible apply wpM_lda' M 5 25 0 (sqs n t)); rfl; rfl; rfl; exact ⟨rfl, inf_sq0.trans (congrArg some (sqs_size ..).symm), _, und_sq0, rfl⟩; exact whole_of rfl) | (go_at_call 7; ((with_reducible refine (HTQ.out _).mono ?_); rintro e w1 ⟨rfl, hb⟩; have hsz := M.size; (try (have G9 := G.later hb; clear G; have G := G9; clear G9)); have M9 := M.later hb; clear M; (try clear C); have M := M9; clear M9; have C := M.ruleAll; simp only [Go.Proofs.Ytpmemoabkbmljaa.ruleAll] at C)) | (go_at_call 17; fail))
  refine (HTS.out _ M.below).mono ?_
  rintro e w1 ⟨g9, rfl, hg9, cs9, hs9, M'⟩
  have M9 := M.join1 M' (new_box hg9)
  have HG9 := Hid2.mk (And.intro (Nat.le_trans M.size hg9) hs9)
  clear M; (try clear C)
  have M := M9
  clear M9 M' hg9 hs9
  have C := M.ruleAll; simp only [Go.Proofs.Ytpmemoabkbmljaa.ruleAll] at C
  go_wp2_with (first | (go_at_call 18; fail))
  refine (HIM.out _ _ _ (tx_rdq ((M.box 0 rfl).rds HG9.out.2.2).rdq)).mono ?_
  rintro e w1 ⟨vh, rfl, M'⟩
  have M9 := M.joinRow M'
  obtain ⟨ph, ch, rfl⟩ := own_form (M9.row 0 rfl)
  clear M; (try clear C)
  have M := M9
  clear M9 M'
  have C := M.ruleAll; simp only [Go.Proofs.Ytpmemoabkbmljaa.ruleAll] at C
  go_wp2_with (first | (go_at_call 10; fail))
  refine (HEQ.out _ _ _ _ _ (fa_rdq rfl (M.row 0 rfl)) (fa_rdq rfl (M.row 5 rfl))).mono ?_
  rintro e w1 ⟨rfl, hb⟩
  have M9 := M.later hb
  clear M; (try clear C)
  have M := M9
  clear M9 hb
  have C := M.ruleAll; simp only [Go.Proofs.Ytpmemoabkbmljaa.ruleAll] at C
  go_wp2_with (first | (go_at_call 14; fail))
  refine (HHD.out _ _ _ (mk_rdq (M.row 3 rfl))).mono ?_
  rintro e w1 ⟨rfl, hb⟩
  have M9 := M.later hb
  clear M; (try clear C)
  have M := M9
  clear M9 hb
  have C := M.ruleAll; simp only [Go.Proofs.Ytpmemoabkbmljaa.ruleAll] at C
  go_wp2
  go_ret
  exact ⟨rfl, M.below⟩
end Go.Proofs.Ytpmemoabkbmljaa
