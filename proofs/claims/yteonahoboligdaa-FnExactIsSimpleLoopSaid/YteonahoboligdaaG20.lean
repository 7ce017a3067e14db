/- The normal subloops, AllNormal and IsSimpleLoop of the program: contracts. -/
import Derived.Test.YteonahoboligdaaG16
import Derived.Test.YteonahoboligdaaG19
namespace Go.Proofs.Yteonahoboligdaa
set_option linter.unusedSimpArgs false
set_option linter.unusedVariables false
open Go Go.RowKit

/-! ### The normal subloops, in order -/
noncomputable def nms (n : Nat) (t : Nat → Nat → Nat) : List Nat := (subs n t).filter fun m => !(!(norM n t m == m))
theorem nms_mem {n : Nat} {t : Nat → Nat → Nat} {m : Nat} : m ∈ nms n t ↔ SubL n t m ∧ norM n t m = m := by
  unfold nms
  rw [List.mem_filter, subs_mem]
  simp
theorem nms_len (n : Nat) (t : Nat → Nat → Nat) : (nms n t).length ≤ (subs n t).length := List.length_filter_le ..
/-- The same as lists. -/
noncomputable def anN (n : Nat) (t : Nat → Nat → Nat) : List (List Nat) := (nms n t).map mL
theorem anN_srt (n : Nat) (t : Nat → Nat → Nat) : Srt (anN n t) := by
  have h := allL_srt n t
  rw [← subs_lists] at h
  unfold anN nms Srt
  unfold Srt at h
  rw [List.pairwise_map] at h ⊢
  exact h.sublist List.filter_sublist
theorem anN_mem {n : Nat} {t : Nat → Nat → Nat} {x : List Nat} : x ∈ anN n t ↔ ∃ m, SubL n t m ∧ norM n t m = m ∧ x = mL m := by
  unfold anN
  rw [List.mem_map]
  exact ⟨fun ⟨m, h, e⟩ => ⟨m, (nms_mem.1 h).1, (nms_mem.1 h).2, e.symm⟩, fun ⟨m, h1, h2, e⟩ => ⟨m, nms_mem.2 ⟨h1, h2⟩, e.symm⟩⟩
theorem anN_len (n : Nat) (t : Nat → Nat → Nat) (hs : IsSq (n : Int) t) : (anN n t).length ≤ 1024 := by
  unfold anN
  rw [List.length_map]
  have := nms_len n t
  rw [subs_len] at this
  have := allL_len n t hs; omega
theorem anN_small {n : Nat} {t : Nat → Nat → Nat} : ∀ x ∈ anN n t, x.length ≤ 10 := fun x hx => by
  obtain ⟨m, _, _, rfl⟩ := anN_mem.1 hx
  exact mL_le m
noncomputable def anL (n : Int) (t : Nat → Nat → Nat) : List (List Nat) := if isLp n t = true then anN n.toNat t else []
theorem anL_len (n : Int) (t : Nat → Nat → Nat) : (anL n t).length ≤ 1048576 := by
  unfold anL
  split
  · rename_i h
    obtain ⟨N, rfl, hs⟩ := lp_natG h
    exact Nat.le_trans (anN_len _ t hs) (by decide)
  · exact Nat.zero_le _
theorem anL_small (n : Int) (t : Nat → Nat → Nat) : ∀ c ∈ anL n t, c.length ≤ 1048576 := by
  unfold anL
  split
  · exact fun c hc => Nat.le_trans (anN_small c hc) (by decide)
  · intro c hc; cases hc
/-- What IsSimpleLoop answers. -/
noncomputable def simB (n : Int) (t : Nat → Nat → Nat) : Bool := if isLp n t = true then decide (1 < n) && ((anN n.toNat t).length == 2) else false

set_option maxRecDepth 100000 in
set_option maxHeartbeats 1000000 in
theorem normFn_any (n : Nat) (t : Nat → Nat → Nat) (hl : Loo n t) (m : Nat) (hml : m < 1024) (hm : ∀ i, m.testBit i = true → i < n) (bq : Nat) (w : World) (M0 : Mm no w w [.box bq (sqs (n : Int) t) 30]) :
    Calls Try.prog 68 #[.int .i64 (m : Int), .pointer (some ⟨bq, 0, none⟩)] w fun e w' => e = .returned (.bool (!(norM n t m == m))) ∧ Below w.heap.size w w' := by
  have M := M0
  have H1 := Hid2.mk (fun w1 => isNormal_any n t hl m hml hm w1)
  generalize (norM n t m == m) = c at *
  clear hl hm M0
  have C := M.ruleAll; simp only [Go.Proofs.Yteonahoboligdaa.ruleAll] at C
  go_enter Try.func68, Try.ntmps68
  go_wp2_with (first | ((with_reducible apply wpM_lda' M 0 30 0 (sqs (n : Int) t)); rfl; rfl; rfl; exact ⟨rfl, inf_sqs.trans (congrArg some (sqs_size ..).symm), _, und_sqs, rfl⟩; exact whole_of rfl) | (go_at_call 69; ((with_reducible refine (H1.out _).mono ?_); rintro e w1 ⟨rfl, hb⟩; have hsz := M.size; (try (have G9 := G.later hb; clear G; have G := G9; clear G9)); have M9 := M.later hb; clear M; (try clear C); have M := M9; clear M9; have C := M.ruleAll; simp only [Go.Proofs.Yteonahoboligdaa.ruleAll] at C)))
  go_ret
  exact ⟨rfl, M.below⟩

set_option maxRecDepth 100000 in
set_option maxHeartbeats 1000000 in
theorem normals_any (n : Nat) (t : Nat → Nat → Nat) (hl : Loo n t) (w : World) :
    Calls Try.prog 40 #[.agg (sqs (n : Int) t)] w fun e w' => ∃ v, e = .returned v ∧ Mm no w w' [.row w.heap.size v (nms n t).length (i64N (nms n t)) 73 1] := by
  have M := Mm.start no w
  have hs := hl.sq
  have H2 := Hid2.mk (fun w1 => subloops_any n t hs w1)
  have h0 : 0 < (subs n t).length := List.length_pos_of_mem (subs_mem.2 (genM_subL hs (zero_bits n)))
  have hlen : (subs n t).length ≤ 2000 := by rw [subs_len]; have := allL_len n t hs; omega
  have HD : Hid2 (∀ (w0 w : World) (bq : Nat) (v : Value), Mm no w0 w [.row w0.heap.size v (subs n t).length (i64N (subs n t)) 73 1, .box bq (sqs (n : Int) t) 30] →
      Calls Try.prog 67 #[v, .func (.func 68) #[] #[.pointer (some ⟨bq, 0, none⟩)]] w (DelPost (nms n t) w0 w0.heap.size [.box bq (sqs (n : Int) t) 30])) := ⟨fun w0 w bq v M0 =>
    deleteF_any (subs n t) h0 hlen (fun m => !(norM n t m == m)) 68 #[] #[.pointer (some ⟨bq, 0, none⟩)] w0 w w0.heap.size bq n t v (Nat.le_refl _) M0 (enters_of (P := Try.prog) (f := 68) (by exact Try.func68) (by kernel_rfl) rfl) fun m hm w1 M1 => normFn_any n t hl m (subs_mem.1 hm).1 (subs_mem.1 hm).2.2 bq w1 M1⟩
  generalize nms n t = res at *
  generalize subs n t = ms at *
  clear hl hs
  go_enter Try.func40, Try.ntmps40
  go_wp2_with (first | ((with_reducible apply wpM_box' M 30 (sqs (n : Int) t)); rfl; exact ⟨rfl, rfl⟩; clear M; (try clear C); intro bq w9 h_bq M; have C := M.ruleAll; simp only [Go.Proofs.Yteonahoboligdaa.ruleAll] at C) | ((with_reducible apply wpM_lda' M 0 30 0 (sqs (n : Int) t)); rfl; rfl; rfl; exact ⟨rfl, inf_sqs.trans (congrArg some (sqs_size ..).symm), _, und_sqs, rfl⟩; exact whole_of rfl) | (go_at_call 43; fail))
  refine (H2.out _).mono ?_
  rintro e w2 ⟨v, rfl, M'⟩
  have M9 := M.joinRow M'
  clear M; (try clear C)
  have M := M9
  clear M9 M' H2
  have HD1 := Hid2.mk (HD.out w _ bq v M)
  clear HD
  go_wp2_with (first | (go_at_call 67; fail))
  refine HD1.out.mono ?_
  rintro e w3 ⟨v3, rfl, M'⟩
  have HM := Hid2.mk (M'.sub [0] (by decide))
  obtain ⟨pp, cc, rfl⟩ := own_form (M'.row 0 rfl)
  clear M M' HD1
  go_wp2
  go_ret
  exact ⟨_, rfl, HM.out⟩

def MsPost (cls : List (List Nat)) (code : Int) (w : World) (e : Ending) (w' : World) : Prop := ∃ v, e = .returned (.tuple #[v, .int .i64 code]) ∧ ClsRes w.heap.size w w' v cls 33 2
theorem MsPost.nil {w w' : World} (hb : Below w.heap.size w w') (c : Int) : MsPost [] c w (.returned (.tuple #[.slice none 0 0, .int .i64 c])) w' :=
  ⟨_, rfl, [], rfl, ((Mm.start no w).later hb).nilRow w.heap.size 33 1⟩
set_option maxRecDepth 100000 in
set_option maxHeartbeats 1000000 in
theorem implAllNorm_any (n : Int) (t : Nat → Nat → Nat) (hby : Byt2 t) (w : World) : Calls Try.prog 27 #[.agg (sqs n t)] w (MsPost (anL n t) (asCode n t) w) := by
  have M := Mm.start no w
  have H1 := Hid2.mk (fun w1 => isLoop_any n t w1 hby)
  unfold anL asCode
  cases hl : isLp n t with
  | false =>
    rw [hl] at H1
    rw [if_neg (by decide), if_neg (by decide)]
    clear hby hl
    go_enter Try.func27, Try.ntmps27
    go_wp2_with (first | ((with_reducible apply wpM_box' M 30 (sqs n t)); rfl; exact ⟨rfl, rfl⟩; clear M; (try clear C); intro bq w9 h_bq M; have C := M.ruleAll; simp only [Go.Proofs.Yteonahoboligdaa.ruleAll] at C) | ((with_reducible apply wpM_lda' M 0 30 0 (sqs n t)); rfl; rfl; rfl; exact ⟨rfl, inf_sqs.trans (congrArg some (sqs_size ..).symm), _, und_sqs, rfl⟩; exact whole_of rfl) | (go_at_call 39; ((with_reducible refine (H1.out _).mono ?_); rintro e w1 ⟨rfl, hb⟩; have hsz := M.size; (try (have G9 := G.later hb; clear G; have G := G9; clear G9)); have M9 := M.later hb; clear M; (try clear C); have M := M9; clear M9; have C := M.ruleAll; simp only [Go.Proofs.Yteonahoboligdaa.ruleAll] at C)))
    go_ret2
    exact MsPost.nil M.below 1
  | true =>
    obtain ⟨N, rfl, hs⟩ := lp_natG hl
    rw [hl] at H1
    rw [if_pos rfl, if_pos rfl]
    have H2 := Hid2.mk (fun w1 => normals_any N t (Loo.of_lp (isLp_true.1 hl)) w1)
    have hln := anN_len N t hs
    have H3 := Hid2.mk (fun w1 p cap (h : rdq w1 p (nms N t).length (i64F (nms N t))) => listsOf_any (nms N t) (by have := hln; unfold anN at this; rw [List.length_map] at this; omega) (fun m hm => (nms_mem.1 hm).1.1) w1 p cap h)
    simp only [Int.toNat_natCast]
    unfold anN
    generalize (nms N t).map mL = cls at H3 ⊢
    generalize nms N t = ms at H2 H3
    clear hby hl hs hln
    go_enter Try.func27, Try.ntmps27
    go_wp2_with (first | ((with_reducible apply wpM_box' M 30 (sqs (N : Int) t)); rfl; exact ⟨rfl, rfl⟩; clear M; (try clear C); intro bq w9 h_bq M; have C := M.ruleAll; simp only [Go.Proofs.Yteonahoboligdaa.ruleAll] at C) | ((with_reducible apply wpM_lda' M 0 30 0 (sqs (N : Int) t)); rfl; rfl; rfl; exact ⟨rfl, inf_sqs.trans (congrArg some (sqs_size ..).symm), _, und_sqs, rfl⟩; exact whole_of rfl) | (go_at_call 39; ((with_reducible refine (H1.out _).mono ?_); rintro e w1 ⟨rfl, hb⟩; have hsz := M.size; (try (have G9 := G.later hb; clear G; have G := G9; clear G9)); have M9 := M.later hb; clear M; (try clear C); have M := M9; clear M9; have C := M.ruleAll; simp only [Go.Proofs.Yteonahoboligdaa.ruleAll] at C)) | (go_at_call 40; fail))
    refine (H2.out _).mono ?_
    rintro e w2 ⟨v, rfl, M'⟩
    have M9 := M.joinRow M'
    obtain ⟨pp, cc, rfl⟩ := own_form (M9.row 0 rfl)
    clear M; (try clear C)
    have M := M9
    clear M9 M'
    have hr := rdq_of_own (M.row 0 rfl)
    rw [Nat.mul_one] at hr
    have H4 := Hid2.mk (H3.out _ pp cc (rdq.congr hr fun j hj => i64N_at hj))
    clear hr
    go_wp2_with (first | (go_at_call 42; fail))
    refine H4.out.mono ?_
    rintro e w3 ⟨v3, rfl, vs, hvs, M'⟩
    have M9 := clsRes_lower M.size M.below M'
    obtain ⟨p3, c3, rfl⟩ := own_form (M9.row 0 rfl)
    have HM := Hid2.mk M9
    clear M M' M9
    go_wp2
    go_ret2
    exact ⟨_, rfl, vs, hvs, HM.out⟩

set_option maxRecDepth 100000 in
set_option maxHeartbeats 1000000 in
theorem implSimple_any (n : Int) (t : Nat → Nat → Nat) (hby : Byt2 t) (w : World) : Calls Try.prog 18 #[.agg (sqs n t)] w fun e w' => e = .returned (.tuple #[.bool (simB n t), .int .i64 (asCode n t)]) ∧ Below w.heap.size w w' := by
  have M := Mm.start no w
  have H1 := Hid2.mk (fun w1 => isLoop_any n t w1 hby)
  unfold simB asCode
  cases hl : isLp n t with
  | false =>
    rw [hl] at H1
    rw [if_neg (by decide), if_neg (by decide)]
    clear hby hl
    go_enter Try.func18, Try.ntmps18
    go_wp2_with (first | ((with_reducible apply wpM_box' M 30 (sqs n t)); rfl; exact ⟨rfl, rfl⟩; clear M; (try clear C); intro bq w9 h_bq M; have C := M.ruleAll; simp only [Go.Proofs.Yteonahoboligdaa.ruleAll] at C) | ((with_reducible apply wpM_lda' M 0 30 0 (sqs n t)); rfl; rfl; rfl; exact ⟨rfl, inf_sqs.trans (congrArg some (sqs_size ..).symm), _, und_sqs, rfl⟩; exact whole_of rfl) | (go_at_call 39; ((with_reducible refine (H1.out _).mono ?_); rintro e w1 ⟨rfl, hb⟩; have hsz := M.size; (try (have G9 := G.later hb; clear G; have G := G9; clear G9)); have M9 := M.later hb; clear M; (try clear C); have M := M9; clear M9; have C := M.ruleAll; simp only [Go.Proofs.Yteonahoboligdaa.ruleAll] at C)))
    go_ret2
    exact ⟨rfl, M.below⟩
  | true =>
    obtain ⟨N, rfl, hs⟩ := lp_natG hl
    rw [hl] at H1
    rw [if_pos rfl, if_pos rfl]
    have H2 := Hid2.mk (fun w1 => normals_any N t (Loo.of_lp (isLp_true.1 hl)) w1)
    have hln := anN_len N t hs
    simp only [Int.toNat_natCast]
    unfold anN at *
    rw [List.length_map] at *
    have so := sqs_order (N : Int) t
    generalize nms N t = ms at *
    clear hby hl hs
    by_cases h1 : 1 < N
    · have h1' : (1 : Int) < (N : Int) := by omega
      have hd : decide ((1 : Int) < (N : Int)) = true := decide_eq_true h1'
      have hE := Hid2.mk (show ((ms.length : Int) == 2) = (ms.length == 2) by rw [Bool.eq_iff_iff]; simp only [beq_iff_eq]; omega)
      rw [hd, Bool.true_and, ← hE.out]
      go_enter Try.func18, Try.ntmps18
      go_wp2_with (first | ((with_reducible apply wpM_box' M 30 (sqs (N : Int) t)); rfl; exact ⟨rfl, rfl⟩; clear M; (try clear C); intro bq w9 h_bq M; have C := M.ruleAll; simp only [Go.Proofs.Yteonahoboligdaa.ruleAll] at C) | ((with_reducible apply wpM_lda' M 0 30 0 (sqs (N : Int) t)); rfl; rfl; rfl; exact ⟨rfl, inf_sqs.trans (congrArg some (sqs_size ..).symm), _, und_sqs, rfl⟩; exact whole_of rfl) | (go_at_call 39; ((with_reducible refine (H1.out _).mono ?_); rintro e w1 ⟨rfl, hb⟩; have hsz := M.size; (try (have G9 := G.later hb; clear G; have G := G9; clear G9)); have M9 := M.later hb; clear M; (try clear C); have M := M9; clear M9; have C := M.ruleAll; simp only [Go.Proofs.Yteonahoboligdaa.ruleAll] at C)) | (go_at_call 40; fail))
      refine (H2.out _).mono ?_
      rintro e w2 ⟨v, rfl, M'⟩
      have M9 := M.joinRow M'
      obtain ⟨pp, cc, rfl⟩ := own_form (M9.row 0 rfl)
      clear M; (try clear C)
      have M := M9
      clear M9 M'
      go_wp2
      go_ret2
      exact ⟨rfl, M.below⟩
    · have h1' : ¬ ((1 : Int) < (N : Int)) := by omega
      have hd : decide ((1 : Int) < (N : Int)) = false := decide_eq_false h1'
      rw [hd, Bool.false_and]
      go_enter Try.func18, Try.ntmps18
      go_wp2_with (first | ((with_reducible apply wpM_box' M 30 (sqs (N : Int) t)); rfl; exact ⟨rfl, rfl⟩; clear M; (try clear C); intro bq w9 h_bq M; have C := M.ruleAll; simp only [Go.Proofs.Yteonahoboligdaa.ruleAll] at C) | ((with_reducible apply wpM_lda' M 0 30 0 (sqs (N : Int) t)); rfl; rfl; rfl; exact ⟨rfl, inf_sqs.trans (congrArg some (sqs_size ..).symm), _, und_sqs, rfl⟩; exact whole_of rfl) | (go_at_call 39; ((with_reducible refine (H1.out _).mono ?_); rintro e w1 ⟨rfl, hb⟩; have hsz := M.size; (try (have G9 := G.later hb; clear G; have G := G9; clear G9)); have M9 := M.later hb; clear M; (try clear C); have M := M9; clear M9; have C := M.ruleAll; simp only [Go.Proofs.Yteonahoboligdaa.ruleAll] at C)))
      go_ret2
      exact ⟨rfl, M.below⟩
end Go.Proofs.Yteonahoboligdaa
