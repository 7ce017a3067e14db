/- The laws that hold, and where a law fails, for the reference; the laws that hold, for the program; contracts. -/
import Derived.Test.YtpmemoabkbmljaaDoorC94
namespace Go.Proofs.YtpmemoabkbmljaaDoor
set_option linter.unusedSimpArgs false
set_option linter.unusedVariables false
open Go Go.RowKit

/-- A law that floats. -/
def StLw (w0 : World) (xs ys : List Nat) : List Value → List Ent → Prop
  | [], Lg => Lg = []
  | v :: _, Lg => ∃ p1 c1 p2 c2, v = .agg (idV p1 c1 p2 c2 xs.length ys.length) ∧ Lg = [.row w0.heap.size (.slice p1 xs.length c1) xs.length (u8s xs) 5 1, .row w0.heap.size (.slice p2 ys.length c2) ys.length (u8s ys) 5 1]

set_option maxRecDepth 100000 in
set_option maxHeartbeats 4000000 in
theorem specLawFails_any (n : Int) (t : Nat → Nat → Nat) (hby : Byt2 t) (k : Int) (w : World) : Calls Tryd.prog 13 #[.agg (sqs n t), .int .i64 k] w (FaPost (lfRes n t k).1 (lfRes n t k).2 w) := by
  have M := Mm.start no w
  have HC := fun w1 => l07Code_any n t hby k w1
  by_cases h0 : lwCode n t k = 0
  · rw [h0] at HC
    obtain ⟨hlp, hk0, hk1⟩ := lwCode_0 h0
    obtain ⟨N, rfl⟩ : ∃ N : Nat, n = N := ⟨n.toNat, by have := hlp.sq.lo; omega⟩
    obtain ⟨K, rfl⟩ : ∃ K : Nat, k = K := ⟨k.toNat, by omega⟩
    have HRES := Hid2.mk (show lfRes N t K = _ from if_pos h0)
    simp only [Int.toNat_natCast] at HRES
    generalize lfRes N t K = res at HRES ⊢
    have hs := hlp.sq
    have hk : K < 20 := by omega
    have HLW := Hid2.mk (fun w1 => l07Law_any K hk w1)
    have HF := Hid2.mk (fun w1 p1 c1 p2 c2 r1 r2 => l03Fails2_any N t hs (lawI K).1 (lawI K).2 (lawI_tm hk).1 (lawI_tm hk).2 w1 p1 p2 c1 c2 r1 r2)
    unfold holdsB at HRES
    generalize fst3 (neB t (elB (lawI K).1) (lawI K).1.length (elB (lawI K).2) (lawI K).2.length) N N N = o at HF HRES
    generalize (lawI K).1 = xs at *
    generalize (lawI K).2 = ys at *
    clear h0 hby hk0 hk1 hlp hs hk
    go_enter Tryd.func13, Tryd.ntmps13
    go_wp2_with (first | ((with_reducible apply wpM_box' M 31 (sqs (N : Int) t)); rfl; exact ⟨rfl, rfl⟩; clear M; (try clear C); intro bq w9 h_bq M; have C := M.ruleAll; simp only [Go.Proofs.YtpmemoabkbmljaaDoor.ruleAll] at C) | ((with_reducible apply wpM_lda' M 0 31 0 (sqs (N : Int) t)); rfl; rfl; rfl; exact ⟨rfl, inf_sqs.trans (congrArg some (sqs_size ..).symm), _, und_sqs, rfl⟩; exact whole_of rfl) | (go_at_call 25; ((with_reducible refine (HC _).mono ?_); rintro e w1 ⟨rfl, hb⟩; have hsz := M.size; (try (have G9 := G.later hb; clear G; have G := G9; clear G9)); have M9 := M.later hb; clear M; (try clear C); have M := M9; clear M9; have C := M.ruleAll; simp only [Go.Proofs.YtpmemoabkbmljaaDoor.ruleAll] at C)))
    apply wp_region_mmf1 M [0, 1] 2 3 _ (StLw w xs ys) (by kernel_rfl) (by kernel_rfl) rfl rfl rfl
    case ht => (repeat (first | exact wpTextG_nil | (apply wpTextG_cons; (intro g9 w2 hG; obtain ⟨Lg9, hSt9, G⟩ := hG; have M := G.suffix; have C := M.ruleAll; simp only [Go.Proofs.YtpmemoabkbmljaaDoor.ruleAll] at C; go_wp2_with (first | ((with_reducible apply wpM_lda' M 0 31 0 (sqs (N : Int) t)); rfl; rfl; rfl; exact ⟨rfl, inf_sqs.trans (congrArg some (sqs_size ..).symm), _, und_sqs, rfl⟩; exact whole_of rfl)); exact ⟨rfl, rfl, Lg9, hSt9, G⟩); rfl)))
    case hA =>
      intro Lg w2 h M
      obtain rfl : Lg = [] := h
      refine yield_walk (ops := #[]) rfl rfl (by simp [Act.put]) ?_
      simp only [List.nil_append] at M
      go_wp2_with (first | (go_at_call 27; fail))
      refine (HLW.out _).mono ?_
      rintro e w1 ⟨p1, c1, p2, c2, rfl, M'⟩
      have M9 := (M.joinRows M').weakRows M.size M.size
      go_wp2
      exact ⟨_, ⟨p1, c1, p2, c2, rfl, rfl⟩, M9⟩
    clear M; (try clear C)
    intro v Lg w2 h M
    obtain ⟨p1, c1, p2, c2, rfl, rfl⟩ := h
    simp only [List.drop_succ_cons, List.drop_zero, List.cons_append, List.nil_append] at M ⊢
    have C := M.ruleAll; simp only [Go.Proofs.YtpmemoabkbmljaaDoor.ruleAll] at C
    go_wp2_with (first | (go_at_call 26; fail))
    refine (HF.out _ _ _ _ _ (u8_rdq rfl (M.row 0 rfl)) (u8_rdq rfl (M.row 1 rfl))).mono ?_
    rintro e w3 ⟨v, rfl, M'⟩
    have M9 := M.joinRow M'
    obtain ⟨pp, cc, rfl⟩ := own_form (M9.row 0 rfl)
    clear M; (try clear C)
    have M := M9
    clear M9 M'
    rcases o with _ | ⟨x, y, z⟩
    · have hr : res = ([], 4) := HRES.out
      subst hr
      have hl : ((ffOut none).length : Int) = 0 := rfl
      have hl2 : (ffOut none).length = 0 := rfl
      generalize (ffOut none).length = m at hl hl2 M ⊢
      subst hl2
      clear HRES
      go_wp2
      go_ret2
      exact FaPost.nil2 M.below 4
    · have hr : res = (ffOut (some (x, y, z)), 0) := HRES.out
      subst hr
      have hl : (ffOut (some (x, y, z))).length = 3 := rfl
      clear HRES
      generalize ffOut (some (x, y, z)) = out at *
      rw [hl] at M ⊢
      go_wp2
      go_ret2
      exact ⟨_, rfl, by rw [hl]; exact M.sub [0] (by decide)⟩
  · have hres : lfRes n t k = ([], lwCode n t k) := if_neg h0
    rw [hres]
    generalize lwCode n t k = c at *
    have hc : (c == 0) = false := by simpa using h0
    have hc1 : (c != 0) = true := by rw [bne, hc]; rfl
    clear hby hres
    go_enter Tryd.func13, Tryd.ntmps13
    go_wp2_with (first | ((with_reducible apply wpM_box' M 31 (sqs n t)); rfl; exact ⟨rfl, rfl⟩; clear M; (try clear C); intro bq w9 h_bq M; have C := M.ruleAll; simp only [Go.Proofs.YtpmemoabkbmljaaDoor.ruleAll] at C) | ((with_reducible apply wpM_lda' M 0 31 0 (sqs n t)); rfl; rfl; rfl; exact ⟨rfl, inf_sqs.trans (congrArg some (sqs_size ..).symm), _, und_sqs, rfl⟩; exact whole_of rfl) | (go_at_call 25; ((with_reducible refine (HC _).mono ?_); rintro e w1 ⟨rfl, hb⟩; have hsz := M.size; (try (have G9 := G.later hb; clear G; have G := G9; clear G9)); have M9 := M.later hb; clear M; (try clear C); have M := M9; clear M9; have C := M.ruleAll; simp only [Go.Proofs.YtpmemoabkbmljaaDoor.ruleAll] at C)))
    go_ret2
    exact FaPost.nil2 M.below c

/-! ### The laws that hold -/
/-- The numbers below m for which p holds. -/
def selTo (p : Nat → Bool) : Nat → List Int
  | 0 => []
  | k + 1 => if p k = true then selTo p k ++ [(k : Int)] else selTo p k
theorem selTo_len (p : Nat → Bool) : ∀ k, (selTo p k).length ≤ k
  | 0 => Nat.le_refl _
  | k + 1 => by
    have := selTo_len p k
    rw [selTo]
    split
    · simp only [List.length_append, List.length_singleton]; omega
    · omega

set_option maxRecDepth 100000 in
set_option maxHeartbeats 4000000 in
theorem l07Laws_any (n : Nat) (t : Nat → Nat → Nat) (hs : IsSq (n : Int) t) (w : World) : Calls Tryd.prog 20 #[.agg (sqs n t)] w fun e w' => ∃ v, e = .returned v ∧ Mm no w w' [.row w.heap.size v (selTo (lawB n t) 20).length (i64s (selTo (lawB n t) 20)) 2 1] := by
  have M := Mm.start no w
  have HLW := Hid2.mk (fun k hk w1 => l07Law_any k hk w1)
  have HH := Hid2.mk (fun k hk w1 p1 c1 p2 c2 r1 r2 => l03Holds_any n t hs (lawI k).1 (lawI k).2 (lawI_tm hk).1 (lawI_tm hk).2 w1 p1 p2 c1 c2 r1 r2)
  have HB := Hid2.mk (show ∀ k, holdsB n t (lawI k).1 (lawI k).2 = lawB n t k from fun _ => rfl)
  generalize lawB n t = p at HB ⊢
  clear hs
  go_enter Tryd.func20, Tryd.ntmps20
  go_wp2_with (first | ((with_reducible apply wpM_box' M 31 (sqs (n : Int) t)); rfl; exact ⟨rfl, rfl⟩; clear M; (try clear C); intro bq w9 h_bq M; have C := M.ruleAll; simp only [Go.Proofs.YtpmemoabkbmljaaDoor.ruleAll] at C) | ((with_reducible apply wpM_bsl' M 26 0 2 ([]) (#[])); rfl; rfl; rfl; exact bsl_i640; clear M; (try clear C); intro bo w9 h_bo M; have C := M.ruleAll; simp only [Go.Proofs.YtpmemoabkbmljaaDoor.ruleAll] at C))
  have M9 := M.asRow 0 rfl w.heap.size 0 1 h_bo rfl (Nat.zero_le _)
  simp only [List.set_cons_zero] at M9
  clear M; (try clear C)
  have M := M9
  clear M9
  have C := M.ruleAll; simp only [Go.Proofs.YtpmemoabkbmljaaDoor.ruleAll] at C
  go_loopw [4, 3] (fun i v wr => ∃ (k : Nat) (v' : Value), k ≤ 20 ∧ i = .int .i64 (k : Int) ∧ v = v' ∧ Mm no w wr [.row w.heap.size v' (selTo p k).length (i64s (selTo p k)) 2 1, .box bq (sqs (n : Int) t) 31]) (fun i _ _ => 20 - (intOf i).toNat)
  case atStart => exact ⟨0, _, by omega, rfl, rfl, M⟩
  case round =>
    obtain ⟨k, v, hk, rfl, rfl, M9⟩ := hrel
    obtain ⟨pp, cc, rfl⟩ := own_form (M9.row 0 rfl)
    clear M; (try clear C)
    have M := M9
    clear M9
    have C := M.ruleAll; simp only [Go.Proofs.YtpmemoabkbmljaaDoor.ruleAll] at C
    by_cases hlt : k < 20
    · have hlt' : (k : Int) < 20 := by omega
      have HL1 := Hid2.mk (fun w1 => HLW.out k hlt w1)
      have HH1 := Hid2.mk (fun w1 p1 c1 p2 c2 r1 r2 => HH.out k hlt w1 p1 c1 p2 c2 r1 r2)
      have hsl := selTo_len p k
      have HNX := Hid2.mk (show selTo p (k + 1) = if p k = true then selTo p k ++ [(k : Int)] else selTo p k from rfl)
      rw [HB.out k] at HH1
      generalize (lawI k).1 = xs at *
      generalize (lawI k).2 = ys at *
      generalize selTo p k = out at *
      generalize p k = b at HH1 HNX
      go_wp2
      apply wp_region_mmf1 M [0, 1] 2 3 _ (StLw w xs ys) (by kernel_rfl) (by kernel_rfl) rfl rfl rfl
      case ht => (repeat (first | exact wpTextG_nil | (apply wpTextG_cons; (intro g9 w2 hG; obtain ⟨Lg9, hSt9, G⟩ := hG; have M := G.suffix; have C := M.ruleAll; simp only [Go.Proofs.YtpmemoabkbmljaaDoor.ruleAll] at C; go_wp2_with (first | ((with_reducible apply wpM_lda' M 1 31 0 (sqs (n : Int) t)); rfl; rfl; rfl; exact ⟨rfl, inf_sqs.trans (congrArg some (sqs_size ..).symm), _, und_sqs, rfl⟩; exact whole_of rfl)); exact ⟨rfl, rfl, Lg9, hSt9, G⟩); rfl)))
      case hA =>
        intro Lg w2 h M
        obtain rfl : Lg = [] := h
        refine yield_walk (ops := #[]) rfl rfl (by simp [Act.put]) ?_
        simp only [List.nil_append] at M
        go_wp2_with (first | (go_at_call 27; fail))
        refine (HL1.out _).mono ?_
        rintro e w1 ⟨p1, c1, p2, c2, rfl, M'⟩
        have M9 := (M.joinRows M').weakRows M.size M.size
        go_wp2
        exact ⟨_, ⟨p1, c1, p2, c2, rfl, rfl⟩, M9⟩
      clear M; (try clear C)
      intro v Lg w2 h M
      obtain ⟨p1, c1, p2, c2, rfl, rfl⟩ := h
      simp only [List.drop_succ_cons, List.drop_zero, List.cons_append, List.nil_append] at M ⊢
      have C := M.ruleAll; simp only [Go.Proofs.YtpmemoabkbmljaaDoor.ruleAll] at C
      cases b with
      | false =>
        go_wp2_with (first | (go_at_call 36; ((with_reducible refine (HH1.out _ _ _ _ _ (u8_rdq rfl (M.row 0 rfl)) (u8_rdq rfl (M.row 1 rfl))).mono ?_); rintro e w5 ⟨rfl, hb⟩; have hsz := M.size; (try (have G9 := G.later hb; clear G; have G := G9; clear G9)); have M9 := M.later hb; clear M; (try clear C); have M := M9; clear M9; have C := M.ruleAll; simp only [Go.Proofs.YtpmemoabkbmljaaDoor.ruleAll] at C)))
        go_roundw
        case rel => exact ⟨k + 1, _, by omega, by go_num, rfl, by rw [HNX.out]; exact M.sub [2, 3] (by decide)⟩
        case measure => simp [intOf]; omega
      | true =>
        go_wp2_with (first | (go_at_call 36; ((with_reducible refine (HH1.out _ _ _ _ _ (u8_rdq rfl (M.row 0 rfl)) (u8_rdq rfl (M.row 1 rfl))).mono ?_); rintro e w5 ⟨rfl, hb⟩; have hsz := M.size; (try (have G9 := G.later hb; clear G; have G := G9; clear G9)); have M9 := M.later hb; clear M; (try clear C); have M := M9; clear M9; have C := M.ruleAll; simp only [Go.Proofs.YtpmemoabkbmljaaDoor.ruleAll] at C)) | ((with_reducible apply wpM_bsl' M 26 1 2 ([(0, .int .i64 (k : Int))]) (#[.int .i64 (k : Int)])); rfl; rfl; rfl; exact bsl_i641 _; clear M; (try clear C); intro bb w9 h_bb M; have C := M.ruleAll; simp only [Go.Proofs.YtpmemoabkbmljaaDoor.ruleAll] at C) | ((with_reducible apply wpM_app' M 26 3 0 (w.heap.size) (.slice pp out.length cc) (out.length) (i64s out) 2 1 8); rfl; rfl; rfl; rfl; rfl; rfl; rfl; (first | exact .inl (Nat.le_refl _) | exact .inl (by assumption) | exact .inr (by assumption) | exact .inr HDv.out); (first | exact M.size | (have hq := M.size; omega)); exact und_sl64; exact inf_el64; rfl; decide; decide; rfl; exact rfl; exact flat_i1 _; omega; clear M; (try clear C); intro v2 w9 far_v2 M; simp only [List.set_cons_zero, List.set_cons_succ, entBlk, entT, List.getElem?_cons_zero, List.getElem?_cons_succ] at M; obtain ⟨pp_v2, cap_v2, rfl⟩ := own_form (M.row 3 rfl); have C := M.ruleAll; simp only [Go.Proofs.YtpmemoabkbmljaaDoor.ruleAll] at C))
        go_roundw
        case rel => exact ⟨k + 1, _, by omega, by go_num, rfl, by rw [HNX.out, if_pos trivial]; exact (M.sub [3, 4] (by decide)).eq (by rw [i64s_app]; simp only [List.length_append, List.length_singleton]; rfl)⟩
        case measure => simp [intOf]; omega
    · obtain rfl : k = 20 := by omega
      go_wp2
      go_ret
      exact ⟨_, rfl, M.sub [0] (by decide)⟩

set_option maxRecDepth 100000 in
set_option maxHeartbeats 4000000 in
theorem lawsThat_any (p : Nat → Bool) (f : Nat) (fa cp : Array Value) (w : World) (hen : ∀ (args : Array Value) (w : World), (callFunc f args).run Tryd.prog w = .ok (.enter f args) w)
    (hf : ∀ k, k < 20 → ∀ w1, Below w.heap.size w w1 → Calls Tryd.prog f (fa ++ #[.int .i64 (k : Int)] ++ cp) w1 fun e w' => e = .returned (.bool (p k)) ∧ Below w1.heap.size w1 w') :
    Calls Tryd.prog 23 #[.func (.func f) fa cp] w fun e w' => ∃ v, e = .returned v ∧ Mm no w w' [.row w.heap.size v (selTo p 20).length (i64s (selTo p 20)) 2 1] := by
  have M := Mm.start no w
  have HF := Hid2.mk hf
  clear hf
  go_enter Tryd.func23, Tryd.ntmps23
  go_wp2_with (first | ((with_reducible apply wpM_bsl' M 26 0 2 ([]) (#[])); rfl; rfl; rfl; exact bsl_i640; clear M; (try clear C); intro bo w9 h_bo M; have C := M.ruleAll; simp only [Go.Proofs.YtpmemoabkbmljaaDoor.ruleAll] at C))
  have M9 := M.asRow 0 rfl w.heap.size 0 1 h_bo rfl (Nat.zero_le _)
  simp only [List.set_cons_zero] at M9
  clear M; (try clear C)
  have M := M9
  clear M9
  have C := M.ruleAll; simp only [Go.Proofs.YtpmemoabkbmljaaDoor.ruleAll] at C
  go_loopw [6, 3, 4] (fun i v _ wr => ∃ (k : Nat) (v' : Value), k ≤ 20 ∧ i = .int .i64 (k : Int) ∧ v = v' ∧ Mm no w wr [.row w.heap.size v' (selTo p k).length (i64s (selTo p k)) 2 1]) (fun i _ _ _ => 20 - (intOf i).toNat)
  case atStart => exact ⟨0, _, by omega, rfl, rfl, M⟩
  case round =>
    obtain ⟨k, v, hk, rfl, rfl, M9⟩ := hrel
    obtain ⟨pp, cc, rfl⟩ := own_form (M9.row 0 rfl)
    clear M; (try clear C)
    have M := M9
    clear M9
    have C := M.ruleAll; simp only [Go.Proofs.YtpmemoabkbmljaaDoor.ruleAll] at C
    by_cases hlt : k < 20
    · have hlt' : (k : Int) < 20 := by omega
      have HF1 := Hid2.mk (fun w1 hb => HF.out k hlt w1 hb)
      have hsl := selTo_len p k
      have HNX := Hid2.mk (show selTo p (k + 1) = if p k = true then selTo p k ++ [(k : Int)] else selTo p k from rfl)
      generalize selTo p k = out at *
      generalize p k = b at HF1 HNX
      go_wp2
      refine (HF1.out _ M.below).mono ?_
      rintro e w5 ⟨rfl, hb⟩
      have M9 := M.later hb
      clear M; (try clear C)
      have M := M9
      clear M9 hb
      cases b with
      | false =>
        go_wp2
        go_roundw
        case rel => exact ⟨k + 1, _, by omega, by go_num, rfl, by rw [HNX.out]; exact M⟩
        case measure => simp [intOf]; omega
      | true =>
        go_wp2_with (first | ((with_reducible apply wpM_bsl' M 26 1 2 ([(0, .int .i64 (k : Int))]) (#[.int .i64 (k : Int)])); rfl; rfl; rfl; exact bsl_i641 _; clear M; (try clear C); intro bb w9 h_bb M; have C := M.ruleAll; simp only [Go.Proofs.YtpmemoabkbmljaaDoor.ruleAll] at C) | ((with_reducible apply wpM_app' M 26 1 0 (w.heap.size) (.slice pp out.length cc) (out.length) (i64s out) 2 1 8); rfl; rfl; rfl; rfl; rfl; rfl; rfl; (first | exact .inl (Nat.le_refl _) | exact .inl (by assumption) | exact .inr (by assumption) | exact .inr HDv.out); (first | exact M.size | (have hq := M.size; omega)); exact und_sl64; exact inf_el64; rfl; decide; decide; rfl; exact rfl; exact flat_i1 _; omega; clear M; (try clear C); intro v2 w9 far_v2 M; simp only [List.set_cons_zero, List.set_cons_succ, entBlk, entT, List.getElem?_cons_zero, List.getElem?_cons_succ] at M; obtain ⟨pp_v2, cap_v2, rfl⟩ := own_form (M.row 1 rfl); have C := M.ruleAll; simp only [Go.Proofs.YtpmemoabkbmljaaDoor.ruleAll] at C))
        go_roundw
        case rel => exact ⟨k + 1, _, by omega, by go_num, rfl, by rw [HNX.out, if_pos trivial]; exact (M.sub [1] (by decide)).eq (by rw [i64s_app]; simp only [List.length_append, List.length_singleton]; rfl)⟩
        case measure => simp [intOf]; omega
    · obtain rfl : k = 20 := by omega
      go_wp2
      go_ret
      exact ⟨_, rfl, M.sub [0] (by decide)⟩
end Go.Proofs.YtpmemoabkbmljaaDoor
