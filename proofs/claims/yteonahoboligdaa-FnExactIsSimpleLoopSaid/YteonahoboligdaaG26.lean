/- Lists in order, with one more: the reference's l06Ahead and l06Insert (as l05Before and l05Put): contracts. -/
import Derived.Test.YteonahoboligdaaG5
import Derived.Test.YteonahoboligdaaG21
import Derived.Test.YteonahoboligdaaG20
import Derived.Test.YteonahoboligdaaK22
namespace Go.Proofs.Yteonahoboligdaa
set_option linter.unusedSimpArgs false
set_option linter.unusedVariables false
open Go Go.RowKit

set_option maxRecDepth 100000 in
set_option maxHeartbeats 2000000 in
theorem l06Ahead_any (a b : List Nat) (ha : a.length ≤ 1000) (hb : b.length ≤ 1000) (w : World) (g1 c1 g2 c2 : Nat) (h1 : rds w g1 a.length (i64F a)) (h2 : rds w g2 b.length (i64F b)) :
    Calls Try.prog 83 #[.slice (some ⟨g1, 0, none⟩) a.length c1, .slice (some ⟨g2, 0, none⟩) b.length c2] w fun e w' => e = .returned (.bool (befL a b)) ∧ Below w.heap.size w w' := by
  have M := Mm.start no w
  have F1 := Hid2.mk (fun w1 (hb : Below w.heap.size w w1) => h1.lat hb)
  have F2 := Hid2.mk (fun w1 (hb : Below w.heap.size w w1) => h2.lat hb)
  clear h1 h2
  go_enter Try.func83, Try.ntmps83
  by_cases hl : a.length = b.length
  · have d1 : ((a.length : Int) == (b.length : Int)) = true := by rw [hl]; simp
    have d2 : ((a.length : Int) != (b.length : Int)) = false := by rw [bne, d1]; rfl
    have HB := Hid2.mk (show befL a b = decide (lexC a b < 0) by unfold befL; rw [if_pos hl])
    go_wp2
    clear d1 d2
    go_loopw [5] (fun i wr => ∃ k : Nat, k ≤ a.length ∧ i = .int .i64 (k : Int) ∧ Hid2 (∀ j, j < k → a[j]? = b[j]?) ∧ Mm no w wr []) (fun i _ => a.length - (intOf i).toNat)
    case atStart => exact ⟨0, by omega, rfl, ⟨fun j h => by omega⟩, M⟩
    case round =>
      obtain ⟨k, hk, rfl, HP, M9⟩ := hrel
      clear M
      have M := M9
      clear M9
      by_cases hlt : k < a.length
      · have hlt' : (k : Int) < (a.length : Int) := by omega
        have e1 := List.getElem?_eq_getElem hlt
        have e2 := List.getElem?_eq_getElem (l := b) (show k < b.length by omega)
        generalize a[k] = x at e1
        generalize b[k]'(by omega) = y at e2
        have C1 := Hid2.mk (fun w1 (hb : Below w.heap.size w w1) => show w1.cell? ⟨g1, k, none⟩ = some (.int .i64 (x : Int)) from by rw [(F1.out w1 hb).at_ k hlt, i64F_at e1])
        have C2 := Hid2.mk (fun w1 (hb : Below w.heap.size w w1) => show w1.cell? ⟨g2, k, none⟩ = some (.int .i64 (y : Int)) from by rw [(F2.out w1 hb).at_ k (by omega), i64F_at e2])
        have hkb : (k : Int) < (b.length : Int) := by omega
        by_cases hxy : x = y
        · have HN := Hid2.mk (pref_next HP.out (by rw [e1, e2, hxy]))
          subst hxy
          have hd : ((x : Int) == (x : Int)) = true := by simp
          have hd' : ((x : Int) != (x : Int)) = false := by simp
          clear e1 e2 HP
          go_wp2
          apply wp_region_mm M 8 (by kernel_rfl) (by kernel_rfl)
          · simp only [List.take_succ_cons, List.take_zero]
            repeat (first | exact wpText_nil | (apply wpText_cons; (intro w2 M; have hd1 := C1.out _ M.below; have hd2 := C2.out _ M.below; go_wp2; exact ⟨rfl, rfl, M⟩); rfl))
          clear M
          intro w2 M
          simp only [List.drop_succ_cons, List.drop_zero]
          go_wp2
          go_roundw
          case rel => exact ⟨k + 1, by omega, by go_num, HN, M⟩
          case measure => simp [intOf]; omega
        · have HN := Hid2.mk (show befL a b = decide (x < y) by
            rw [HB.out, lexC_at HP.out e1 e2 hxy]
            by_cases h : x < y
            · rw [if_pos h, decide_eq_true h]; rfl
            · rw [if_neg h, decide_eq_false h]; rfl)
          have hd : ((x : Int) == (y : Int)) = false := neqI hxy
          have hd' : ((x : Int) != (y : Int)) = true := by rw [bne, hd]; rfl
          clear e1 e2 HP
          go_wp2
          apply wp_region_mm M 8 (by kernel_rfl) (by kernel_rfl)
          · simp only [List.take_succ_cons, List.take_zero]
            repeat (first | exact wpText_nil | (apply wpText_cons; (intro w2 M; have hd1 := C1.out _ M.below; have hd2 := C2.out _ M.below; go_wp2; exact ⟨rfl, rfl, M⟩); rfl))
          clear M
          intro w2 M
          simp only [List.drop_succ_cons, List.drop_zero]
          go_wp2
          apply wp_region_mm M 8 (by kernel_rfl) (by kernel_rfl)
          · simp only [List.take_succ_cons, List.take_zero]
            repeat (first | exact wpText_nil | (apply wpText_cons; (intro w2 M; have hd1 := C1.out _ M.below; have hd2 := C2.out _ M.below; go_wp2; exact ⟨rfl, rfl, M⟩); rfl))
          clear M
          intro w3 M
          simp only [List.drop_succ_cons, List.drop_zero]
          go_wp2
          go_ret
          exact ⟨by rw [HN.out]; rfl, M.below⟩
      · obtain rfl : k = a.length := by omega
        have hge : ¬ ((a.length : Int) < (a.length : Int)) := by omega
        have HN := Hid2.mk (show befL a b = false by rw [HB.out, pref_all hl HP.out, lexC_self]; rfl)
        go_wp2
        go_ret
        exact ⟨by rw [HN.out]; rfl, M.below⟩
  · have d1 : ((a.length : Int) == (b.length : Int)) = false := neqI hl
    have d2 : ((a.length : Int) != (b.length : Int)) = true := by rw [bne, d1]; rfl
    have HN := Hid2.mk (show befL a b = decide (a.length < b.length) by unfold befL; rw [if_neg hl])
    go_wp2
    go_ret
    exact ⟨by rw [HN.out]; rfl, M.below⟩

set_option maxRecDepth 100000 in
set_option maxHeartbeats 4000000 in
theorem l06Insert_any (L : List (List Nat)) (l : List Nat) (hL : L.length ≤ 2000) (hlen : ∀ x ∈ L, x.length ≤ 1000) (hl : l.length ≤ 1000) (w : World) (g cap : Nat) (hd : List Value) (hcap : L.length ≤ cap) (gl cl : Nat) (hlst : Lst w g hd L) (hrl : rds w gl l.length (i64F l)) :
    Calls Try.prog 63 #[.slice (some ⟨g, 0, none⟩) L.length cap, .slice (some ⟨gl, 0, none⟩) l.length cl] w (LstPost (putL L l) w) := by
  have M := Mm.start no w
  have HLST := Hid2.mk hlst
  have HRL := Hid2.mk (fun w1 (hb : Below w.heap.size w w1) => hrl.lat hb)
  have HLEN := Hid2.mk hlen
  clear hlst hrl hlen
  go_enter Try.func63, Try.ntmps63
  go_wp2
  go_loopw [5] (fun i wr => ∃ k : Nat, k ≤ L.length ∧ i = .int .i64 (k : Int) ∧ Hid2 (∀ j, j < k → befL (L.getD j []) l = true) ∧ Mm no w wr []) (fun i _ => L.length - (intOf i).toNat)
  case atStart => exact ⟨0, by omega, rfl, ⟨fun j h => by omega⟩, M⟩
  case round =>
    obtain ⟨k, hk, rfl, HB, M9⟩ := hrel
    clear M
    have M := M9
    clear M9
    by_cases hlt : k < L.length
    · have hlt' : (k : Int) < (L.length : Int) := by omega
      have e1 := List.getElem?_eq_getElem hlt
      have hx := HLEN.out _ (List.getElem_mem hlt)
      have hgd : L.getD k [] = L[k] := by rw [List.getD_eq_getElem?_getD, e1]; rfl
      generalize L[k] = x at e1 hx hgd
      obtain ⟨gi, ci, e2, -, hri⟩ := HLST.out.cell e1
      have HCE := Hid2.mk (fun w1 (hb : Below w.heap.size w w1) => show w1.cell? ⟨g, k, none⟩ = some (.slice (some ⟨gi, 0, none⟩) x.length ci) from by rw [(HLST.out.1.lat hb).at_ k hlt, List.getD_eq_getElem?_getD, e2]; rfl)
      have HRI := Hid2.mk (fun w1 (hb : Below w.heap.size w w1) => hri.lat hb)
      clear hri
      have HE1 := Hid2.mk e1
      clear e1 e2
      have hd1 := HCE.out _ M.below
      go_wp2_with (first | (go_at_call 83; fail))
      refine (l06Ahead_any x l hx hl _ gi ci gl cl (HRI.out _ M.below) (HRL.out _ M.below)).mono ?_
      rintro e w1 ⟨rfl, hb⟩
      have M9 := M.later hb
      clear M hd1 hb
      have M := M9
      clear M9
      cases hbf : befL x l with
      | true =>
        have HN := Hid2.mk (show ∀ j, j < k + 1 → befL (L.getD j []) l = true from fun j hj => if e : j = k then by rw [e, hgd]; exact hbf else HB.out j (by omega))
        clear hbf hgd HB
        go_wp2
        go_roundw
        case rel => exact ⟨k + 1, by omega, by go_num, HN, M⟩
        case measure => simp [intOf]; omega
      | false =>
        have HP0 := putL_at hk HB.out (fun y hy => by rw [HE1.out] at hy; cases hy; exact hbf)
        rw [HE1.out] at HP0
        have HP0' := Hid2.mk HP0
        clear hbf hgd HB HP0
        have hd1 := HCE.out _ M.below
        go_wp2_with (first | (go_at_call 84; fail))
        refine (l01Same2_any x l hx hl _ gi ci gl cl (HRI.out _ M.below) (HRL.out _ M.below)).mono ?_
        rintro e w2 ⟨rfl, hb⟩
        have M9 := M.later hb
        clear M hd1 hb
        have M := M9
        clear M9
        by_cases hxl : x = l
        · have HP := Hid2.mk (HP0'.out.trans (if_pos (by rw [hxl])))
          have hdc : decide (x = l) = true := decide_eq_true hxl
          clear HP0'
          go_wp2
          go_ret
          rw [HP.out]
          exact LstPost.mk rfl hcap (HLST.out.lat M.below) M.below
        · have HP := Hid2.mk (HP0'.out.trans (if_neg (fun e => hxl (Option.some.inj e))))
          have hdc : decide (x = l) = false := decide_eq_false hxl
          clear HP0'
          have hsl1 := fun w1 => sl_lo g L.length cap k hk hcap w1
          have hsl2 := fun w1 => sl_hi g L.length cap k (by omega) w1
          have hnw := HLST.out.news (k := k) (ad := adr g k cap) (by unfold adr; by_cases h : cap = k; exact .inl (by omega); exact .inr (if_neg h))
          have HNW := Hid2.mk (fun w1 (hb : Below w.heap.size w w1) => (HLST.out.lat hb).news (k := k) (ad := adr g k cap) (by unfold adr; by_cases h : cap = k; exact .inl (by omega); exact .inr (if_neg h)))
          have HNT := Hid2.mk (fun w1 (hb : Below w.heap.size w w1) => (HLST.out.lat hb).newsT k)
          have hon1 : ∀ u ∈ hd.drop k, u.oneCell' = true := fun u hu => HLST.out.one u (List.mem_of_mem_drop hu)
          have hon2 : ∀ u ∈ hd.take k, u.oneCell' = true := fun u hu => HLST.out.one u (List.mem_of_mem_take hu)
          have hld : (hd.drop k).length = (L.length - k) := by rw [List.length_drop, HLST.out.2.1]
          have hlt2 : (hd.take k).length = k := by rw [List.length_take, HLST.out.2.1]; omega
          have HON1 := Hid2.mk hon1
          have HON2 := Hid2.mk hon2
          have HLD := Hid2.mk hld
          have HLT := Hid2.mk hlt2
          generalize hadr : adr g k cap = ad at *
          clear hadr hnw hon1 hon2 hld hlt2
          generalize hdr1 : hd.drop k = hD at *
          generalize hdr2 : hd.take k = hT at *
          have HD1 := Hid2.mk hdr1
          have HD2 := Hid2.mk hdr2
          clear hdr1 hdr2
          go_wp2_with (first | (((with_reducible apply wpM_bsl' M 39 1 33 ([(0, .slice (some ⟨gl, 0, none⟩) l.length cl)]) (#[.slice (some ⟨gl, 0, none⟩) l.length cl])); rfl; rfl; rfl; exact bsl_h1 _ _ _; clear M; (try clear C); intro b1 w9 h_b1 M; have C := M.ruleAll; simp only [Go.Proofs.Yteonahoboligdaa.ruleAll] at C); have M9 := M.asRow 0 rfl w.heap.size 1 1 h_b1 rfl (by decide); simp only [List.set_cons_zero] at M9; clear M; (try clear C); have M := M9; clear M9; have C := M.ruleAll; simp only [Go.Proofs.Yteonahoboligdaa.ruleAll] at C) | (((with_reducible apply wpM_bsl' M 39 0 33 ([]) (#[])); rfl; rfl; rfl; exact bsl_h0; clear M; (try clear C); intro b2 w9 h_b2 M; have C := M.ruleAll; simp only [Go.Proofs.Yteonahoboligdaa.ruleAll] at C); have M9 := M.asRow 0 rfl w.heap.size 0 1 h_b2 rfl (Nat.zero_le _); simp only [List.set_cons_zero] at M9; clear M; (try clear C); have M := M9; clear M9; have C := M.ruleAll; simp only [Go.Proofs.Yteonahoboligdaa.ruleAll] at C) | (((with_reducible apply wpM_appx M 39 0 (w.heap.size) (.slice (some ⟨b1, 0, none⟩) 1 1) (1) ([.slice (some ⟨gl, 0, none⟩) l.length cl]) 33 24 (ad) ((L.length - k)) (cap - k) (hD)); rfl; rfl; rfl; rfl; rfl; (first | exact .inl (Nat.le_refl _) | exact .inl (by assumption) | exact .inr (by assumption)); (first | exact M.size | (have hq := M.size; omega)); exact HLD.out; exact HNW.out _ M.below; exact HON1.out; exact und_slh; exact inf_elh; rfl; (simp only [maxLen]; omega); omega; clear M; (try clear C); intro vr w9 far_vr M; simp only [List.set_cons_zero, List.set_cons_succ, entBlk, entT, List.getElem?_cons_zero, List.getElem?_cons_succ] at M; obtain ⟨pp_vr, cap_vr, rfl⟩ := own_form (M.row 0 rfl); have C := M.ruleAll; simp only [Go.Proofs.Yteonahoboligdaa.ruleAll] at C); obtain ⟨g3, cap3, e3, M8⟩ := M.rowRd 0 rfl (by omega) (fun j => ([Value.slice (some ⟨gl, 0, none⟩) l.length cl] ++ hD).getD j undef) (fun j hj => rfl); cases e3; simp only [List.set_cons_zero] at M8; clear M; (try clear C); have M := M8; clear M8; have C := M.ruleAll; simp only [Go.Proofs.Yteonahoboligdaa.ruleAll] at C) | (((with_reducible apply wpM_appx M 39 0 (w.heap.size) (.slice (some ⟨b2, 0, none⟩) 0 0) (0) ([]) 33 24 (⟨g, 0, none⟩) (k) (cap) (hT)); rfl; rfl; rfl; rfl; rfl; (first | exact .inl (Nat.le_refl _) | exact .inl (by assumption) | exact .inr (by assumption)); (first | exact M.size | (have hq := M.size; omega)); exact HLT.out; exact HNT.out _ M.below; exact HON2.out; exact und_slh; exact inf_elh; rfl; (simp only [maxLen]; omega); omega; clear M; (try clear C); intro v2 w9 far_v2 M; simp only [List.set_cons_zero, List.set_cons_succ, entBlk, entT, List.getElem?_cons_zero, List.getElem?_cons_succ] at M; obtain ⟨pp_v2, cap_v2, rfl⟩ := own_form (M.row 0 rfl); have C := M.ruleAll; simp only [Go.Proofs.Yteonahoboligdaa.ruleAll] at C); simp only [Nat.zero_add] at M; have C := M.ruleAll; simp only [Go.Proofs.Yteonahoboligdaa.ruleAll] at C) | ((with_reducible apply wpM_appx M 39 0 (w.heap.size) (.slice pp_v2 k cap_v2) (k) ([] ++ hT) 33 24 (⟨g3, 0, none⟩) (1 + (L.length - k)) (_) ([Value.slice (some ⟨gl, 0, none⟩) l.length cl] ++ hD)); rfl; rfl; rfl; rfl; rfl; (first | exact .inl (Nat.le_refl _) | exact .inl (by assumption) | exact .inr (by assumption)); (first | exact M.size | (have hq := M.size; omega)); exact (by rw [List.length_append, HLD.out]; rfl); exact (news_rd (M.rd 1 rfl) (by rw [List.length_append, HLD.out]; rfl)); exact (one_app HON1.out); exact und_slh; exact inf_elh; rfl; (simp only [maxLen]; omega); omega; clear M; (try clear C); intro v3 w9 far_v3 M; simp only [List.set_cons_zero, List.set_cons_succ, entBlk, entT, List.getElem?_cons_zero, List.getElem?_cons_succ] at M; obtain ⟨pp_v3, cap_v3, rfl⟩ := own_form (M.row 0 rfl); have C := M.ruleAll; simp only [Go.Proofs.Yteonahoboligdaa.ruleAll] at C))
          have hrow := M.row 0 rfl
          go_ret
          obtain ⟨g', cap', e', _, _, hr'⟩ := own_rds hrow (by omega)
          cases e'
          have hN : k + (1 + (L.length - k)) = (L.take k ++ l :: L.drop k).length := by simp only [List.length_append, List.length_cons, List.length_take, List.length_drop]; omega
          have hcp := (own_cap hrow).1
          rw [HP.out]
          refine LstPost.mk (hd := hd.take k ++ .slice (some ⟨gl, 0, none⟩) l.length cl :: hd.drop k) (by rw [← hN]; rfl) (by rw [← hN]; exact hcp) ⟨?_, ?_⟩ M.below
          · rw [show (L.take k ++ l :: L.drop k).length = (k + (1 + (L.length - k))) * 1 by rw [← hN, Nat.mul_one], HD1.out, HD2.out]
            exact hr'
          · exact (HLST.out.lat M.below).2.ins ⟨gl, cl, rfl, HRL.out _ M.below⟩ k
    · obtain rfl : k = L.length := by omega
      have HP0 := putL_at hk HB.out (fun y hy => by rw [List.getElem?_eq_none (Nat.le_refl _)] at hy; cases hy)
      have HP := Hid2.mk (HP0.trans (if_neg (fun e => by rw [List.getElem?_eq_none (Nat.le_refl _)] at e; cases e)))
      clear HP0 HB
      have hge : ¬ ((L.length : Int) < (L.length : Int)) := by omega
      have hsl1 := fun w1 => sl_lo g L.length cap L.length (Nat.le_refl _) hcap w1
      have hsl2 := fun w1 => sl_hi g L.length cap L.length (by omega) w1
      have hnw := HLST.out.news (k := L.length) (ad := adr g L.length cap) (by unfold adr; by_cases h : cap = L.length; exact .inl (by omega); exact .inr (if_neg h))
      have HNW := Hid2.mk (fun w1 (hb : Below w.heap.size w w1) => (HLST.out.lat hb).news (k := L.length) (ad := adr g L.length cap) (by unfold adr; by_cases h : cap = L.length; exact .inl (by omega); exact .inr (if_neg h)))
      have HNT := Hid2.mk (fun w1 (hb : Below w.heap.size w w1) => (HLST.out.lat hb).newsT L.length)
      have hon1 : ∀ u ∈ hd.drop L.length, u.oneCell' = true := fun u hu => HLST.out.one u (List.mem_of_mem_drop hu)
      have hon2 : ∀ u ∈ hd.take L.length, u.oneCell' = true := fun u hu => HLST.out.one u (List.mem_of_mem_take hu)
      have hld : (hd.drop L.length).length = 0 := by rw [List.length_drop, HLST.out.2.1]; omega
      have hlt2 : (hd.take L.length).length = L.length := by rw [List.length_take, HLST.out.2.1]; omega
      have HON1 := Hid2.mk hon1
      have HON2 := Hid2.mk hon2
      have HLD := Hid2.mk hld
      have HLT := Hid2.mk hlt2
      generalize hadr : adr g L.length cap = ad at *
      clear hadr hnw hon1 hon2 hld hlt2
      generalize hdr1 : hd.drop L.length = hD at *
      generalize hdr2 : hd.take L.length = hT at *
      have HD1 := Hid2.mk hdr1
      have HD2 := Hid2.mk hdr2
      clear hdr1 hdr2
      go_wp2_with (first | (((with_reducible apply wpM_bsl' M 39 1 33 ([(0, .slice (some ⟨gl, 0, none⟩) l.length cl)]) (#[.slice (some ⟨gl, 0, none⟩) l.length cl])); rfl; rfl; rfl; exact bsl_h1 _ _ _; clear M; (try clear C); intro b1 w9 h_b1 M; have C := M.ruleAll; simp only [Go.Proofs.Yteonahoboligdaa.ruleAll] at C); have M9 := M.asRow 0 rfl w.heap.size 1 1 h_b1 rfl (by decide); simp only [List.set_cons_zero] at M9; clear M; (try clear C); have M := M9; clear M9; have C := M.ruleAll; simp only [Go.Proofs.Yteonahoboligdaa.ruleAll] at C) | (((with_reducible apply wpM_bsl' M 39 0 33 ([]) (#[])); rfl; rfl; rfl; exact bsl_h0; clear M; (try clear C); intro b2 w9 h_b2 M; have C := M.ruleAll; simp only [Go.Proofs.Yteonahoboligdaa.ruleAll] at C); have M9 := M.asRow 0 rfl w.heap.size 0 1 h_b2 rfl (Nat.zero_le _); simp only [List.set_cons_zero] at M9; clear M; (try clear C); have M := M9; clear M9; have C := M.ruleAll; simp only [Go.Proofs.Yteonahoboligdaa.ruleAll] at C) | (((with_reducible apply wpM_appx M 39 0 (w.heap.size) (.slice (some ⟨b1, 0, none⟩) 1 1) (1) ([.slice (some ⟨gl, 0, none⟩) l.length cl]) 33 24 (ad) (0) (cap - L.length) (hD)); rfl; rfl; rfl; rfl; rfl; (first | exact .inl (Nat.le_refl _) | exact .inl (by assumption) | exact .inr (by assumption)); (first | exact M.size | (have hq := M.size; omega)); exact HLD.out; exact HNW.out _ M.below; exact HON1.out; exact und_slh; exact inf_elh; rfl; (simp only [maxLen]; omega); omega; clear M; (try clear C); intro vr w9 far_vr M; simp only [List.set_cons_zero, List.set_cons_succ, entBlk, entT, List.getElem?_cons_zero, List.getElem?_cons_succ] at M; obtain ⟨pp_vr, cap_vr, rfl⟩ := own_form (M.row 0 rfl); have C := M.ruleAll; simp only [Go.Proofs.Yteonahoboligdaa.ruleAll] at C); obtain ⟨g3, cap3, e3, M8⟩ := M.rowRd 0 rfl (by omega) (fun j => ([Value.slice (some ⟨gl, 0, none⟩) l.length cl] ++ hD).getD j undef) (fun j hj => rfl); cases e3; simp only [List.set_cons_zero] at M8; clear M; (try clear C); have M := M8; clear M8; have C := M.ruleAll; simp only [Go.Proofs.Yteonahoboligdaa.ruleAll] at C) | (((with_reducible apply wpM_appx M 39 0 (w.heap.size) (.slice (some ⟨b2, 0, none⟩) 0 0) (0) ([]) 33 24 (⟨g, 0, none⟩) (L.length) (cap) (hT)); rfl; rfl; rfl; rfl; rfl; (first | exact .inl (Nat.le_refl _) | exact .inl (by assumption) | exact .inr (by assumption)); (first | exact M.size | (have hq := M.size; omega)); exact HLT.out; exact HNT.out _ M.below; exact HON2.out; exact und_slh; exact inf_elh; rfl; (simp only [maxLen]; omega); omega; clear M; (try clear C); intro v2 w9 far_v2 M; simp only [List.set_cons_zero, List.set_cons_succ, entBlk, entT, List.getElem?_cons_zero, List.getElem?_cons_succ] at M; obtain ⟨pp_v2, cap_v2, rfl⟩ := own_form (M.row 0 rfl); have C := M.ruleAll; simp only [Go.Proofs.Yteonahoboligdaa.ruleAll] at C); simp only [Nat.zero_add] at M; have C := M.ruleAll; simp only [Go.Proofs.Yteonahoboligdaa.ruleAll] at C) | ((with_reducible apply wpM_appx M 39 0 (w.heap.size) (.slice pp_v2 L.length cap_v2) (L.length) ([] ++ hT) 33 24 (⟨g3, 0, none⟩) (1 + 0) (_) ([Value.slice (some ⟨gl, 0, none⟩) l.length cl] ++ hD)); rfl; rfl; rfl; rfl; rfl; (first | exact .inl (Nat.le_refl _) | exact .inl (by assumption) | exact .inr (by assumption)); (first | exact M.size | (have hq := M.size; omega)); exact (by rw [List.length_append, HLD.out]; rfl); exact (news_rd (M.rd 1 rfl) (by rw [List.length_append, HLD.out]; rfl)); exact (one_app HON1.out); exact und_slh; exact inf_elh; rfl; (simp only [maxLen]; omega); omega; clear M; (try clear C); intro v3 w9 far_v3 M; simp only [List.set_cons_zero, List.set_cons_succ, entBlk, entT, List.getElem?_cons_zero, List.getElem?_cons_succ] at M; obtain ⟨pp_v3, cap_v3, rfl⟩ := own_form (M.row 0 rfl); have C := M.ruleAll; simp only [Go.Proofs.Yteonahoboligdaa.ruleAll] at C))
      have hrow := M.row 0 rfl
      go_ret
      obtain ⟨g', cap', e', _, _, hr'⟩ := own_rds hrow (by omega)
      cases e'
      have hN : L.length + (1 + 0) = (L.take L.length ++ l :: L.drop L.length).length := by simp only [List.length_append, List.length_cons, List.length_take, List.length_drop]; omega
      have hcp := (own_cap hrow).1
      rw [HP.out]
      refine LstPost.mk (hd := hd.take L.length ++ .slice (some ⟨gl, 0, none⟩) l.length cl :: hd.drop L.length) (by rw [← hN]; rfl) (by rw [← hN]; exact hcp) ⟨?_, ?_⟩ M.below
      · rw [show (L.take L.length ++ l :: L.drop L.length).length = (L.length + (1 + 0)) * 1 by rw [← hN, Nat.mul_one], HD1.out, HD2.out]
        exact hr'
      · exact (HLST.out.lat M.below).2.ins ⟨gl, cl, rfl, HRL.out _ M.below⟩ L.length
end Go.Proofs.Yteonahoboligdaa

/- The search of the reference for all normal subloops, plain; a list is copied: a contract. -/
namespace Go.Proofs.Yteonahoboligdaa
set_option linter.unusedSimpArgs false
set_option linter.unusedVariables false
open Go Go.RowKit

def NorL (n : Nat) (t : Nat → Nat → Nat) (m : Nat) : Prop := m < 1024 ∧ NrmM n t m ∧ ∀ i, m.testBit i = true → i < n
structure FoundN (n : Nat) (t : Nat → Nat → Nat) (k : Nat) (L : List (List Nat)) : Prop where
  srt : Srt L
  sub : ∀ x ∈ L, ∃ m, NorL n t m ∧ x = mL m
  one : mL (norM n t 0) ∈ L
  all : ∀ j m, j < k → L[j]? = some (mL m) → m < 1024 → ∀ x, x < n → mL (norM n t (m ||| 2 ^ x)) ∈ L
theorem putL_same {L : List (List Nat)} {l : List Nat} (h : Srt L) (hl : l ∈ L) : putL L l = L := srt_eq (putL_srt h) h fun x => by
  rw [putL_mem]
  exact ⟨fun h2 => h2.elim id fun e => e ▸ hl, .inl⟩
theorem or_same {m x : Nat} (h : m.testBit x = true) : m ||| 2 ^ x = m := mask_ext fun i => by
  rw [Nat.testBit_or, Bool.or_eq_true, Nat.testBit_two_pow, decide_eq_true_eq]
  exact ⟨fun h2 => h2.elim id fun e => e ▸ h, .inl⟩
section
variable {n : Nat} {t : Nat → Nat → Nat} {k : Nat} {L : List (List Nat)}
theorem norM_norL (hl : Loo n t) {m : Nat} (hm : ∀ i, m.testBit i = true → i < n) : NorL n t (norM n t m) := ⟨norM_lt n t m, norM_nrm hl hm, fun i hi => norM_n hl hm hi⟩
/-- 0 alone is normal. -/
theorem norM_zero (hl : Loo n t) : mL (norM n t 0) = [0] := by
  have h0 := hl.pos
  have hz := zero_bits n
  have h00 : t 0 0 = 0 := hl.zl 0 h0
  have hS : Nrm n t (· = 0) := by
    refine ⟨⟨rfl, fun b x y hb hx hy => ?_⟩, fun x z hx hz h => ?_, fun x y z hx hy hz h => ?_, fun x y z hx hy hz h => ?_⟩
    · subst hx; subst hy
      show apB t b 0 0 = 0
      unfold apB
      split
      · exact h00
      · split
        · obtain ⟨hu, e⟩ := hl.rq h0 h0
          exact hl.right h0 hu h0 (e.trans h00.symm)
        · obtain ⟨hu, e⟩ := hl.lq h0 h0
          exact hl.left h0 hu h0 (e.trans h00.symm)
    · have h' : z = 0 := h
      subst h'
      obtain ⟨hu, e⟩ := tmI_is hl hx h0
      exact hl.right hx hu h0 (by rw [e, hl.zr x hx, hl.zl x hx])
    · have h' : z = 0 := h
      subst h'
      obtain ⟨hu, e⟩ := lmI_is hl hx hy h0
      exact hl.left (hl.lt hy hx) hu h0 (by rw [e, hl.zr x hx, hl.zr _ (hl.lt hy hx)])
    · have h' : z = 0 := h
      subst h'
      obtain ⟨hu, e⟩ := rmI_is hl hx hy h0
      exact hl.right (hl.lt hx hy) hu h0 (by rw [e, hl.zl x hx, hl.zl _ (hl.lt hx hy)])
  have hb : ∀ i, (norM n t 0).testBit i = true ↔ i = 0 := fun i =>
    ⟨fun h => (norM_bit hl hz i).1 h _ hS fun j hj => by simp at hj, fun h => h ▸ (norM_nrm hl hz).clo.zero⟩
  have e : norM n t 0 = 1 := mask_ext fun i => by
    rw [hb, show (1 : Nat) = 2 ^ 0 from rfl, Nat.testBit_two_pow, decide_eq_true_eq]
    exact ⟨fun h => h.symm, fun h => h.symm⟩
  rw [e]; decide
theorem FoundN.start (hl : Loo n t) : FoundN n t 0 [[0]] := by
  rw [← norM_zero hl]
  exact ⟨by simp [Srt], fun x hx => ⟨norM n t 0, norM_norL hl (zero_bits n), List.mem_singleton.1 hx⟩, List.mem_singleton.2 rfl, fun j m h => by omega⟩
/-- What has been found of the elements below x behind the k-th set. -/
structure FindsN (n : Nat) (t : Nat → Nat → Nat) (k m x : Nat) (L : List (List Nat)) : Prop where
  found : FoundN n t k L
  own : L[k]? = some (mL m)
  here : ∀ y, y < x → y < n → mL (norM n t (m ||| 2 ^ y)) ∈ L
theorem FindsN.start (hl : Loo n t) (F : FoundN n t k L) {m : Nat} (hm : NorL n t m) (h : L[k]? = some (mL m)) : FindsN n t k m 1 L := ⟨F, h, fun y hy _ => by
  obtain rfl : y = 0 := by omega
  rw [or_same hm.2.1.clo.zero, (norM_self hl hm.2.2).2 hm.2.1]
  exact List.mem_of_getElem? h⟩
theorem FindsN.put (hl : Loo n t) {m x : Nat} (hm : NorL n t m) (F : FindsN n t k m x L) (hx : x < n) : FindsN n t k m (x + 1) (putL L (mL (norM n t (m ||| 2 ^ x)))) := by
  by_cases h : m.testBit x = true
  · have e : mL (norM n t (m ||| 2 ^ x)) = mL m := by rw [or_same h, (norM_self hl hm.2.2).2 hm.2.1]
    rw [e, putL_same F.found.srt (List.mem_of_getElem? F.own)]
    refine ⟨F.found, F.own, fun y hy hn => ?_⟩
    by_cases e2 : y = x
    · subst e2; rw [e]; exact List.mem_of_getElem? F.own
    · exact F.here y (by omega) hn
  · have h : m.testBit x = false := by simpa using h
    have hb := more_bits hm.2.2 hx
    have hsub := norM_sub hl hb
    have hlt : (mL m).length < (mL (norM n t (m ||| 2 ^ x))).length := sub_len hm.1 (norM_lt _ _ _) ((SubM.or_left m _).trans hsub) fun e => by
      have h2 := hsub x (by rw [Nat.testBit_or, Nat.testBit_two_pow]; simp)
      rw [← e, h] at h2; cases h2
    have hkeep := putL_keep F.found.srt F.own (befL_len hlt)
    refine ⟨⟨putL_srt F.found.srt, fun y hy => ?_, putL_mem.2 (.inl F.found.one), fun j m2 hj hg hm2 y hy => ?_⟩, by rw [hkeep k (Nat.le_refl _)]; exact F.own, fun y hy hn => ?_⟩
    · rcases putL_mem.1 hy with h2 | rfl
      · exact F.found.sub y h2
      · exact ⟨_, norM_norL hl hb, rfl⟩
    · rw [hkeep j (by omega)] at hg
      exact putL_mem.2 (.inl (F.found.all j m2 hj hg hm2 y hy))
    · by_cases e : y = x
      · subst e; exact putL_mem.2 (.inr rfl)
      · exact putL_mem.2 (.inl (F.here y (by omega) hn))
theorem FindsN.next {m : Nat} (hm : m < 1024) (F : FindsN n t k m n L) : FoundN n t (k + 1) L :=
  ⟨F.found.srt, F.found.sub, F.found.one, fun j m2 hj hg hm2 y hy => by
    by_cases e : j = k
    · subst e
      have e2 := F.own
      rw [hg] at e2
      have := mL_inj hm2 hm (Option.some.inj e2)
      subst this
      exact F.here y hy hy
    · exact F.found.all j m2 (by omega) hg hm2 y hy⟩
theorem FoundN.done (hl : Loo n t) (F : FoundN n t L.length L) {T : Nat} (hT : NorL n t T) : mL T ∈ L := by
  have key : ∀ d m, NorL n t m → SubM m T → mL m ∈ L → (mL T).length - (mL m).length ≤ d → mL T ∈ L := fun d => by
    induction d with
    | zero =>
      intro m hm hsub hin hd
      by_cases e : m = T
      · subst e; exact hin
      · have := sub_len hm.1 hT.1 hsub e; omega
    | succ d ih =>
      intro m hm hsub hin hd
      by_cases e : m = T
      · subst e; exact hin
      · have hx : ∃ x, T.testBit x = true ∧ m.testBit x = false := by
          apply Classical.byContradiction
          intro hno
          refine e (SubM.anti hsub fun i hi => ?_)
          cases hmi : m.testBit i with
          | true => rfl
          | false => exact absurd ⟨i, hi, hmi⟩ hno
        obtain ⟨x, hxT, hxm⟩ := hx
        have hxn := hT.2.2 x hxT
        obtain ⟨j, hj⟩ := List.getElem?_of_mem hin
        have hjl := (List.getElem?_eq_some_iff.1 hj).1
        have hb := more_bits hm.2.2 hxn
        have hin2 := F.all j m hjl hj hm.1 x hxn
        have hsub2 : SubM (m ||| 2 ^ x) T := fun i hi => by
          rw [Nat.testBit_or, Bool.or_eq_true, Nat.testBit_two_pow, decide_eq_true_eq] at hi
          rcases hi with h | rfl
          · exact hsub i h
          · exact hxT
        have hg := norM_least hl hb hT.2.1 hsub2
        have h2 := norM_sub hl hb
        have hlt : (mL m).length < (mL (norM n t (m ||| 2 ^ x))).length := sub_len hm.1 (norM_lt _ _ _) ((SubM.or_left m _).trans h2) fun e => by
          have h3 := h2 x (by rw [Nat.testBit_or, Nat.testBit_two_pow]; simp)
          rw [← e, hxm] at h3; cases h3
        exact ih _ (norM_norL hl hb) hg hin2 (by omega)
  exact key _ _ (norM_norL hl (zero_bits n)) (norM_least hl (zero_bits n) hT.2.1 fun i hi => by simp at hi) F.one (Nat.le_refl _)
theorem FoundN.len (F : FoundN n t k L) : L.length ≤ 1024 := by
  have h1 : (L.map lM).Pairwise (· ≠ ·) := by
    refine List.pairwise_map.2 (List.Pairwise.imp_of_mem (fun {a b} ha hb h e => ?_) F.srt)
    obtain ⟨m, hm, rfl⟩ := F.sub a ha
    obtain ⟨m', hm', rfl⟩ := F.sub b hb
    rw [lM_mL hm.1, lM_mL hm'.1] at e
    subst e
    rw [befL_irr] at h; cases h
  have h2 := len_le (N := 1024) h1 fun x hx => by
    obtain ⟨a, ha, rfl⟩ := List.mem_map.1 hx
    obtain ⟨m, hm, rfl⟩ := F.sub a ha
    rw [lM_mL hm.1]; exact hm.1
  rw [List.length_map] at h2
  exact Nat.le_trans h2 (cn_le _ _)
theorem FoundN.lens (F : FoundN n t k L) : ∀ x ∈ L, x.length ≤ 1000 := fun x hx => by
  obtain ⟨m, _, rfl⟩ := F.sub x hx
  exact Nat.le_trans (mL_le m) (by decide)
/-- What has been found is the list of all normal subloops. -/
theorem foundN_eq (hl : Loo n t) (F : FoundN n t L.length L) : L = anN n t := srt_eq F.srt (anN_srt n t) fun x => by
  rw [anN_mem]
  constructor
  · intro hx
    obtain ⟨m, hm, rfl⟩ := F.sub x hx
    exact ⟨m, ⟨hm.1, hm.2.1.clo, hm.2.2⟩, (norM_self hl hm.2.2).2 hm.2.1, rfl⟩
  · rintro ⟨m, hm, hn, rfl⟩
    exact F.done hl ⟨hm.1, (norM_self hl hm.2.2).1 hn, hm.2.2⟩
end

set_option maxRecDepth 100000 in
set_option maxHeartbeats 1000000 in
theorem l01Own_any (l : List Nat) (hlen : l.length ≤ 1000) (w : World) (g cap : Nat) (hr : rds w g l.length (i64F l)) :
    Calls Try.prog 65 #[.slice (some ⟨g, 0, none⟩) l.length cap] w fun e w' => ∃ v, e = .returned v ∧ Mm no w w' [.row w.heap.size v l.length (i64N l) 2 1] := by
  have M := Mm.start no w
  have HR := Hid2.mk (fun w1 (hb : Below w.heap.size w w1) => hr.later hb)
  have HN : Hid2 (∀ w1, Below w.heap.size w w1 → ∀ j u, (i64N l)[j]? = some u → w1.cell? ((⟨g, 0, none⟩ : Addr).add j) = some u) := ⟨fun w1 hb j u hu => by
    have hj : j < l.length := by have := (List.getElem?_eq_some_iff.1 hu).1; rwa [i64N_len] at this
    rw [add_none, Nat.zero_add, (HR.out w1 hb).at_ j hj, ← i64N_at hj, List.getD_eq_getElem?_getD, hu]; rfl⟩
  have H1 := Hid2.mk (show ∀ u ∈ i64N l, u.oneCell' = true from fun u hu => by
    unfold i64N at hu
    obtain ⟨x, _, rfl⟩ := List.mem_map.1 hu
    rfl)
  have HLN := Hid2.mk (i64N_len l)
  clear hr
  generalize i64N l = cs at *
  go_enter Try.func65, Try.ntmps65
  go_wp2_with (first | (((with_reducible apply wpM_bsl' M 33 0 2 ([]) (#[])); rfl; rfl; rfl; exact bsl_n0; clear M; (try clear C); intro bo w9 h_bo M; have C := M.ruleAll; simp only [Go.Proofs.Yteonahoboligdaa.ruleAll] at C); have M9 := M.asRow 0 rfl w.heap.size 0 1 h_bo rfl (Nat.zero_le _); simp only [List.set_cons_zero] at M9; clear M; (try clear C); have M := M9; clear M9; have C := M.ruleAll; simp only [Go.Proofs.Yteonahoboligdaa.ruleAll] at C) | ((with_reducible apply wpM_appx M 33 0 (w.heap.size) (.slice (some ⟨bo, 0, none⟩) 0 0) (0) ([]) 2 8 (⟨g, 0, none⟩) (l.length) (cap) (cs)); rfl; rfl; rfl; rfl; rfl; (first | exact .inl (Nat.le_refl _) | exact .inl (by assumption) | exact .inr (by assumption)); (first | exact M.size | (have hq := M.size; omega)); exact HLN.out; exact HN.out _ M.below; exact H1.out; exact und_sln; exact inf_eln; rfl; (simp only [maxLen]; omega); omega; clear M; (try clear C); intro v2 w9 far_v2 M; simp only [List.set_cons_zero, List.set_cons_succ, entBlk, entT, List.getElem?_cons_zero, List.getElem?_cons_succ] at M; obtain ⟨pp_v2, cap_v2, rfl⟩ := own_form (M.row 0 rfl); have C := M.ruleAll; simp only [Go.Proofs.Yteonahoboligdaa.ruleAll] at C))
  go_ret
  exact ⟨_, rfl, M.eq (by rw [Nat.zero_add]; rfl)⟩
end Go.Proofs.Yteonahoboligdaa

/- The normal subloops of the reference: contracts. -/
namespace Go.Proofs.Yteonahoboligdaa
set_option linter.unusedSimpArgs false
set_option linter.unusedVariables false
open Go Go.RowKit

theorem GrS.not_yet {n : Nat} {post : Nat → (Nat → Bool) → (Nat → Value) → List Ent → Prop} {R : Nat → List Nat} {w0 w : World} {L : List Ent} {D : Nat → Bool} {g : Nat → Value} (S : GrS n post R w0 L D g w) {i k : Nat} (h0 : D i = false) (h : i ∈ R k) (hne : k ≠ i) : updD D i k = false := by
  rw [updD_ne hne]
  cases e : D k with
  | false => rfl
  | true => have := S.anc k e i h; rw [h0] at this; cases this
theorem Mm.weakRow {D : Nat → Prop} {w0 w : World} {L : List Ent} {B1 B : Nat} {v1 : Value} {n1 : Nat} {xs1 : List Value} {e1 s1 : Nat} (M : Mm D w0 w (.row B1 v1 n1 xs1 e1 s1 :: L)) (h1 : B ≤ B1) : Mm D w0 w (.row B v1 n1 xs1 e1 s1 :: L) :=
  M.set 0 rfl (y := .row B v1 n1 xs1 e1 s1) (.refl no w) (fun _ h => h.elim) (fun _ _ h => h.elim) (ownsRow_weak (M.row 0 rfl) h1) fun k h => .inl h
theorem new_row1 {w w' : World} {B : Nat} {v : Value} {n : Nat} {xs : List Value} {e size : Nat} (M : Mm no w w' [.row w.heap.size v n xs e size]) : ∀ x ∈ [Ent.row B v n xs e size], ∀ b, x.place b → w.heap.size ≤ b := fun x hx b hb => by
  simp only [List.mem_singleton] at hx; subst hx
  exact place_row (M.row 0 rfl) b hb

def naR : Nat → List Nat
  | 0 => []
  | 1 => []
  | 2 => []
  | 3 => []
  | 4 => [2, 3]
  | 5 => [2, 3, 4]
  | 6 => [2, 3, 4, 5]
  | 7 => []
  | 8 => [7]
  | 9 => [2, 3, 4, 5, 6, 7, 8]
  | 10 => [1, 2, 3, 4, 5, 6, 7, 8, 9]
  | _ => []
def naP (n : Nat) (t : Nat → Nat → Nat) (gL nL cap gi ci k x bq : Nat) (l res : List Nat) (B0 : Nat) : Nat → (Nat → Bool) → (Nat → Value) → List Ent → Prop
  | 0, _, g, E => g 0 = .slice (some ⟨gL, 0, none⟩) nL cap ∧ E = []
  | 1, _, g, E => g 1 = .agg (sqs (n : Int) t) ∧ E = []
  | 2, _, g, E => g 2 = .slice (some ⟨gL, 0, none⟩) nL cap ∧ E = []
  | 3, _, g, E => g 3 = .int .i64 (k : Int) ∧ E = []
  | 4, _, g, E => g 4 = .pointer (some ⟨gL, k, none⟩) ∧ E = []
  | 5, _, g, E => g 5 = .slice (some ⟨gi, 0, none⟩) l.length ci ∧ E = []
  | 6, D, g, E => True ∧ E = [.row B0 (bif D 9 then g 9 else g 6) (bif D 9 then l.length + 1 else l.length) (bif D 9 then i64N l ++ [Value.int .i64 (x : Int)] else i64N l) 2 1]
  | 7, _, g, E => g 7 = .int .i64 (x : Int) ∧ E = []
  | 8, _, g, E => ∃ bi, g 8 = .slice (some ⟨bi, 0, none⟩) 1 1 ∧ E = [.box bi #[.int .i64 (x : Int)] 2]
  | 9, _, g, E => E = []
  | 10, _, g, E => ∃ gr cr, g 10 = .slice (some ⟨gr, 0, none⟩) res.length cr ∧ E = [.rd gr res.length (i64F res)]
  | _, _, _, _ => False
def naW (j : Nat) : List Nat := if j = 6 then [9] else []
theorem naS (n : Nat) (t : Nat → Nat → Nat) (gL nL cap gi ci k x bq : Nat) (l res : List Nat) (B0 : Nat) : Stable (naP n t gL nL cap gi ci k x bq l res B0) naR naW := fun i k D g u E hki hkR hkW h => by
  match i with
  | 0 =>
    have e0 : updG g k u 0 = g 0 := updG_ne (g := g) (u := u) (Ne.symm hki)
    simp only [naP, e0]; exact h
  | 1 =>
    have e1 : updG g k u 1 = g 1 := updG_ne (g := g) (u := u) (Ne.symm hki)
    simp only [naP, e1]; exact h
  | 2 =>
    have e2 : updG g k u 2 = g 2 := updG_ne (g := g) (u := u) (Ne.symm hki)
    simp only [naP, e2]; exact h
  | 3 =>
    have e3 : updG g k u 3 = g 3 := updG_ne (g := g) (u := u) (Ne.symm hki)
    simp only [naP, e3]; exact h
  | 4 =>
    have e4 : updG g k u 4 = g 4 := updG_ne (g := g) (u := u) (Ne.symm hki)
    simp only [naP, e4]; exact h
  | 5 =>
    have e5 : updG g k u 5 = g 5 := updG_ne (g := g) (u := u) (Ne.symm hki)
    simp only [naP, e5]; exact h
  | 6 =>
    have hkW0 : k ∉ ([9] : List Nat) := hkW
    simp only [List.mem_cons, List.not_mem_nil, or_false, not_or] at hkW0
    have e6 : updG g k u 6 = g 6 := updG_ne (g := g) (u := u) (Ne.symm hki)
    have e9 : updG g k u 9 = g 9 := updG_ne (by omega)
    have hkW' : k ∉ ([9] : List Nat) := hkW
    simp only [List.mem_cons, List.not_mem_nil, or_false, not_or] at hkW'
    have d9 : updD D k 9 = D 9 := updD_ne (by omega)
    simp only [naP, e6, e9, d9]; exact h
  | 7 =>
    have e7 : updG g k u 7 = g 7 := updG_ne (g := g) (u := u) (Ne.symm hki)
    simp only [naP, e7]; exact h
  | 8 =>
    have e8 : updG g k u 8 = g 8 := updG_ne (g := g) (u := u) (Ne.symm hki)
    simp only [naP, e8]; exact h
  | 9 =>
    simp only [naP, ]; exact h
  | 10 =>
    have e10 : updG g k u 10 = g 10 := updG_ne (g := g) (u := u) (Ne.symm hki)
    simp only [naP, e10]; exact h
  | n + 11 => exact h.elim

/-- What l06Insert has made. -/
def PInsP (K : List (List Nat)) (w0 : World) (L : List Ent) (u : Value) (w : World) : Prop := ∃ g cap hd, u = .slice (some ⟨g, 0, none⟩) K.length cap ∧ K.length ≤ cap ∧ Lst w g hd K ∧ Mm no w0 w L
theorem PInsP.mk {K : List (List Nat)} {w0 w : World} {L : List Ent} {g cap : Nat} {hd : List Value} (h1 : K.length ≤ cap) (h2 : Lst w g hd K) (h3 : Mm no w0 w L) : PInsP K w0 L (.slice (some ⟨g, 0, none⟩) K.length cap) w := ⟨g, cap, hd, rfl, h1, h2, h3⟩


def AllNPost (n : Nat) (t : Nat → Nat → Nat) (w0 : World) (e : Ending) (w' : World) : Prop := ∃ L, FoundN n t L.length L ∧ LstPost L w0 e w'
theorem AllNPost.mk {n : Nat} {t : Nat → Nat → Nat} {w0 w' : World} {e : Ending} {L : List (List Nat)} (h : FoundN n t L.length L) (h2 : LstPost L w0 e w') : AllNPost n t w0 e w' := ⟨L, h, h2⟩
set_option maxRecDepth 100000 in
set_option maxHeartbeats 8000000 in
theorem l06All_any (n : Nat) (t : Nat → Nat → Nat) (hl : Loo n t) (w : World) :
    Calls Try.prog 38 #[.agg (sqs (n : Int) t)] w (AllNPost n t w) := by
  have M := Mm.start no w
  have hs := hl.sq
  have hn : n ≤ 10 := by have := hs.hi; omega
  have h1n : 1 ≤ n := by have := hs.lo; omega
  have hn' : (n : Int) ≤ 10 := by omega
  have so := sqs_order (n : Int) t
  have HF0 := Hid2.mk (FoundN.start hl)
  have HPU := Hid2.mk (fun k L m x (hm : NorL n t m) (F : FindsN n t k m x L) (hx : x < n) => F.put hl hm hx)
  have HST := Hid2.mk (fun k L (F : FoundN n t k L) m (hm : NorL n t m) (h : L[k]? = some (mL m)) => FindsN.start hl F hm h)
  have HCL : Hid2 (∀ m (hm : NorL n t m) x (_ : x < n) w1 g2 c2, rds w1 g2 ((mL m).length + 1) (fun i => (i64N (mL m) ++ [Value.int .i64 (x : Int)]).getD i undef) → Calls Try.prog 64 #[.agg (sqs (n : Int) t), .slice (some ⟨g2, 0, none⟩) ((mL m).length + 1) c2] w1 (ClosPost (mL (norM n t (m ||| 2 ^ x))) w1)) := ⟨fun m hm x hx w1 g2 c2 hr => by
    have hle := mL_le m
    have h := l06Closure_any n t hl (m ||| 2 ^ x) (more_bits hm.2.2 hx) (mL m ++ [x]) (by rw [List.length_append, List.length_singleton]; omega) (fun i => by
      rw [Nat.testBit_or, Bool.or_eq_true, Nat.testBit_two_pow, decide_eq_true_eq, List.mem_append, List.mem_singleton, mL_mem hm.1]
      exact or_congr Iff.rfl ⟨fun h => h.symm, fun h => h.symm⟩) w1 g2 c2 (by
      rw [List.length_append, List.length_singleton]
      exact ⟨hr.lt, fun i hi => by rw [hr.at_ i hi, ← i64N_app, i64N_at (by rw [List.length_append, List.length_singleton]; exact hi)]⟩)
    rwa [List.length_append, List.length_singleton] at h⟩
  have HPOS : Hid2 (∀ m, (∀ i, m.testBit i = true → i < n) → 0 < (mL (norM n t m)).length) := ⟨fun m hm => List.length_pos_of_mem ((mL_mem (norM_lt n t m)).2 (norM_nrm hl hm).clo.zero)⟩
  clear hl hs
  go_enter Try.func38, Try.ntmps38
  go_wp2_with (first | ((with_reducible apply wpM_box' M 30 (sqs (n : Int) t)); rfl; exact ⟨rfl, rfl⟩; clear M; (try clear C); intro bq w9 h_bq M; have C := M.ruleAll; simp only [Go.Proofs.Yteonahoboligdaa.ruleAll] at C) | ((with_reducible apply wpM_bsl' M 33 1 2 ([(0, .int .i64 0)]) (#[.int .i64 0])); rfl; rfl; rfl; exact bsl_n1 0; clear M; (try clear C); intro b1 w9 h_b1 M; have C := M.ruleAll; simp only [Go.Proofs.Yteonahoboligdaa.ruleAll] at C) | ((with_reducible apply wpM_bsl' M 39 1 33 ([(0, .slice (some ⟨b1, 0, none⟩) 1 1)]) (#[.slice (some ⟨b1, 0, none⟩) 1 1])); rfl; rfl; rfl; exact bsl_h1 _ _ _; clear M; (try clear C); intro bo w9 h_bo M; have C := M.ruleAll; simp only [Go.Proofs.Yteonahoboligdaa.ruleAll] at C))
  have HL0 := Hid2.mk (Lst.single (l := [0]) (M.box 0 rfl) ⟨(M.box 1 rfl).lt, fun i hi => by
    obtain rfl : i = 0 := by simp at hi; omega
    exact (M.box 1 rfl).cell 0 _ rfl⟩)
  have M8 := M.sub [2] (by decide)
  clear M; (try clear C)
  go_loopw [3, 4, 5] (fun o a _ wr => ∃ (L : List (List Nat)) (gL cap k : Nat) (hd : List Value), o = .slice (some ⟨gL, 0, none⟩) L.length cap ∧ a = .int .i64 (k : Int) ∧ k ≤ L.length ∧ L.length ≤ cap ∧ Hid2 (FoundN n t k L) ∧ Hid2 (Lst wr gL hd L) ∧ Mm no w wr [.box bq (sqs (n : Int) t) 30]) (fun _ a _ _ => 1025 - (intOf a).toNat)
  case atStart => exact ⟨[[0]], _, _, 0, _, rfl, rfl, by omega, by decide, HF0, HL0, M8⟩
  case round =>
    clear M8 HL0 HF0
    obtain ⟨L, gL, cap, k, hd, rfl, rfl, hk, hcap, HF, HL, M9⟩ := hrel
    have hlen := HF.out.len
    have M := M9
    clear M9
    have C := M.ruleAll; simp only [Go.Proofs.Yteonahoboligdaa.ruleAll] at C
    by_cases hlt : k < L.length
    · have hlt' : (k : Int) < (L.length : Int) := by omega
      have e1 := List.getElem?_eq_getElem hlt
      obtain ⟨m, hsub, hx⟩ := HF.out.sub _ (List.getElem_mem hlt)
      rw [hx] at e1
      have HFI := Hid2.mk (HST.out k L HF.out m hsub e1)
      have HSUB := Hid2.mk hsub
      have hm := hsub.1
      have hlk := mL_le m
      clear hsub hx e1 HF
      go_wp2
      have M8 := M
      clear M; (try clear C)
      go_loopw [3, 5] (fun o x wr => ∃ (L : List (List Nat)) (gL cap j : Nat) (hd : List Value), o = .slice (some ⟨gL, 0, none⟩) L.length cap ∧ x = .int .i64 (j : Int) ∧ 1 ≤ j ∧ j ≤ n ∧ L.length ≤ cap ∧ Hid2 (FindsN n t k m j L) ∧ Hid2 (Lst wr gL hd L) ∧ Mm no w wr [.box bq (sqs (n : Int) t) 30]) (fun _ x _ => n - (intOf x).toNat)
      case atStart => exact ⟨L, gL, cap, 1, hd, rfl, rfl, by omega, by omega, hcap, HFI, HL, M8⟩
      case round =>
        clear M8 HL HFI hlt hlt' hk hcap hlen
        obtain ⟨L, gL, cap, j, hd, rfl, rfl, hj1, hj, hcap, HFI, HL, MW⟩ := hrel
        have hlen := HFI.out.found.len
        have HLEN := Hid2.mk HFI.out.found.lens
        have M := MW.anew
        have HMW := Hid2.mk MW
        clear MW
        have C := M.ruleAll; simp only [Go.Proofs.Yteonahoboligdaa.ruleAll] at C
        by_cases hjn : j < n
        · have hjn' : (j : Int) < (n : Int) := by omega
          have hkl := (List.getElem?_eq_some_iff.1 HFI.out.own).1
          have hkl' : (k : Int) < (L.length : Int) := by omega
          obtain ⟨gi, ci, -, hcell, hri⟩ := HL.out.cell HFI.out.own
          have HN := Hid2.mk (HPU.out k L m j HSUB.out HFI.out hjn)
          have HCLO := Hid2.mk (HCL.out m HSUB.out j hjn)
          have hpos := HPOS.out _ (more_bits HSUB.out.2.2 hjn)
          have hle := mL_le (norM n t (m ||| 2 ^ j))
          generalize mL (norM n t (m ||| 2 ^ j)) = res at *
          clear HFI
          generalize mL m = l at *
          have HCE := Hid2.mk (fun w1 (hb : Below wr.heap.size wr w1) => (hb.cell (p := ⟨gL, k, none⟩) HL.out.1.lt).trans hcell)
          have HOWN := Hid2.mk (fun w1 (hb : Below wr.heap.size wr w1) => l01Own_any l (by omega) w1 gi ci (hri.later hb))
          have HINS := Hid2.mk (fun w1 (hb : Below wr.heap.size wr w1) gr cr (h : rds w1 gr res.length (i64F res)) => l06Insert_any L res (by omega) HLEN.out (by omega) w1 gL cap hd hcap gr cr (HL.out.lat hb) h)
          clear hcell hri
          go_wp2
          apply wp_region_ownL 11 (GrS 11 (naP n t gL L.length cap gi ci k j bq l res wr.heap.size) naR wr [.box bq (sqs (n : Int) t) 30]) (PInsP (putL L res) wr [.box bq (sqs (n : Int) t) 30]) (by kernel_rfl) (by kernel_rfl) rfl
          case hS => exact GrS.start (M.sub [0] (by decide)) _
          case hstep =>
            clear M
            try clear C
            intro i o hlt hi D g w2 hi0 hpre hg S
            obtain rfl | rfl | rfl | rfl | rfl | rfl | rfl | rfl | rfl | rfl | rfl : i = 0 ∨ i = 1 ∨ i = 2 ∨ i = 3 ∨ i = 4 ∨ i = 5 ∨ i = 6 ∨ i = 7 ∨ i = 8 ∨ i = 9 ∨ i = 10 := by omega
            · simp only [List.getElem?_cons_succ, List.getElem?_cons_zero, Option.some.injEq] at hi
              subst hi
              have M := S.base
              have HR : ∀ j ∈ naR 0, D j = true := (fun _ h => by cases h)
              have HW : ∀ j, D j = true → 0 ∉ naW j := fun j _ h => by
                unfold naW at h
                (repeat' split at h) <;> simp at h
              have hst := naS n t gL L.length cap gi ci k j bq l res wr.heap.size
              refine ⟨⟨#[undef, undef, undef, .slice (some ⟨gL, 0, none⟩) L.length cap, undef, undef, undef, undef, undef, undef, undef, undef, undef, undef, undef, undef, undef, undef, undef, undef, undef, undef, undef, undef, undef, undef, undef, undef, undef, undef, undef, undef, undef], []⟩, ?_, ?_⟩
              · intro t ht
                have ht' : t ∈ ([3] : List Nat) := ht
                simp only [List.mem_cons, List.not_mem_nil, or_false] at ht'
                subst ht'
                exact hg.symm
              · skip
                have C := M.ruleAll; simp only [Go.Proofs.Yteonahoboligdaa.ruleAll] at C
                refine yield_walk (ops := #[]) rfl rfl (show 20 < 33 by decide) ?_
                go_wp2
                exact S.val (i := 0) hst (by decide) hi0 HR HW (Below.refl _ _) ⟨updG_at .., rfl⟩
            · simp only [List.getElem?_cons_succ, List.getElem?_cons_zero, Option.some.injEq] at hi
              subst hi
              have M := S.base
              have HR : ∀ j ∈ naR 1, D j = true := (fun _ h => by cases h)
              have HW : ∀ j, D j = true → 1 ∉ naW j := fun j _ h => by
                unfold naW at h
                (repeat' split at h) <;> simp at h
              have hst := naS n t gL L.length cap gi ci k j bq l res wr.heap.size
              refine ⟨⟨#[undef, .pointer (some ⟨bq, 0, none⟩), undef, undef, undef, undef, undef, undef, undef, undef, undef, undef, undef, undef, undef, undef, undef, undef, undef, undef, undef, undef, undef, undef, undef, undef, undef, undef, undef, undef, undef, undef, undef], []⟩, ?_, ?_⟩
              · intro t ht
                have ht' : t ∈ ([1] : List Nat) := ht
                simp only [List.mem_cons, List.not_mem_nil, or_false] at ht'
                subst ht'
                exact rfl
              · skip
                have C := M.ruleAll; simp only [Go.Proofs.Yteonahoboligdaa.ruleAll] at C
                refine yield_walk (ops := #[]) rfl rfl (show 21 < 33 by decide) ?_
                go_wp2_with (first | ((with_reducible apply wpM_lda' M 0 30 0 (sqs (n : Int) t)); rfl; rfl; rfl; exact ⟨rfl, inf_sqs.trans (congrArg some (sqs_size ..).symm), _, und_sqs, rfl⟩; exact whole_of rfl))
                exact S.val (i := 1) hst (by decide) hi0 HR HW (Below.refl _ _) ⟨updG_at .., rfl⟩
            · simp only [List.getElem?_cons_succ, List.getElem?_cons_zero, Option.some.injEq] at hi
              subst hi
              have M := S.base
              have HR : ∀ j ∈ naR 2, D j = true := (fun _ h => by cases h)
              have HW : ∀ j, D j = true → 2 ∉ naW j := fun j _ h => by
                unfold naW at h
                (repeat' split at h) <;> simp at h
              have hst := naS n t gL L.length cap gi ci k j bq l res wr.heap.size
              refine ⟨⟨#[undef, undef, undef, .slice (some ⟨gL, 0, none⟩) L.length cap, undef, undef, undef, undef, undef, undef, undef, undef, undef, undef, undef, undef, undef, undef, undef, undef, undef, undef, undef, undef, undef, undef, undef, undef, undef, undef, undef, undef, undef], []⟩, ?_, ?_⟩
              · intro t ht
                have ht' : t ∈ ([3] : List Nat) := ht
                simp only [List.mem_cons, List.not_mem_nil, or_false] at ht'
                subst ht'
                exact hg.symm
              · skip
                have C := M.ruleAll; simp only [Go.Proofs.Yteonahoboligdaa.ruleAll] at C
                refine yield_walk (ops := #[]) rfl rfl (show 22 < 33 by decide) ?_
                go_wp2
                exact S.val (i := 2) hst (by decide) hi0 HR HW (Below.refl _ _) ⟨updG_at .., rfl⟩
            · simp only [List.getElem?_cons_succ, List.getElem?_cons_zero, Option.some.injEq] at hi
              subst hi
              have M := S.base
              have HR : ∀ j ∈ naR 3, D j = true := (fun _ h => by cases h)
              have HW : ∀ j, D j = true → 3 ∉ naW j := fun j _ h => by
                unfold naW at h
                (repeat' split at h) <;> simp at h
              have hst := naS n t gL L.length cap gi ci k j bq l res wr.heap.size
              refine ⟨⟨#[undef, undef, undef, undef, .int .i64 (k : Int), undef, undef, undef, undef, undef, undef, undef, undef, undef, undef, undef, undef, undef, undef, undef, undef, undef, undef, undef, undef, undef, undef, undef, undef, undef, undef, undef, undef], []⟩, ?_, ?_⟩
              · intro t ht
                have ht' : t ∈ ([4] : List Nat) := ht
                simp only [List.mem_cons, List.not_mem_nil, or_false] at ht'
                subst ht'
                exact rfl
              · skip
                have C := M.ruleAll; simp only [Go.Proofs.Yteonahoboligdaa.ruleAll] at C
                refine yield_walk (ops := #[]) rfl rfl (show 23 < 33 by decide) ?_
                go_wp2
                exact S.val (i := 3) hst (by decide) hi0 HR HW (Below.refl _ _) ⟨updG_at .., rfl⟩
            · simp only [List.getElem?_cons_succ, List.getElem?_cons_zero, Option.some.injEq] at hi
              subst hi
              have d2 : D 2 = true := hpre _ (Array.mem_of_getElem? (i := 0) rfl) rfl
              have d3 : D 3 = true := hpre _ (Array.mem_of_getElem? (i := 1) rfl) rfl
              obtain ⟨E, P, M⟩ := S.get [2, 3] (by decide) (by intro j hj; simp only [List.mem_cons, List.not_mem_nil, or_false] at hj; rcases hj with rfl | rfl <;> assumption)
              obtain ⟨e2, E2⟩ : g 2 = .slice (some ⟨gL, 0, none⟩) L.length cap ∧ E 2 = [] := P 2 (by decide)
              obtain ⟨e3, E3⟩ : g 3 = .int .i64 (k : Int) ∧ E 3 = [] := P 3 (by decide)
              simp only [List.flatMap_cons, List.flatMap_nil, List.append_nil, E2, E3, List.cons_append, List.nil_append] at M
              clear P
              have HR : ∀ j ∈ naR 4, D j = true := (by intro j hj; have hj' : j ∈ ([2, 3] : List Nat) := hj; simp only [List.mem_cons, List.not_mem_nil, or_false] at hj'; rcases hj' with rfl | rfl <;> assumption)
              have HW : ∀ j, D j = true → 4 ∉ naW j := fun j _ h => by
                unfold naW at h
                (repeat' split at h) <;> simp at h
              have hst := naS n t gL L.length cap gi ci k j bq l res wr.heap.size
              refine ⟨⟨#[undef, undef, undef, undef, undef, undef, undef, undef, undef, undef, undef, undef, undef, undef, undef, undef, undef, undef, undef, undef, undef, undef, .slice (some ⟨gL, 0, none⟩) L.length cap, .int .i64 (k : Int), undef, undef, undef, undef, undef, undef, undef, undef, undef], []⟩, ?_, ?_⟩
              · intro t ht
                have ht' : t ∈ ([22, 23] : List Nat) := ht
                simp only [List.mem_cons, List.not_mem_nil, or_false] at ht'
                rcases ht' with rfl | rfl
                · exact e2.symm
                · exact e3.symm
              · skip
                have C := M.ruleAll; simp only [Go.Proofs.Yteonahoboligdaa.ruleAll] at C
                refine yield_walk (ops := #[]) rfl rfl (show 24 < 33 by decide) ?_
                go_wp2
                exact S.val (i := 4) hst (by decide) hi0 HR HW (Below.refl _ _) ⟨updG_at .., rfl⟩
            · simp only [List.getElem?_cons_succ, List.getElem?_cons_zero, Option.some.injEq] at hi
              subst hi
              have d4 : D 4 = true := hpre _ (Array.mem_of_getElem? (i := 0) rfl) rfl
              have d2 : D 2 = true := S.anc 4 d4 2 (show 2 ∈ naR 4 by decide)
              have d3 : D 3 = true := S.anc 4 d4 3 (show 3 ∈ naR 4 by decide)
              obtain ⟨E, P, M⟩ := S.get [4] (by decide) (by intro j hj; simp only [List.mem_cons, List.not_mem_nil, or_false] at hj; subst hj <;> assumption)
              obtain ⟨e4, E4⟩ : g 4 = .pointer (some ⟨gL, k, none⟩) ∧ E 4 = [] := P 4 (by decide)
              simp only [List.flatMap_cons, List.flatMap_nil, List.append_nil, E4, List.cons_append, List.nil_append] at M
              clear P
              have HR : ∀ j ∈ naR 5, D j = true := (by intro j hj; have hj' : j ∈ ([2, 3, 4] : List Nat) := hj; simp only [List.mem_cons, List.not_mem_nil, or_false] at hj'; rcases hj' with rfl | rfl | rfl <;> assumption)
              have HW : ∀ j, D j = true → 5 ∉ naW j := fun j _ h => by
                unfold naW at h
                (repeat' split at h) <;> simp at h
              have hst := naS n t gL L.length cap gi ci k j bq l res wr.heap.size
              refine ⟨⟨#[undef, undef, undef, undef, undef, undef, undef, undef, undef, undef, undef, undef, undef, undef, undef, undef, undef, undef, undef, undef, undef, undef, undef, undef, .pointer (some ⟨gL, k, none⟩), undef, undef, undef, undef, undef, undef, undef, undef], []⟩, ?_, ?_⟩
              · intro t ht
                have ht' : t ∈ ([24] : List Nat) := ht
                simp only [List.mem_cons, List.not_mem_nil, or_false] at ht'
                subst ht'
                exact e4.symm
              · skip
                have hcc := HCE.out _ M.below
                have C := M.ruleAll; simp only [Go.Proofs.Yteonahoboligdaa.ruleAll] at C
                refine yield_walk (ops := #[]) rfl rfl (show 25 < 33 by decide) ?_
                go_wp2
                exact S.val (i := 5) hst (by decide) hi0 HR HW (Below.refl _ _) ⟨updG_at .., rfl⟩
            · simp only [List.getElem?_cons_succ, List.getElem?_cons_zero, Option.some.injEq] at hi
              subst hi
              have d5 : D 5 = true := hpre _ (Array.mem_of_getElem? (i := 0) rfl) rfl
              have d2 : D 2 = true := S.anc 5 d5 2 (show 2 ∈ naR 5 by decide)
              have d3 : D 3 = true := S.anc 5 d5 3 (show 3 ∈ naR 5 by decide)
              have d4 : D 4 = true := S.anc 5 d5 4 (show 4 ∈ naR 5 by decide)
              obtain ⟨E, P, M⟩ := S.get [5] (by decide) (by intro j hj; simp only [List.mem_cons, List.not_mem_nil, or_false] at hj; subst hj <;> assumption)
              obtain ⟨e5, E5⟩ : g 5 = .slice (some ⟨gi, 0, none⟩) l.length ci ∧ E 5 = [] := P 5 (by decide)
              simp only [List.flatMap_cons, List.flatMap_nil, List.append_nil, E5, List.cons_append, List.nil_append] at M
              clear P
              have HR : ∀ j ∈ naR 6, D j = true := (by intro j hj; have hj' : j ∈ ([2, 3, 4, 5] : List Nat) := hj; simp only [List.mem_cons, List.not_mem_nil, or_false] at hj'; rcases hj' with rfl | rfl | rfl | rfl <;> assumption)
              have HW : ∀ j, D j = true → 6 ∉ naW j := fun j _ h => by
                unfold naW at h
                (repeat' split at h) <;> simp at h
              have hst := naS n t gL L.length cap gi ci k j bq l res wr.heap.size
              refine ⟨⟨#[undef, undef, undef, undef, undef, undef, undef, undef, undef, undef, undef, undef, undef, undef, undef, undef, undef, undef, undef, undef, undef, undef, undef, undef, undef, .slice (some ⟨gi, 0, none⟩) l.length ci, undef, undef, undef, undef, undef, undef, undef], []⟩, ?_, ?_⟩
              · intro t ht
                have ht' : t ∈ ([25] : List Nat) := ht
                simp only [List.mem_cons, List.not_mem_nil, or_false] at ht'
                subst ht'
                exact e5.symm
              · skip
                have C := M.ruleAll; simp only [Go.Proofs.Yteonahoboligdaa.ruleAll] at C
                refine yield_walk (ops := #[]) rfl rfl (show 26 < 33 by decide) ?_
                go_wp2_with (first | (go_at_call 65; fail))
                refine (HOWN.out _ M.below).mono ?_
                rintro e w1 ⟨vr, rfl, M'⟩
                go_wp2
                exact S.add (i := 6) hst (by decide) hi0 HR HW (M'.weakRow S.base.size) (new_row1 M') ⟨trivial, by rw [S.not_yet hi0 (show 6 ∈ naR 9 by decide) (by decide), updG_at]; rfl⟩
            · simp only [List.getElem?_cons_succ, List.getElem?_cons_zero, Option.some.injEq] at hi
              subst hi
              have M := S.base
              have HR : ∀ j ∈ naR 7, D j = true := (fun _ h => by cases h)
              have HW : ∀ j, D j = true → 7 ∉ naW j := fun j _ h => by
                unfold naW at h
                (repeat' split at h) <;> simp at h
              have hst := naS n t gL L.length cap gi ci k j bq l res wr.heap.size
              refine ⟨⟨#[undef, undef, undef, undef, undef, .int .i64 (j : Int), undef, undef, undef, undef, undef, undef, undef, undef, undef, undef, undef, undef, undef, undef, undef, undef, undef, undef, undef, undef, undef, undef, undef, undef, undef, undef, undef], []⟩, ?_, ?_⟩
              · intro t ht
                have ht' : t ∈ ([5] : List Nat) := ht
                simp only [List.mem_cons, List.not_mem_nil, or_false] at ht'
                subst ht'
                exact rfl
              · skip
                have C := M.ruleAll; simp only [Go.Proofs.Yteonahoboligdaa.ruleAll] at C
                refine yield_walk (ops := #[]) rfl rfl (show 27 < 33 by decide) ?_
                go_wp2
                exact S.val (i := 7) hst (by decide) hi0 HR HW (Below.refl _ _) ⟨updG_at .., rfl⟩
            · simp only [List.getElem?_cons_succ, List.getElem?_cons_zero, Option.some.injEq] at hi
              subst hi
              have d7 : D 7 = true := hpre _ (Array.mem_of_getElem? (i := 0) rfl) rfl
              obtain ⟨E, P, M⟩ := S.get [7] (by decide) (by intro j hj; simp only [List.mem_cons, List.not_mem_nil, or_false] at hj; subst hj <;> assumption)
              obtain ⟨e7, E7⟩ : g 7 = .int .i64 (j : Int) ∧ E 7 = [] := P 7 (by decide)
              simp only [List.flatMap_cons, List.flatMap_nil, List.append_nil, E7, List.cons_append, List.nil_append] at M
              clear P
              have HR : ∀ j ∈ naR 8, D j = true := (by intro j hj; have hj' : j ∈ ([7] : List Nat) := hj; simp only [List.mem_cons, List.not_mem_nil, or_false] at hj'; subst hj' <;> assumption)
              have HW : ∀ j, D j = true → 8 ∉ naW j := fun j _ h => by
                unfold naW at h
                (repeat' split at h) <;> simp at h
              have hst := naS n t gL L.length cap gi ci k j bq l res wr.heap.size
              refine ⟨⟨#[undef, undef, undef, undef, undef, undef, undef, undef, undef, undef, undef, undef, undef, undef, undef, undef, undef, undef, undef, undef, undef, undef, undef, undef, undef, undef, undef, .int .i64 (j : Int), undef, undef, undef, undef, undef], []⟩, ?_, ?_⟩
              · intro t ht
                have ht' : t ∈ ([27] : List Nat) := ht
                simp only [List.mem_cons, List.not_mem_nil, or_false] at ht'
                subst ht'
                exact e7.symm
              · skip
                clear M
                have M := Mm.start no w2
                have C := M.ruleAll; simp only [Go.Proofs.Yteonahoboligdaa.ruleAll] at C
                refine yield_walk (ops := #[]) rfl rfl (show 28 < 33 by decide) ?_
                go_wp2_with (first | ((with_reducible apply wpM_bsl' M 33 1 2 ([(0, .int .i64 (j : Int))]) (#[.int .i64 (j : Int)])); rfl; rfl; rfl; exact bsl_n1 _; clear M; (try clear C); intro bi w9 h_bi M; have C := M.ruleAll; simp only [Go.Proofs.Yteonahoboligdaa.ruleAll] at C))
                exact S.add (i := 8) hst (by decide) hi0 HR HW M (new_box h_bi) ⟨bi, updG_at .., rfl⟩
            · simp only [List.getElem?_cons_succ, List.getElem?_cons_zero, Option.some.injEq] at hi
              subst hi
              have d6 : D 6 = true := hpre _ (Array.mem_of_getElem? (i := 0) rfl) rfl
              have d8 : D 8 = true := hpre _ (Array.mem_of_getElem? (i := 1) rfl) rfl
              have d7 : D 7 = true := S.anc 8 d8 7 (show 7 ∈ naR 8 by decide)
              have d2 : D 2 = true := S.anc 6 d6 2 (show 2 ∈ naR 6 by decide)
              have d3 : D 3 = true := S.anc 6 d6 3 (show 3 ∈ naR 6 by decide)
              have d4 : D 4 = true := S.anc 6 d6 4 (show 4 ∈ naR 6 by decide)
              have d5 : D 5 = true := S.anc 6 d6 5 (show 5 ∈ naR 6 by decide)
              have M := S.base
              have HR : ∀ j ∈ naR 9, D j = true := (by intro j hj; have hj' : j ∈ ([2, 3, 4, 5, 6, 7, 8] : List Nat) := hj; simp only [List.mem_cons, List.not_mem_nil, or_false] at hj'; rcases hj' with rfl | rfl | rfl | rfl | rfl | rfl | rfl <;> assumption)
              have HW : ∀ j, D j = true → j ≠ 6 → 9 ∉ naW j := fun j _ hne h => by
                unfold naW at h
                (repeat' split at h) <;> first | contradiction | simp at h
              have hst := naS n t gL L.length cap gi ci k j bq l res wr.heap.size
              try clear M
              obtain ⟨E', X, P, M, FIN⟩ := S.writeK (i := 9) (t := 6) hst (by decide) hi0 HR HW d6 [8] (by decide) (by intro j hj; simp only [List.mem_cons, List.not_mem_nil, or_false] at hj; subst hj <;> assumption)
              obtain ⟨e6, E6⟩ : True ∧ E' 6 = [.row wr.heap.size (bif D 9 then g 9 else g 6) (bif D 9 then l.length + 1 else l.length) (bif D 9 then i64N l ++ [Value.int .i64 (j : Int)] else i64N l) 2 1] := P 6 (by decide)
              obtain ⟨bi, e8, E8⟩ : ∃ bi, g 8 = .slice (some ⟨bi, 0, none⟩) 1 1 ∧ E' 8 = [.box bi #[.int .i64 (j : Int)] 2] := P 8 (by decide)
              simp only [E6, E8, List.flatMap_cons, List.flatMap_nil, List.append_nil, List.cons_append, List.nil_append] at M
              simp only [E8, List.flatMap_cons, List.flatMap_nil, List.append_nil, List.cons_append, List.nil_append] at FIN
              clear P
              refine ⟨⟨#[undef, undef, undef, undef, undef, undef, undef, undef, undef, undef, undef, undef, undef, undef, undef, undef, undef, undef, undef, undef, undef, undef, undef, undef, undef, undef, g 6, undef, .slice (some ⟨bi, 0, none⟩) 1 1, undef, undef, undef, undef], []⟩, ?_, ?_⟩
              · intro t ht
                have ht' : t ∈ ([26, 28] : List Nat) := ht
                simp only [List.mem_cons, List.not_mem_nil, or_false] at ht'
                rcases ht' with rfl | rfl
                · exact rfl
                · exact e8.symm
              · skip
                have C := M.ruleAll; simp only [Go.Proofs.Yteonahoboligdaa.ruleAll] at C
                simp only [hi0, cond_false] at M
                obtain ⟨ppx, capx, hg6⟩ := own_form (M.row 0 rfl)
                rw [hg6] at M ⊢
                clear C
                have C := M.ruleAll; simp only [Go.Proofs.Yteonahoboligdaa.ruleAll] at C
                refine yield_walk (ops := #[]) rfl rfl (show 29 < 33 by decide) ?_
                go_wp2_with (first | ((with_reducible apply wpM_app' M 33 0 1 (wr.heap.size) (.slice ppx l.length capx) (l.length) (i64N l) 2 1 8); rfl; rfl; rfl; rfl; rfl; rfl; rfl; (first | exact .inl (Nat.le_refl _) | exact .inl (by assumption) | exact .inr (by assumption) | exact .inr HDv.out); (first | exact M.size | (have hq := M.size; omega)); exact und_sln; exact inf_eln; rfl; decide; decide; rfl; exact rfl; exact flat_n1 _; omega; clear M; (try clear C); intro v2 w9 far_v2 M; simp only [List.set_cons_zero, List.set_cons_succ, entBlk, entT, List.getElem?_cons_zero, List.getElem?_cons_succ] at M; obtain ⟨pp_v2, cap_v2, rfl⟩ := own_form (M.row 0 rfl); have C := M.ruleAll; simp only [Go.Proofs.Yteonahoboligdaa.ruleAll] at C))
                exact FIN _ _ [.row wr.heap.size (.slice pp_v2 (l.length + 1) cap_v2) (l.length + 1) (i64N l ++ [Value.int .i64 (j : Int)]) 2 1] M ⟨trivial, by rw [updD_at, updG_at]; rfl⟩ rfl
            · simp only [List.getElem?_cons_succ, List.getElem?_cons_zero, Option.some.injEq] at hi
              subst hi
              have d1 : D 1 = true := hpre _ (Array.mem_of_getElem? (i := 0) rfl) rfl
              have d9 : D 9 = true := hpre _ (Array.mem_of_getElem? (i := 1) rfl) rfl
              have d2 : D 2 = true := S.anc 9 d9 2 (show 2 ∈ naR 9 by decide)
              have d3 : D 3 = true := S.anc 9 d9 3 (show 3 ∈ naR 9 by decide)
              have d4 : D 4 = true := S.anc 9 d9 4 (show 4 ∈ naR 9 by decide)
              have d5 : D 5 = true := S.anc 9 d9 5 (show 5 ∈ naR 9 by decide)
              have d6 : D 6 = true := S.anc 9 d9 6 (show 6 ∈ naR 9 by decide)
              have d7 : D 7 = true := S.anc 9 d9 7 (show 7 ∈ naR 9 by decide)
              have d8 : D 8 = true := S.anc 9 d9 8 (show 8 ∈ naR 9 by decide)
              obtain ⟨E, P, M⟩ := S.get [1, 6] (by decide) (by intro j hj; simp only [List.mem_cons, List.not_mem_nil, or_false] at hj; rcases hj with rfl | rfl <;> assumption)
              obtain ⟨e1, E1⟩ : g 1 = .agg (sqs (n : Int) t) ∧ E 1 = [] := P 1 (by decide)
              obtain ⟨e6, E6⟩ : True ∧ E 6 = [.row wr.heap.size (bif D 9 then g 9 else g 6) (bif D 9 then l.length + 1 else l.length) (bif D 9 then i64N l ++ [Value.int .i64 (j : Int)] else i64N l) 2 1] := P 6 (by decide)
              simp only [List.flatMap_cons, List.flatMap_nil, List.append_nil, E1, E6, List.cons_append, List.nil_append] at M
              clear P
              have HR : ∀ j ∈ naR 10, D j = true := (by intro j hj; have hj' : j ∈ ([1, 2, 3, 4, 5, 6, 7, 8, 9] : List Nat) := hj; simp only [List.mem_cons, List.not_mem_nil, or_false] at hj'; rcases hj' with rfl | rfl | rfl | rfl | rfl | rfl | rfl | rfl | rfl <;> assumption)
              have HW : ∀ j, D j = true → 10 ∉ naW j := fun j _ h => by
                unfold naW at h
                (repeat' split at h) <;> simp at h
              have hst := naS n t gL L.length cap gi ci k j bq l res wr.heap.size
              refine ⟨⟨#[undef, undef, undef, undef, undef, undef, undef, undef, undef, undef, undef, undef, undef, undef, undef, undef, undef, undef, undef, undef, undef, .agg (sqs (n : Int) t), undef, undef, undef, undef, undef, undef, undef, g 9, undef, undef, undef], []⟩, ?_, ?_⟩
              · intro t ht
                have ht' : t ∈ ([21, 29] : List Nat) := ht
                simp only [List.mem_cons, List.not_mem_nil, or_false] at ht'
                rcases ht' with rfl | rfl
                · exact e1.symm
                · exact rfl
              · skip
                simp only [d9, cond_true] at M
                obtain ⟨g2, c2, hg9, hB2, -, hr2⟩ := own_rds (M.row 0 rfl) (by omega)
                rw [hg9]
                rw [Nat.mul_one] at hr2
                have HR2 := Hid2.mk hr2
                clear hr2
                have C := M.ruleAll; simp only [Go.Proofs.Yteonahoboligdaa.ruleAll] at C
                refine yield_walk (ops := #[]) rfl rfl (show 30 < 33 by decide) ?_
                go_wp2_with (first | (go_at_call 64; fail))
                refine (HCLO.out _ g2 c2 HR2.out).mono ?_
                rintro e w1 ⟨gr, cr, rfl, hgr, hrr, hbb⟩
                go_wp2
                exact S.add (i := 10) hst (by decide) hi0 HR HW ((Mm.start no _).gain hbb (x := .rd gr res.length (i64F res)) hrr fun b h => by cases h; exact hgr) (fun y hy b hb => by simp only [List.mem_singleton] at hy; subst hy; cases hb; exact hgr) ⟨gr, cr, updG_at .., rfl⟩

          case hcall =>
            clear M
            try clear C
            intro o hi D g1 w2 hpre S
            simp only [List.getElem?_cons_succ, List.getElem?_cons_zero, Option.some.injEq] at hi
            subst hi
            have d0 : D 0 = true := hpre _ (Array.mem_of_getElem? (i := 0) rfl) rfl
            have d10 : D 10 = true := hpre _ (Array.mem_of_getElem? (i := 1) rfl) rfl
            refine ⟨fun i hi => ?_, ?_⟩
            · obtain rfl | rfl | rfl | rfl | rfl | rfl | rfl | rfl | rfl | rfl | rfl : i = 0 ∨ i = 1 ∨ i = 2 ∨ i = 3 ∨ i = 4 ∨ i = 5 ∨ i = 6 ∨ i = 7 ∨ i = 8 ∨ i = 9 ∨ i = 10 := by omega
              all_goals first | exact d0 | exact d10 | exact S.anc 10 d10 _ (by decide)
            · obtain ⟨E, P, M⟩ := S.get [0, 10] (by decide) (by intro i hi; simp only [List.mem_cons, List.not_mem_nil, or_false] at hi; rcases hi with rfl | rfl <;> assumption)
              obtain ⟨e0, E0⟩ : g1 0 = .slice (some ⟨gL, 0, none⟩) L.length cap ∧ E 0 = [] := P 0 (by decide)
              obtain ⟨gr, cr, e10, E10⟩ : ∃ gr cr, g1 10 = .slice (some ⟨gr, 0, none⟩) res.length cr ∧ E 10 = [.rd gr res.length (i64F res)] := P 10 (by decide)
              simp only [List.flatMap_cons, List.flatMap_nil, List.append_nil, E0, E10, List.cons_append, List.nil_append] at M
              clear P
              refine ⟨⟨#[undef, undef, undef, undef, undef, undef, undef, undef, undef, undef, undef, undef, undef, undef, undef, undef, undef, undef, undef, undef, .slice (some ⟨gL, 0, none⟩) L.length cap, undef, undef, undef, undef, undef, undef, undef, undef, undef, .slice (some ⟨gr, 0, none⟩) res.length cr, undef, undef], []⟩, ?_, ?_⟩
              · intro t ht
                have ht' : t ∈ ([20, 30] : List Nat) := ht
                simp only [List.mem_cons, List.not_mem_nil, or_false] at ht'
                rcases ht' with rfl | rfl
                · exact e0.symm
                · exact e10.symm
              · have C := M.ruleAll; simp only [Go.Proofs.Yteonahoboligdaa.ruleAll] at C
                refine yield_walk (ops := #[]) rfl rfl (show 31 < 33 by decide) ?_
                go_wp2_with (first | (go_at_call 63; fail))
                refine (HINS.out _ M.below gr cr (M.rd 0 rfl)).mono ?_
                rintro e w1 ⟨g6, cap6, hd6, rfl, hcap6, HL6, hb⟩
                have HLX := Hid2.mk HL6
                clear HL6
                go_wp2
                exact PInsP.mk hcap6 HLX.out ((M.later hb).sub [1] (by decide))
          case hlate =>
            intro o hi
            simp only [List.getElem?_cons_succ, List.getElem?_cons_zero, Option.some.injEq] at hi
            subst hi
            exact ⟨_, Array.mem_of_getElem? (i := 0) rfl, rfl, rfl⟩
          case hlast =>
            clear M
            try clear C
            intro o hi g1 w2 hP
            simp only [List.getElem?_cons_succ, List.getElem?_cons_zero, Option.some.injEq] at hi
            subst hi
            have HP := Hid2.mk hP
            obtain ⟨g6, cap6, hd6, e11, -, -, -⟩ := hP
            refine ⟨⟨#[undef, undef, undef, undef, undef, undef, undef, undef, undef, undef, undef, undef, undef, undef, undef, undef, undef, undef, undef, undef, undef, undef, undef, undef, undef, undef, undef, undef, undef, undef, undef, .slice (some ⟨g6, 0, none⟩) (putL L res).length cap6, undef], []⟩, ?_, ?_⟩
            · intro t ht
              have ht' : t ∈ ([31] : List Nat) := ht
              simp only [List.mem_cons, List.not_mem_nil, or_false] at ht'
              subst ht'
              exact e11.symm
            · refine yield_walk (ops := #[]) rfl rfl (show 3 < 33 by decide) ?_
              go_wp2
              first | exact ⟨e11.symm, HP.out⟩ | exact HP.out | (rw [← e11]; exact HP.out)
          case hQ =>
            clear M
            try clear C
            intro g1 w2 h12 hP
            obtain ⟨g6, cap6, hd6, e11, hcap6, HL6, M⟩ := hP
            rw [e11] at h12
            have HLX := Hid2.mk HL6
            clear HL6
            simp only [fullAct, h12, Act.put, List.setIfInBounds_toArray, List.set_cons_succ, List.set_cons_zero]
            clear h12 e11
            have M8 := HMW.out.later M.below
            have C := M.ruleAll; simp only [Go.Proofs.Yteonahoboligdaa.ruleAll] at C
            go_wp2
            go_roundw
            case rel => exact ⟨_, g6, cap6, j + 1, hd6, rfl, by go_num, by omega, by omega, hcap6, HN, HLX, M8⟩
            case measure => simp [intOf]; omega
        · obtain rfl : n = j := by omega
          have hge : ¬ ((n : Int) < (n : Int)) := by omega
          have HN := Hid2.mk (HFI.out.next hm)
          have hkl := (List.getElem?_eq_some_iff.1 HFI.out.own).1
          go_wp2
          have M8 := HMW.out.later M.below
          have HL2 := Hid2.mk (HL.out.lat M.below)
          go_roundw
          case rel => exact ⟨L, gL, cap, k + 1, hd, rfl, by go_num, by omega, hcap, HN, HL2, M8⟩
          case measure => simp [intOf]; omega
    · obtain rfl : k = L.length := by omega
      have hge : ¬ ((L.length : Int) < (L.length : Int)) := by omega
      have HE := Hid2.mk HF.out
      have hw := M.below
      go_wp2
      go_ret
      exact AllNPost.mk HE.out (LstPost.mk rfl hcap HL.out M.below)
end Go.Proofs.Yteonahoboligdaa

