/- The list of all subloops, for the reference: contracts. -/
import Derived.Test.YteonahoboligdaaG4
namespace Go.Proofs.Yteonahoboligdaa
set_option linter.unusedSimpArgs false
set_option linter.unusedVariables false
open Go Go.RowKit

theorem und_slh : Try.prog.underlying 39 = some (.slice 33) := by kernel_rfl
theorem inf_elh : (Try.prog.info? 33).map (fun i => (i.zero, i.size, i.bytes)) = some (some (.slice none 0 0), 1, 24) := by kernel_rfl
theorem bsl_h0 (w : World) : (Instr.buildSlice 39 0 [].toArray).run Try.prog w = .ok (.slice (some ⟨w.heap.size, 0, none⟩) 0 0) (w.alloc (.cells #[] 33)) := by kernel_rfl
theorem bsl_h1 (p : Option Addr) (n c : Nat) (w : World) : (Instr.buildSlice 39 1 [(0, Value.slice p n c)].toArray).run Try.prog w = .ok (.slice (some ⟨w.heap.size, 0, none⟩) 1 1) (w.alloc (.cells #[.slice p n c] 33)) := by kernel_rfl
/-- A list of lists handed back, in memory that is old or new. -/
def LstPost (K : List (List Nat)) (w0 : World) (e : Ending) (w' : World) : Prop := ∃ g cap hd, e = .returned (.slice (some ⟨g, 0, none⟩) K.length cap) ∧ K.length ≤ cap ∧ Lst w' g hd K ∧ Below w0.heap.size w0 w'
theorem LstPost.mk {K : List (List Nat)} {w0 w' : World} {e : Ending} {g cap : Nat} {hd : List Value} (h1 : e = .returned (.slice (some ⟨g, 0, none⟩) K.length cap)) (h2 : K.length ≤ cap) (h3 : Lst w' g hd K) (h4 : Below w0.heap.size w0 w') : LstPost K w0 e w' := ⟨g, cap, hd, h1, h2, h3, h4⟩
/-- Where what is left of a slice begins. -/
def adr (g k cap : Nat) : Addr := if cap = k then ⟨g, 0, none⟩ else ⟨g, k, none⟩
theorem sl_lo (g len cap k : Nat) (h1 : k ≤ len) (h2 : len ≤ cap) (w : World) : (Instr.sliceAt 39 (.slice (some ⟨g, 0, none⟩) len cap) (some (.int .i64 (k : Int))) none none).run Try.prog w = .ok (.slice (some (adr g k cap)) (len - k) (cap - k)) w := by
  have hu : Try.prog.underlying 39 = some (.slice 33) := und_slh
  have hs : (sizeOf 33).run Try.prog w = .ok 1 w := by kernel_rfl
  have h1' : (k : Int) ≤ (len : Int) := by omega
  simp [Instr.sliceAt, Instr.slice, Sem.run_bind, run_underlying hu, Instr.sureAddr, Instr.sliceBounds, Instr.sliceBound, asIntOf, hs, h1', Addr.add, adr]
  rw [if_pos h1]
  by_cases h3 : cap = k
  · rw [if_pos h3, if_pos h3]
  · rw [if_neg h3, if_neg h3]
    by_cases h4 : k = 0
    · subst h4; rfl
    · rw [if_neg h4]
theorem sl_hi (g len cap k : Nat) (h1 : k ≤ cap) (w : World) : (Instr.sliceAt 39 (.slice (some ⟨g, 0, none⟩) len cap) none (some (.int .i64 (k : Int))) none).run Try.prog w = .ok (.slice (some ⟨g, 0, none⟩) k cap) w := by
  have hu : Try.prog.underlying 39 = some (.slice 33) := und_slh
  have hs : (sizeOf 33).run Try.prog w = .ok 1 w := by kernel_rfl
  have h1' : (k : Int) ≤ (cap : Int) := by omega
  simp [Instr.sliceAt, Instr.slice, Sem.run_bind, run_underlying hu, Instr.sureAddr, Instr.sliceBounds, Instr.sliceBound, asIntOf, hs, h1', Addr.add]
  intro h; omega
theorem news_rd {w : World} {g n : Nat} {xs : List Value} (h : rds w g n (fun j => xs.getD j undef)) (hn : xs.length = n) : ∀ j u, xs[j]? = some u → w.cell? ((⟨g, 0, none⟩ : Addr).add j) = some u := fun j u hu => by
  have hi := (List.getElem?_eq_some_iff.1 hu).1
  rw [add_none, Nat.zero_add, h.at_ j (by omega), List.getD_eq_getElem?_getD, hu]; rfl
theorem one_app {p : Option Addr} {n c : Nat} {xs : List Value} (h : ∀ u ∈ xs, u.oneCell' = true) : ∀ u ∈ [Value.slice p n c] ++ xs, u.oneCell' = true := fun u hu => by
  rcases List.mem_append.1 hu with h1 | h1
  · rw [List.mem_singleton.1 h1]; rfl
  · exact h u h1

set_option maxRecDepth 100000 in
set_option maxHeartbeats 4000000 in
theorem l05Put_any (L : List (List Nat)) (l : List Nat) (hL : L.length ≤ 2000) (hlen : ∀ x ∈ L, x.length ≤ 1000) (hl : l.length ≤ 1000) (w : World) (g cap : Nat) (hd : List Value) (hcap : L.length ≤ cap) (gl cl : Nat) (hlst : Lst w g hd L) (hrl : rds w gl l.length (i64F l)) :
    Calls Try.prog 71 #[.slice (some ⟨g, 0, none⟩) L.length cap, .slice (some ⟨gl, 0, none⟩) l.length cl] w (LstPost (putL L l) w) := by
  have M := Mm.start no w
  have HLST := Hid2.mk hlst
  have HRL := Hid2.mk (fun w1 (hb : Below w.heap.size w w1) => hrl.lat hb)
  have HLEN := Hid2.mk hlen
  clear hlst hrl hlen
  go_enter Try.func71, Try.ntmps71
  go_wp2
  go_loopw [5] (fun i wr => ∃ k : Nat, k ≤ L.length ∧ i = .int .i64 (k : Int) ∧ Hid2 (∀ j, j < k → befL (L.getD j []) l = true) ∧ Mm no w wr []) (fun i _ => L.length - (intOf i).toNat)
  case atStart => exact ⟨0, by omega, rfl, ⟨fun j h => by omega⟩, M⟩
  case round =>
    obtain ⟨k, hk, rfl, HB, M9⟩ := hrel
    clear M
    have M := M9
    clear M9
    by_cases hlt : k < L.length
    · have hlt' : (k : Int) < (L.length : Int) := by omega
      have e1 := List.getElem?_eq_getElem hlt
      have hx := HLEN.out _ (List.getElem_mem hlt)
      have hgd : L.getD k [] = L[k] := by rw [List.getD_eq_getElem?_getD, e1]; rfl
      generalize L[k] = x at e1 hx hgd
      obtain ⟨gi, ci, e2, -, hri⟩ := HLST.out.cell e1
      have HCE := Hid2.mk (fun w1 (hb : Below w.heap.size w w1) => show w1.cell? ⟨g, k, none⟩ = some (.slice (some ⟨gi, 0, none⟩) x.length ci) from by rw [(HLST.out.1.lat hb).at_ k hlt, List.getD_eq_getElem?_getD, e2]; rfl)
      have HRI := Hid2.mk (fun w1 (hb : Below w.heap.size w w1) => hri.lat hb)
      clear hri
      have HE1 := Hid2.mk e1
      clear e1 e2
      have hd1 := HCE.out _ M.below
      go_wp2_with (first | (go_at_call 90; fail))
      refine (l05Before_any x l hx hl _ gi ci gl cl (HRI.out _ M.below) (HRL.out _ M.below)).mono ?_
      rintro e w1 ⟨rfl, hb⟩
      have M9 := M.later hb
      clear M hd1 hb
      have M := M9
      clear M9
      cases hbf : befL x l with
      | true =>
        have HN := Hid2.mk (show ∀ j, j < k + 1 → befL (L.getD j []) l = true from fun j hj => if e : j = k then by rw [e, hgd]; exact hbf else HB.out j (by omega))
        clear hbf hgd HB
        go_wp2
        go_roundw
        case rel => exact ⟨k + 1, by omega, by go_num, HN, M⟩
        case measure => simp [intOf]; omega
      | false =>
        have HP0 := putL_at hk HB.out (fun y hy => by rw [HE1.out] at hy; cases hy; exact hbf)
        rw [HE1.out] at HP0
        have HP0' := Hid2.mk HP0
        clear hbf hgd HB HP0
        have hd1 := HCE.out _ M.below
        go_wp2_with (first | (go_at_call 84; fail))
        refine (l01Same2_any x l hx hl _ gi ci gl cl (HRI.out _ M.below) (HRL.out _ M.below)).mono ?_
        rintro e w2 ⟨rfl, hb⟩
        have M9 := M.later hb
        clear M hd1 hb
        have M := M9
        clear M9
        by_cases hxl : x = l
        · have HP := Hid2.mk (HP0'.out.trans (if_pos (by rw [hxl])))
          have hdc : decide (x = l) = true := decide_eq_true hxl
          clear HP0'
          go_wp2
          go_ret
          rw [HP.out]
          exact LstPost.mk rfl hcap (HLST.out.lat M.below) M.below
        · have HP := Hid2.mk (HP0'.out.trans (if_neg (fun e => hxl (Option.some.inj e))))
          have hdc : decide (x = l) = false := decide_eq_false hxl
          clear HP0'
          have hsl1 := fun w1 => sl_lo g L.length cap k hk hcap w1
          have hsl2 := fun w1 => sl_hi g L.length cap k (by omega) w1
          have hnw := HLST.out.news (k := k) (ad := adr g k cap) (by unfold adr; by_cases h : cap = k; exact .inl (by omega); exact .inr (if_neg h))
          have HNW := Hid2.mk (fun w1 (hb : Below w.heap.size w w1) => (HLST.out.lat hb).news (k := k) (ad := adr g k cap) (by unfold adr; by_cases h : cap = k; exact .inl (by omega); exact .inr (if_neg h)))
          have HNT := Hid2.mk (fun w1 (hb : Below w.heap.size w w1) => (HLST.out.lat hb).newsT k)
          have hon1 : ∀ u ∈ hd.drop k, u.oneCell' = true := fun u hu => HLST.out.one u (List.mem_of_mem_drop hu)
          have hon2 : ∀ u ∈ hd.take k, u.oneCell' = true := fun u hu => HLST.out.one u (List.mem_of_mem_take hu)
          have hld : (hd.drop k).length = (L.length - k) := by rw [List.length_drop, HLST.out.2.1]
          have hlt2 : (hd.take k).length = k := by rw [List.length_take, HLST.out.2.1]; omega
          have HON1 := Hid2.mk hon1
          have HON2 := Hid2.mk hon2
          have HLD := Hid2.mk hld
          have HLT := Hid2.mk hlt2
          generalize hadr : adr g k cap = ad at *
          clear hadr hnw hon1 hon2 hld hlt2
          generalize hdr1 : hd.drop k = hD at *
          generalize hdr2 : hd.take k = hT at *
          have HD1 := Hid2.mk hdr1
          have HD2 := Hid2.mk hdr2
          clear hdr1 hdr2
          go_wp2_with (first | (((with_reducible apply wpM_bsl' M 39 1 33 ([(0, .slice (some ⟨gl, 0, none⟩) l.length cl)]) (#[.slice (some ⟨gl, 0, none⟩) l.length cl])); rfl; rfl; rfl; exact bsl_h1 _ _ _; clear M; (try clear C); intro b1 w9 h_b1 M; have C := M.ruleAll; simp only [Go.Proofs.Yteonahoboligdaa.ruleAll] at C); have M9 := M.asRow 0 rfl w.heap.size 1 1 h_b1 rfl (by decide); simp only [List.set_cons_zero] at M9; clear M; (try clear C); have M := M9; clear M9; have C := M.ruleAll; simp only [Go.Proofs.Yteonahoboligdaa.ruleAll] at C) | (((with_reducible apply wpM_bsl' M 39 0 33 ([]) (#[])); rfl; rfl; rfl; exact bsl_h0; clear M; (try clear C); intro b2 w9 h_b2 M; have C := M.ruleAll; simp only [Go.Proofs.Yteonahoboligdaa.ruleAll] at C); have M9 := M.asRow 0 rfl w.heap.size 0 1 h_b2 rfl (Nat.zero_le _); simp only [List.set_cons_zero] at M9; clear M; (try clear C); have M := M9; clear M9; have C := M.ruleAll; simp only [Go.Proofs.Yteonahoboligdaa.ruleAll] at C) | (((with_reducible apply wpM_appx M 39 0 (w.heap.size) (.slice (some ⟨b1, 0, none⟩) 1 1) (1) ([.slice (some ⟨gl, 0, none⟩) l.length cl]) 33 24 (ad) ((L.length - k)) (cap - k) (hD)); rfl; rfl; rfl; rfl; rfl; (first | exact .inl (Nat.le_refl _) | exact .inl (by assumption) | exact .inr (by assumption)); (first | exact M.size | (have hq := M.size; omega)); exact HLD.out; exact HNW.out _ M.below; exact HON1.out; exact und_slh; exact inf_elh; rfl; (simp only [maxLen]; omega); omega; clear M; (try clear C); intro vr w9 far_vr M; simp only [List.set_cons_zero, List.set_cons_succ, entBlk, entT, List.getElem?_cons_zero, List.getElem?_cons_succ] at M; obtain ⟨pp_vr, cap_vr, rfl⟩ := own_form (M.row 0 rfl); have C := M.ruleAll; simp only [Go.Proofs.Yteonahoboligdaa.ruleAll] at C); obtain ⟨g3, cap3, e3, M8⟩ := M.rowRd 0 rfl (by omega) (fun j => ([Value.slice (some ⟨gl, 0, none⟩) l.length cl] ++ hD).getD j undef) (fun j hj => rfl); cases e3; simp only [List.set_cons_zero] at M8; clear M; (try clear C); have M := M8; clear M8; have C := M.ruleAll; simp only [Go.Proofs.Yteonahoboligdaa.ruleAll] at C) | (((with_reducible apply wpM_appx M 39 0 (w.heap.size) (.slice (some ⟨b2, 0, none⟩) 0 0) (0) ([]) 33 24 (⟨g, 0, none⟩) (k) (cap) (hT)); rfl; rfl; rfl; rfl; rfl; (first | exact .inl (Nat.le_refl _) | exact .inl (by assumption) | exact .inr (by assumption)); (first | exact M.size | (have hq := M.size; omega)); exact HLT.out; exact HNT.out _ M.below; exact HON2.out; exact und_slh; exact inf_elh; rfl; (simp only [maxLen]; omega); omega; clear M; (try clear C); intro v2 w9 far_v2 M; simp only [List.set_cons_zero, List.set_cons_succ, entBlk, entT, List.getElem?_cons_zero, List.getElem?_cons_succ] at M; obtain ⟨pp_v2, cap_v2, rfl⟩ := own_form (M.row 0 rfl); have C := M.ruleAll; simp only [Go.Proofs.Yteonahoboligdaa.ruleAll] at C); simp only [Nat.zero_add] at M; have C := M.ruleAll; simp only [Go.Proofs.Yteonahoboligdaa.ruleAll] at C) | ((with_reducible apply wpM_appx M 39 0 (w.heap.size) (.slice pp_v2 k cap_v2) (k) ([] ++ hT) 33 24 (⟨g3, 0, none⟩) (1 + (L.length - k)) (_) ([Value.slice (some ⟨gl, 0, none⟩) l.length cl] ++ hD)); rfl; rfl; rfl; rfl; rfl; (first | exact .inl (Nat.le_refl _) | exact .inl (by assumption) | exact .inr (by assumption)); (first | exact M.size | (have hq := M.size; omega)); exact (by rw [List.length_append, HLD.out]; rfl); exact (news_rd (M.rd 1 rfl) (by rw [List.length_append, HLD.out]; rfl)); exact (one_app HON1.out); exact und_slh; exact inf_elh; rfl; (simp only [maxLen]; omega); omega; clear M; (try clear C); intro v3 w9 far_v3 M; simp only [List.set_cons_zero, List.set_cons_succ, entBlk, entT, List.getElem?_cons_zero, List.getElem?_cons_succ] at M; obtain ⟨pp_v3, cap_v3, rfl⟩ := own_form (M.row 0 rfl); have C := M.ruleAll; simp only [Go.Proofs.Yteonahoboligdaa.ruleAll] at C))
          have hrow := M.row 0 rfl
          go_ret
          obtain ⟨g', cap', e', _, _, hr'⟩ := own_rds hrow (by omega)
          cases e'
          have hN : k + (1 + (L.length - k)) = (L.take k ++ l :: L.drop k).length := by simp only [List.length_append, List.length_cons, List.length_take, List.length_drop]; omega
          have hcp := (own_cap hrow).1
          rw [HP.out]
          refine LstPost.mk (hd := hd.take k ++ .slice (some ⟨gl, 0, none⟩) l.length cl :: hd.drop k) (by rw [← hN]; rfl) (by rw [← hN]; exact hcp) ⟨?_, ?_⟩ M.below
          · rw [show (L.take k ++ l :: L.drop k).length = (k + (1 + (L.length - k))) * 1 by rw [← hN, Nat.mul_one], HD1.out, HD2.out]
            exact hr'
          · exact (HLST.out.lat M.below).2.ins ⟨gl, cl, rfl, HRL.out _ M.below⟩ k
    · obtain rfl : k = L.length := by omega
      have HP0 := putL_at hk HB.out (fun y hy => by rw [List.getElem?_eq_none (Nat.le_refl _)] at hy; cases hy)
      have HP := Hid2.mk (HP0.trans (if_neg (fun e => by rw [List.getElem?_eq_none (Nat.le_refl _)] at e; cases e)))
      clear HP0 HB
      have hge : ¬ ((L.length : Int) < (L.length : Int)) := by omega
      have hsl1 := fun w1 => sl_lo g L.length cap L.length (Nat.le_refl _) hcap w1
      have hsl2 := fun w1 => sl_hi g L.length cap L.length (by omega) w1
      have hnw := HLST.out.news (k := L.length) (ad := adr g L.length cap) (by unfold adr; by_cases h : cap = L.length; exact .inl (by omega); exact .inr (if_neg h))
      have HNW := Hid2.mk (fun w1 (hb : Below w.heap.size w w1) => (HLST.out.lat hb).news (k := L.length) (ad := adr g L.length cap) (by unfold adr; by_cases h : cap = L.length; exact .inl (by omega); exact .inr (if_neg h)))
      have HNT := Hid2.mk (fun w1 (hb : Below w.heap.size w w1) => (HLST.out.lat hb).newsT L.length)
      have hon1 : ∀ u ∈ hd.drop L.length, u.oneCell' = true := fun u hu => HLST.out.one u (List.mem_of_mem_drop hu)
      have hon2 : ∀ u ∈ hd.take L.length, u.oneCell' = true := fun u hu => HLST.out.one u (List.mem_of_mem_take hu)
      have hld : (hd.drop L.length).length = 0 := by rw [List.length_drop, HLST.out.2.1]; omega
      have hlt2 : (hd.take L.length).length = L.length := by rw [List.length_take, HLST.out.2.1]; omega
      have HON1 := Hid2.mk hon1
      have HON2 := Hid2.mk hon2
      have HLD := Hid2.mk hld
      have HLT := Hid2.mk hlt2
      generalize hadr : adr g L.length cap = ad at *
      clear hadr hnw hon1 hon2 hld hlt2
      generalize hdr1 : hd.drop L.length = hD at *
      generalize hdr2 : hd.take L.length = hT at *
      have HD1 := Hid2.mk hdr1
      have HD2 := Hid2.mk hdr2
      clear hdr1 hdr2
      go_wp2_with (first | (((with_reducible apply wpM_bsl' M 39 1 33 ([(0, .slice (some ⟨gl, 0, none⟩) l.length cl)]) (#[.slice (some ⟨gl, 0, none⟩) l.length cl])); rfl; rfl; rfl; exact bsl_h1 _ _ _; clear M; (try clear C); intro b1 w9 h_b1 M; have C := M.ruleAll; simp only [Go.Proofs.Yteonahoboligdaa.ruleAll] at C); have M9 := M.asRow 0 rfl w.heap.size 1 1 h_b1 rfl (by decide); simp only [List.set_cons_zero] at M9; clear M; (try clear C); have M := M9; clear M9; have C := M.ruleAll; simp only [Go.Proofs.Yteonahoboligdaa.ruleAll] at C) | (((with_reducible apply wpM_bsl' M 39 0 33 ([]) (#[])); rfl; rfl; rfl; exact bsl_h0; clear M; (try clear C); intro b2 w9 h_b2 M; have C := M.ruleAll; simp only [Go.Proofs.Yteonahoboligdaa.ruleAll] at C); have M9 := M.asRow 0 rfl w.heap.size 0 1 h_b2 rfl (Nat.zero_le _); simp only [List.set_cons_zero] at M9; clear M; (try clear C); have M := M9; clear M9; have C := M.ruleAll; simp only [Go.Proofs.Yteonahoboligdaa.ruleAll] at C) | (((with_reducible apply wpM_appx M 39 0 (w.heap.size) (.slice (some ⟨b1, 0, none⟩) 1 1) (1) ([.slice (some ⟨gl, 0, none⟩) l.length cl]) 33 24 (ad) (0) (cap - L.length) (hD)); rfl; rfl; rfl; rfl; rfl; (first | exact .inl (Nat.le_refl _) | exact .inl (by assumption) | exact .inr (by assumption)); (first | exact M.size | (have hq := M.size; omega)); exact HLD.out; exact HNW.out _ M.below; exact HON1.out; exact und_slh; exact inf_elh; rfl; (simp only [maxLen]; omega); omega; clear M; (try clear C); intro vr w9 far_vr M; simp only [List.set_cons_zero, List.set_cons_succ, entBlk, entT, List.getElem?_cons_zero, List.getElem?_cons_succ] at M; obtain ⟨pp_vr, cap_vr, rfl⟩ := own_form (M.row 0 rfl); have C := M.ruleAll; simp only [Go.Proofs.Yteonahoboligdaa.ruleAll] at C); obtain ⟨g3, cap3, e3, M8⟩ := M.rowRd 0 rfl (by omega) (fun j => ([Value.slice (some ⟨gl, 0, none⟩) l.length cl] ++ hD).getD j undef) (fun j hj => rfl); cases e3; simp only [List.set_cons_zero] at M8; clear M; (try clear C); have M := M8; clear M8; have C := M.ruleAll; simp only [Go.Proofs.Yteonahoboligdaa.ruleAll] at C) | (((with_reducible apply wpM_appx M 39 0 (w.heap.size) (.slice (some ⟨b2, 0, none⟩) 0 0) (0) ([]) 33 24 (⟨g, 0, none⟩) (L.length) (cap) (hT)); rfl; rfl; rfl; rfl; rfl; (first | exact .inl (Nat.le_refl _) | exact .inl (by assumption) | exact .inr (by assumption)); (first | exact M.size | (have hq := M.size; omega)); exact HLT.out; exact HNT.out _ M.below; exact HON2.out; exact und_slh; exact inf_elh; rfl; (simp only [maxLen]; omega); omega; clear M; (try clear C); intro v2 w9 far_v2 M; simp only [List.set_cons_zero, List.set_cons_succ, entBlk, entT, List.getElem?_cons_zero, List.getElem?_cons_succ] at M; obtain ⟨pp_v2, cap_v2, rfl⟩ := own_form (M.row 0 rfl); have C := M.ruleAll; simp only [Go.Proofs.Yteonahoboligdaa.ruleAll] at C); simp only [Nat.zero_add] at M; have C := M.ruleAll; simp only [Go.Proofs.Yteonahoboligdaa.ruleAll] at C) | ((with_reducible apply wpM_appx M 39 0 (w.heap.size) (.slice pp_v2 L.length cap_v2) (L.length) ([] ++ hT) 33 24 (⟨g3, 0, none⟩) (1 + 0) (_) ([Value.slice (some ⟨gl, 0, none⟩) l.length cl] ++ hD)); rfl; rfl; rfl; rfl; rfl; (first | exact .inl (Nat.le_refl _) | exact .inl (by assumption) | exact .inr (by assumption)); (first | exact M.size | (have hq := M.size; omega)); exact (by rw [List.length_append, HLD.out]; rfl); exact (news_rd (M.rd 1 rfl) (by rw [List.length_append, HLD.out]; rfl)); exact (one_app HON1.out); exact und_slh; exact inf_elh; rfl; (simp only [maxLen]; omega); omega; clear M; (try clear C); intro v3 w9 far_v3 M; simp only [List.set_cons_zero, List.set_cons_succ, entBlk, entT, List.getElem?_cons_zero, List.getElem?_cons_succ] at M; obtain ⟨pp_v3, cap_v3, rfl⟩ := own_form (M.row 0 rfl); have C := M.ruleAll; simp only [Go.Proofs.Yteonahoboligdaa.ruleAll] at C))
      have hrow := M.row 0 rfl
      go_ret
      obtain ⟨g', cap', e', _, _, hr'⟩ := own_rds hrow (by omega)
      cases e'
      have hN : L.length + (1 + 0) = (L.take L.length ++ l :: L.drop L.length).length := by simp only [List.length_append, List.length_cons, List.length_take, List.length_drop]; omega
      have hcp := (own_cap hrow).1
      rw [HP.out]
      refine LstPost.mk (hd := hd.take L.length ++ .slice (some ⟨gl, 0, none⟩) l.length cl :: hd.drop L.length) (by rw [← hN]; rfl) (by rw [← hN]; exact hcp) ⟨?_, ?_⟩ M.below
      · rw [show (L.take L.length ++ l :: L.drop L.length).length = (L.length + (1 + 0)) * 1 by rw [← hN, Nat.mul_one], HD1.out, HD2.out]
        exact hr'
      · exact (HLST.out.lat M.below).2.ins ⟨gl, cl, rfl, HRL.out _ M.below⟩ L.length
end Go.Proofs.Yteonahoboligdaa
