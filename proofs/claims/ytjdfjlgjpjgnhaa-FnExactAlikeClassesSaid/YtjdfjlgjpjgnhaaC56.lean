/- The law on classes of alike loops: its walk. -/
import Derived.Test.YtjdfjlgjpjgnhaaC55
namespace Go.Proofs.Ytjdfjlgjpjgnhaa
set_option linter.unusedSimpArgs false
set_option linter.unusedVariables false
open Go Go.RowKit

/-- Some entries are told as one thing that holds while they do. -/
theorem Mm.fold {D : Nat → Prop} {w0 w : World} {A L : List Ent} {R : World → Prop} (M : Mm D w0 w (A ++ L)) (hR : ∀ w', (∀ x ∈ A, x.holds w') → R w') : Mm D w0 w (.res (fun k => ∃ x ∈ A, x.place k) R :: L) := by
  have hp := List.pairwise_append.1 M.pair
  refine .of_pair M.kept (fun x hx => ?_) (List.pairwise_cons.2 ⟨fun y hy b h1 h2 => ?_, hp.2.1⟩)
  · rcases List.mem_cons.1 hx with rfl | hx
    · refine ⟨fun k ⟨x, hx, hk⟩ => Ent.lt (M.mem (List.mem_append_left _ hx)) hk, fun E w' hk hd => hR w' fun x hx => Ent.holds_of (M.mem (List.mem_append_left _ hx)) hk fun b hb => hd b ⟨x, hx, hb⟩⟩
    · exact M.mem (List.mem_append_right _ hx)
  · obtain ⟨x, hx, hb⟩ := h1
    exact hp.2.2 x hx y hy b hb h2
theorem Mm.swap {D : Nat → Prop} {w0 w : World} (A B : List Ent) (M : Mm D w0 w (A ++ B)) : Mm D w0 w (B ++ A) := M.perm List.perm_append_comm
theorem cls_new {w w' : World} {v : Value} {vs : List Value} {cls : List (List Nat)} {eo ei : Nat} (M : Mm no w w' (.row w.heap.size v cls.length vs eo 1 :: clsE w.heap.size ei vs cls)) : ∀ x ∈ Ent.row w.heap.size v cls.length vs eo 1 :: clsE w.heap.size ei vs cls, ∀ b, x.place b → w.heap.size ≤ b := fun x hx b hb => by
  rcases List.mem_cons.1 hx with rfl | h
  · exact (World.ownsRow.lt (M.row 0 rfl) b hb).1
  · obtain ⟨i, hi⟩ := List.getElem?_of_mem h
    have h2 := M.ents (i + 1) x (by rw [List.getElem?_cons_succ]; exact hi)
    simp only [clsE, List.getElem?_zipWith] at hi
    split at hi
    · rename_i v' c' _ _
      have e := Option.some.inj hi
      subst e
      exact (World.ownsRow.lt h2 b hb).1
    · cases hi
theorem clsOut_le (ls : List Sqr) : (clsOut ls).length ≤ ls.length := by
  unfold clsOut; split
  · exact clsTo_le _
  · simp
theorem clsOut_size (ls : List Sqr) : ∀ c ∈ clsOut ls, c.length ≤ ls.length := by
  unfold clsOut; split
  · exact fun c hc => clsTo_size _ c hc
  · intro c hc; cases hc

set_option maxRecDepth 100000 in
set_option maxHeartbeats 4000000 in
theorem lawAlike_any (ls : List Sqr) (hm : ls.length ≤ maxLen) (hby : ∀ q ∈ ls, Byt2 q.t) (w : World) (p : Option Addr) (cap : Nat) (hr : rdp w p (ls.length * 101) (fun j => (slC ls).getD j undef)) :
    Calls Try.prog 8 #[.slice p ls.length cap] w fun e w' => e = .returned (.bool true) ∧ Below w.heap.size w w' := by
  have M := Mm.start no w
  have HS := fun w1 => szSquareS_any ls.length hm w1 p cap 1048576 (by omega) (by omega)
  have R1 := Hid2.mk (fun w1 (hb : Below w.heap.size w w1) => hr.later hb)
  have HBY := Hid2.mk hby
  clear hr hby
  go_enter Try.func8, Try.ntmps8
  go_wp2_with (first | (go_at_call 31; fail))
  refine (HS _).mono ?_
  rintro e w1 ⟨r, rfl, hr, hb⟩
  have M9 := M.later hb
  clear M
  have M := M9
  clear M9 hb HS
  by_cases hneg : r < 0
  · go_wp2
    go_ret
    exact ⟨rfl, M.below⟩
  · obtain ⟨_, q1⟩ := hr (by omega)
    have hn : ls.length ≤ 1048576 := by omega
    have HT := fun w1 (hb : Below w.heap.size w w1) => toSquareS_any ls hn w1 p cap (R1.out w1 hb)
    have HSP := Hid2.mk (fun w1 g (h : rds w1 g (ls.length * 101) (fun j => (slC ls).getD j undef)) => specAlikeClasses_any ls hn HBY.out w1 g ls.length h)
    have HIM := Hid2.mk (fun w1 g (h : rds w1 g (ls.length * 101) (fun j => (slC ls).getD j undef)) => implAlikeClasses_any ls hn HBY.out w1 g ls.length h)
    have hcl : (clsOut ls).length ≤ 1048576 := Nat.le_trans (clsOut_le ls) hn
    have hcs : ∀ c ∈ clsOut ls, c.length ≤ 1048576 := fun c hc => Nat.le_trans (clsOut_size ls c hc) hn
    have HEQ := Hid2.mk (fun w1 v1 v2 (h1 : ClsHere w1 v1 (clsOut ls)) (h2 : ClsHere w1 v2 (clsOut ls)) => eqInt64SS_any (clsOut ls) hcl hcs w1 v1 v2 h1 h2)
    have HHD := Hid2.mk (fun w1 v (h : MkHere w1 v 1 (clsOut ls)) => heldInt64SS_any (clsOut ls) hcl hcs v 1 (by omega) (by omega) w1 h)
    have HMK := Hid2.mk (fun vs (hvl : vs.length = (clsOut ls).length) B v L w1 (hB : w.heap.size ≤ B) M => markInt64SS_any (clsOut ls) vs hvl hcl hcs B v 1 (by omega) (by omega) L w w1 hB M)
    unfold ClsPost at HSP HIM
    generalize clsOut ls = cls at HSP HIM HEQ HHD HMK
    generalize listCode ls = d at HSP HIM
    have hdd : (d == d) = true := by simp
    have HN := Hid2.mk hn
    clear hr hcl hcs q1 hn
    -- the reference
    go_wp2_with (first | (go_at_call 33; fail))
    refine (HT _ M.below).mono ?_
    rintro e w1 ⟨g1, rfl, hg1, cs1, hs1, M'⟩
    have M9 := M.join1 M' (new_box hg1)
    clear M M'
    have M := M9
    clear M9
    go_wp2_with (first | (go_at_call 32; fail))
    refine (HSP.out _ _ ((M.box 0 rfl).rds hs1.2)).mono ?_
    rintro e w1 ⟨vw, rfl, vsw, hvw, M'⟩
    have M9 := ((M.drop 0).join M' (cls_new M')).fold (R := fun w' => ClsHere w' vw cls) fun w' h => ClsHere.of hvw h
    clear M M'
    have M := M9
    clear M9 hs1 hg1
    generalize (fun k => ∃ x ∈ Ent.row _ vw cls.length vsw 69 1 :: clsE _ 2 vsw cls, x.place k) = DW at M
    have M9 : Mm no w w1 [.res DW fun w' => ClsHere w' vw cls] := M
    clear M
    have M := M9
    clear M9
    -- the argument's copy and the program
    go_wp2_with (first | (go_at_call 33; fail))
    refine (HT _ M.below).mono ?_
    rintro e w4 ⟨g0, rfl, hg0, cs0, hs0, M'⟩
    have M9 := M.join1 M' (new_box hg0)
    have hg09 : w.heap.size ≤ g0 := by have := M.size; omega
    clear M M'
    have M := M9
    clear M9 hg0
    go_wp2_with (first | (go_at_call 34; fail))
    refine (HIM.out _ _ ((M.box 0 rfl).rds hs0.2)).mono ?_
    rintro e w5 ⟨vg, rfl, vsg, hvg, M'⟩
    have M9 := M.join M' (cls_new M')
    have hBB := M.size
    clear M M'
    generalize w4.heap.size = B at M9 hBB
    have M : Mm no w w5 (.row B vg cls.length vsg 69 1 :: (clsE B 2 vsg cls ++ [.box g0 cs0 30, .res DW fun w' => ClsHere w' vw cls])) := M9
    clear M9
    -- the first comparison
    have FG : ∀ {w'} {T : List Ent}, Mm no w w' (.row B vg cls.length vsg 69 1 :: (clsE B 2 vsg cls ++ T)) → ClsHere w' vg cls := fun M => ClsHere.of hvg fun x hx => M.mem (by
      rcases List.mem_cons.1 hx with rfl | h
      · exact List.mem_cons_self ..
      · exact List.mem_cons_of_mem _ (List.mem_append_left _ h))
    have FW : ∀ {w'} {A T : List Ent}, Mm no w w' (A ++ (T ++ [.res DW fun w' => ClsHere w' vw cls])) → ClsHere w' vw cls := fun {w'} {A T} M => Ent.res_now (D := DW) (M.mem (List.mem_append_right _ (List.mem_append_right _ (List.mem_cons_self ..))))
    go_wp2_with (first | (go_at_call 35; fail))
    refine (HEQ.out _ _ _ (FG M) (FW (A := .row B vg cls.length vsg 69 1 :: clsE B 2 vsg cls) (T := [.box g0 cs0 30]) M)).mono ?_
    rintro e w6 ⟨rfl, hb⟩
    have M9 := M.later hb
    clear M
    have M := M9
    clear M9 hb
    go_wp2_with (first | (go_at_call 33; fail))
    refine (HT _ M.below).mono ?_
    rintro e w7 ⟨g5, rfl, hg5, cs5, hs5, M'⟩
    have M9 := M.join1 M' (new_box hg5)
    clear M M'
    have M := M9
    clear M9 hg5
    have hx0 : ∀ {w'} {A T : List Ent}, Mm no w w' (A ++ (.box g0 cs0 30 :: T)) → rds w' g0 (ls.length * 101) (fun j => (slC ls).getD j undef) := fun M => ((Mm.suffix M).box 0 rfl).rds hs0.2
    have HE := eqSquareS_any ls (by have := HN.out; omega) w7 (some ⟨g0, 0, none⟩) (some ⟨g5, 0, none⟩) ls.length ls.length (hx0 (A := .box g5 cs5 30 :: .row B vg cls.length vsg 69 1 :: clsE B 2 vsg cls) M).rdq ((M.box 0 rfl).rds hs5.2).rdq
    clear hx0
    go_wp2_with (first | (go_at_call 36; fail))
    refine HE.mono ?_
    rintro e w8 ⟨rfl, hb⟩
    have M9 := (M.later hb).drop 0
    clear M HE hs5
    have M : Mm no w w8 (.row B vg cls.length vsg 69 1 :: (clsE B 2 vsg cls ++ [.box g0 cs0 30, .res DW fun w' => ClsHere w' vw cls])) := M9
    clear M9 hb
    -- the argument's copy is marked
    have M9 : Mm no w w8 (.box g0 cs0 30 :: .res DW (fun w' => ClsHere w' vw cls) :: (.row B vg cls.length vsg 69 1 :: clsE B 2 vsg cls)) := Mm.swap (Ent.row B vg cls.length vsg 69 1 :: clsE B 2 vsg cls) [Ent.box g0 cs0 30, Ent.res DW fun w' => ClsHere w' vw cls] M
    clear M
    have M := M9
    clear M9
    have HMS := markSquareS_any g0 ls.length 30 cs0 hs0.1 HN.out ls.length 1 (by omega) (by omega) w8 (M.box 0 rfl)
    go_wp2_with (first | (go_at_call 37; fail))
    refine HMS.mono ?_
    rintro e w9 ⟨rfl, hgr, cs9, hb9⟩
    have M9 := M.wrote 0 rfl (.inl hg09) hgr hb9
    clear M HMS
    have M10 : Mm no w w9 ((.row B vg cls.length vsg 69 1 :: clsE B 2 vsg cls) ++ [.box g0 cs9 30, .res DW fun w' => ClsHere w' vw cls]) := Mm.swap [Ent.box g0 cs9 30, Ent.res DW fun w' => ClsHere w' vw cls] (Ent.row B vg cls.length vsg 69 1 :: clsE B 2 vsg cls) M9
    have M : Mm no w w9 (.row B vg cls.length vsg 69 1 :: (clsE B 2 vsg cls ++ [.box g0 cs9 30, .res DW fun w' => ClsHere w' vw cls])) := M10
    clear M9 M10 hgr hb9 hs0
    have hk0 : ¬ ((1 : Int) + (ls.length : Int) < 0) := by omega
    go_wp2_with (first | (go_at_call 35; fail))
    refine (HEQ.out _ _ _ (FG M) (FW (A := .row B vg cls.length vsg 69 1 :: clsE B 2 vsg cls) (T := [.box g0 cs9 30]) M)).mono ?_
    rintro e w10 ⟨rfl, hb⟩
    have M9 := M.later hb
    clear M
    have M := M9
    clear M9 hb
    -- what was handed back is marked, and holds
    go_wp2_with (first | (go_at_call 38; fail))
    refine (HMK.out vsg hvg B vg [.box g0 cs9 30, .res DW fun w' => ClsHere w' vw cls] w10 hBB M).mono ?_
    rintro e w11 ⟨rfl, M9⟩
    clear M
    have M := M9
    clear M9
    have hq0 : ¬ ((1 : Int) + ((tot cls : Nat) : Int) < 0) := by omega
    have hqq : ((1 : Int) + ((tot cls : Nat) : Int) == 1 + ((tot cls : Nat) : Int)) = true := by simp
    go_wp2_with (first | (go_at_call 39; fail))
    refine (HHD.out _ _ (MkHere.of hvg M)).mono ?_
    rintro e w12 ⟨rfl, hb⟩
    have M9 := M.later hb
    clear M
    have M := M9
    clear M9 hb
    -- once more
    go_wp2_with (first | (go_at_call 33; fail))
    refine (HT _ M.below).mono ?_
    rintro e w13 ⟨g7, rfl, hg7, cs7, hs7, M'⟩
    have M9 := M.join1 M' (new_box hg7)
    clear M M'
    have M := M9
    clear M9 hg7
    go_wp2_with (first | (go_at_call 34; fail))
    refine (HIM.out _ _ ((M.box 0 rfl).rds hs7.2)).mono ?_
    rintro e w14 ⟨vh, rfl, vsh, hvh, M'⟩
    have FH : ClsHere w14 vh cls := ClsHere.of hvh fun x hx => M'.mem hx
    have M9 := (M.later M'.below).drop 0
    clear M M' hs7
    have M : Mm no w w14 (.row B vg cls.length vsg 69 1 :: (clsM B 2 vsg (mkdTo 1 cls cls.length) ++ [.box g0 cs9 30, .res DW fun w' => ClsHere w' vw cls])) := M9
    clear M9
    go_wp2_with (first | (go_at_call 35; fail))
    refine (HEQ.out _ _ _ FH (FW (A := .row B vg cls.length vsg 69 1 :: clsM B 2 vsg (mkdTo 1 cls cls.length)) (T := [.box g0 cs9 30]) M)).mono ?_
    rintro e w15 ⟨rfl, hb⟩
    have M9 := M.later hb
    clear M FH
    have M := M9
    clear M9 hb
    go_wp2_with (first | (go_at_call 39; fail))
    refine (HHD.out _ _ (MkHere.of hvg M)).mono ?_
    rintro e w16 ⟨rfl, hb⟩
    have M9 := M.later hb
    clear M
    have M := M9
    clear M9 hb
    go_wp2
    go_ret
    exact ⟨rfl, M.below⟩
end Go.Proofs.Ytjdfjlgjpjgnhaa
