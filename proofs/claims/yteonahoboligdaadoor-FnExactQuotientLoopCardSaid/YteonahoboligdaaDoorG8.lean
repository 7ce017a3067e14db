/- The list of all subloops; the reference's AllSubloops; lists of sets, for the program: contracts. -/
import Derived.Test.YteonahoboligdaaDoorG6
import Derived.Test.YteonahoboligdaaDoorG7
import Derived.Test.YteonahoboligdaaDoorV1
import Derived.Test.YteonahoboligdaaDoorC4
import Derived.Test.YteonahoboligdaaDoorC8
namespace Go.Proofs.YteonahoboligdaaDoor
set_option linter.unusedSimpArgs false
set_option linter.unusedVariables false
open Go Go.RowKit

open Classical in
/-- All subloops, in order. -/
noncomputable def allL (n : Nat) (t : Nat → Nat → Nat) : List (List Nat) := ((List.range 1024).filter fun m => decide (SubL n t m)).foldl (fun L m => putL L (mL m)) []
theorem fold_put : ∀ (l : List Nat) (L : List (List Nat)), Srt L → Srt (l.foldl (fun L m => putL L (mL m)) L) ∧ ∀ x, x ∈ l.foldl (fun L m => putL L (mL m)) L ↔ x ∈ L ∨ ∃ m ∈ l, x = mL m
  | [], L, h => ⟨h, fun x => by simp⟩
  | a :: l, L, h => by
    obtain ⟨h1, h2⟩ := fold_put l (putL L (mL a)) (putL_srt h)
    refine ⟨h1, fun x => ?_⟩
    rw [List.foldl_cons, h2, putL_mem]
    constructor
    · rintro ((h | h) | ⟨m, hm, e⟩)
      · exact .inl h
      · exact .inr ⟨a, List.mem_cons_self .., h⟩
      · exact .inr ⟨m, List.mem_cons_of_mem _ hm, e⟩
    · rintro (h | ⟨m, hm, e⟩)
      · exact .inl (.inl h)
      · rcases List.mem_cons.1 hm with rfl | h3
        · exact .inl (.inr e)
        · exact .inr ⟨m, h3, e⟩
theorem allL_srt (n : Nat) (t : Nat → Nat → Nat) : Srt (allL n t) := (fold_put _ [] List.Pairwise.nil).1
theorem allL_mem {n : Nat} {t : Nat → Nat → Nat} {x : List Nat} : x ∈ allL n t ↔ ∃ m, SubL n t m ∧ x = mL m := by
  classical
  unfold allL
  rw [(fold_put _ [] List.Pairwise.nil).2]
  constructor
  · rintro (h | ⟨m, hm, e⟩)
    · cases h
    · exact ⟨m, of_decide_eq_true (List.mem_filter.1 hm).2, e⟩
  · rintro ⟨m, hm, e⟩
    exact .inr ⟨m, List.mem_filter.2 ⟨List.mem_range.2 hm.1, decide_eq_true hm⟩, e⟩
theorem allL_eq {n : Nat} {t : Nat → Nat → Nat} {L : List (List Nat)} (h : Srt L) (hm : ∀ x, x ∈ L ↔ ∃ m, SubL n t m ∧ x = mL m) : L = allL n t := srt_eq h (allL_srt n t) fun x => by rw [hm, allL_mem]
theorem found_eq {n : Nat} {t : Nat → Nat → Nat} (hs : IsSq (n : Int) t) {L : List (List Nat)} (F : Found n t L.length L) : L = allL n t := allL_eq F.srt fun x => ⟨fun h => F.sub x h, fun ⟨m, hm, e⟩ => e ▸ F.done hs hm⟩
/-- The same as bits. -/
noncomputable def subs (n : Nat) (t : Nat → Nat → Nat) : List Nat := (allL n t).map lM
theorem subs_mem {n : Nat} {t : Nat → Nat → Nat} {m : Nat} : m ∈ subs n t ↔ SubL n t m := by
  unfold subs
  rw [List.mem_map]
  constructor
  · rintro ⟨x, hx, rfl⟩
    obtain ⟨m, hm, rfl⟩ := allL_mem.1 hx
    rw [lM_mL hm.1]; exact hm
  · exact fun hm => ⟨mL m, allL_mem.2 ⟨m, hm, rfl⟩, lM_mL hm.1⟩
theorem subs_lists (n : Nat) (t : Nat → Nat → Nat) : (subs n t).map mL = allL n t := by
  unfold subs
  rw [List.map_map]
  conv => rhs; rw [← List.map_id (allL n t)]
  refine List.map_congr_left fun x hx => ?_
  obtain ⟨m, hm, rfl⟩ := allL_mem.1 hx
  show mL (lM (mL m)) = mL m
  rw [lM_mL hm.1]
theorem subs_len (n : Nat) (t : Nat → Nat → Nat) : (subs n t).length = (allL n t).length := List.length_map ..
theorem allL_found (n : Nat) (t : Nat → Nat → Nat) (hs : IsSq (n : Int) t) : Found n t (allL n t).length (allL n t) where
  srt := allL_srt n t
  sub := fun x hx => allL_mem.1 hx
  one := allL_mem.2 ⟨_, genM_subL hs (zero_bits n), rfl⟩
  all := fun j m hj hg hm x hx hb => by
    obtain ⟨m', hm', e⟩ := allL_mem.1 (List.mem_of_getElem? hg)
    have := mL_inj hm hm'.1 e
    subst this
    exact allL_mem.2 ⟨_, genM_subL hs (more_bits hm'.2.2 hx), rfl⟩
theorem allL_len (n : Nat) (t : Nat → Nat → Nat) (hs : IsSq (n : Int) t) : (allL n t).length ≤ 1024 := (allL_found n t hs).len
theorem allL_small {n : Nat} {t : Nat → Nat → Nat} : ∀ x ∈ allL n t, x.length ≤ 10 := fun x hx => by
  obtain ⟨m, _, rfl⟩ := allL_mem.1 hx
  exact mL_le m

/-! ### A list of lists that is read, as the laws tell it -/
theorem Lst.cls {w : World} {g cap : Nat} {hd : List Value} {L : List (List Nat)} (H : Lst w g hd L) : ClsHere w (.slice (some ⟨g, 0, none⟩) L.length cap) L :=
  ⟨_, cap, hd, rfl, H.2.1, H.1.rdq, fun k hk => by
    obtain ⟨gi, ci, e, _, hr⟩ := H.cell (List.getElem?_eq_getElem hk)
    refine ⟨some ⟨gi, 0, none⟩, ci, by rw [List.getD_eq_getElem?_getD, e]; rfl, hr.rdq.congr fun j hj => ?_⟩
    unfold i64F intF elI toI
    rw [List.getD_eq_getElem?_getD, List.getD_eq_getElem?_getD, List.getElem?_map, List.getElem?_eq_getElem hj]; rfl⟩
theorem ClsHere.nil (w : World) (c : Nat) : ClsHere w (.slice none 0 c) [] := ⟨none, c, [], rfl, rfl, (fun h => absurd h (Nat.lt_irrefl _)), fun k hk => absurd hk (Nat.not_lt_zero k)⟩
/-- What AllSubloops hands back. -/
noncomputable def asCode (n : Int) (t : Nat → Nat → Nat) : Int := if isLp n t = true then 0 else 1
noncomputable def asL (n : Int) (t : Nat → Nat → Nat) : List (List Nat) := if isLp n t = true then allL n.toNat t else []
theorem lp_natG {n : Int} {t : Nat → Nat → Nat} (h : isLp n t = true) : ∃ N : Nat, n = N ∧ IsSq (N : Int) t := by
  have hs := (isLp_true.1 h).sq
  have h1 : (1 : Int) ≤ n := hs.lo
  exact ⟨n.toNat, by omega, by rw [show ((n.toNat : Nat) : Int) = n by omega]; exact hs⟩
theorem asL_len (n : Int) (t : Nat → Nat → Nat) : (asL n t).length ≤ 1048576 := by
  unfold asL
  split
  · rename_i h
    obtain ⟨N, rfl, hs⟩ := lp_natG h
    exact Nat.le_trans (allL_len _ t hs) (by decide)
  · exact Nat.zero_le _
theorem asL_small (n : Int) (t : Nat → Nat → Nat) : ∀ c ∈ asL n t, c.length ≤ 1048576 := by
  unfold asL
  split
  · exact fun c hc => Nat.le_trans (allL_small c hc) (by decide)
  · intro c hc; cases hc
def AsPost (cls : List (List Nat)) (code : Int) (w : World) (e : Ending) (w' : World) : Prop := ∃ v, e = .returned (.tuple #[v, .int .i64 code]) ∧ ClsHere w' v cls ∧ Below w.heap.size w w'

/-! ### Sets as lists, for the program -/
theorem ints_i64N (l : List Nat) : ints l = i64N l := rfl
theorem und_slst : Tryd.prog.underlying 51 = some (.slice 49) := by kernel_rfl
theorem flat_sl (p : Option Addr) (n c : Nat) : flat #[.slice p n c] := fun u hu => by
  have : u = .slice p n c := by simpa using hu
  subst this; rfl
set_option maxRecDepth 100000 in
set_option maxHeartbeats 2000000 in
theorem listsOf_any (ms : List Nat) (hlen : ms.length ≤ 2000) (hms : ∀ m ∈ ms, m < 1024) (w : World) (p : Option Addr) (cap : Nat) (hr : rdq w p ms.length (i64F ms)) :
    Calls Tryd.prog 26 #[.slice p ms.length cap] w fun e w' => ∃ v, e = .returned v ∧ ClsRes w.heap.size w w' v (ms.map mL) 26 2 := by
  have M := Mm.start no w
  have FR := Hid2.mk (fun w1 (hb : Below w.heap.size w w1) => hr.later hb)
  have HMS := Hid2.mk hms
  have HLI := Hid2.mk (fun m (hm : m < 1024) w1 => list_anyD m hm w1)
  clear hr hms
  go_enter Tryd.func26, Tryd.ntmps26
  go_wp2_with (first | ((with_reducible apply wpM_bsl' M 27 0 26 ([]) (#[])); rfl; rfl; rfl; exact bsl_h0; clear M; (try clear C); intro bo w9 h_bo M; have C := M.ruleAll; simp only [Go.Proofs.YteonahoboligdaaDoor.ruleAll] at C))
  have M9 := M.asRow 0 rfl w.heap.size 0 1 h_bo rfl (Nat.zero_le _)
  simp only [List.set_cons_zero, List.set_cons_succ] at M9
  clear M; (try clear C)
  go_loopw [9, 3, 5] (fun i o _ wr => ∃ (k : Nat) (v : Value) (vs : List Value), k ≤ ms.length ∧ i = .int .i64 (k : Int) ∧ o = v ∧ vs.length = k ∧ Mm no w wr (.row w.heap.size v k vs 26 1 :: clsE w.heap.size 2 vs ((ms.take k).map mL))) (fun i _ _ _ => ms.length - (intOf i).toNat)
  case atStart => exact ⟨0, _, [], by omega, rfl, rfl, rfl, M9⟩
  case round =>
    clear M9
    obtain ⟨k, v, vs, hk, rfl, rfl, hvs, M9⟩ := hrel
    obtain ⟨pp, cc, rfl⟩ := own_form (M9.row 0 rfl)
    have M := M9
    clear M9
    by_cases hlt : k < ms.length
    · have hlt' : (k : Int) < (ms.length : Int) := by omega
      obtain ⟨g, rfl, hrd⟩ := FR.out _ M.below (by omega)
      have e1 := List.getElem?_eq_getElem hlt
      have hm := HMS.out _ (List.getElem_mem hlt)
      have htk : ms.take (k + 1) = ms.take k ++ [ms[k]] := by rw [List.take_succ_eq_append_getElem hlt]
      generalize ms[k] = m at e1 hm htk
      have hd1 := hrd.at_ k hlt
      rw [i64F_at e1] at hd1
      have hm' : (m : Int) < 1024 := by omega
      have HL1 := Hid2.mk (HLI.out m hm)
      have HTK := Hid2.mk (show (ms.take (k + 1)).map mL = (ms.take k).map mL ++ [mL m] by rw [htk, List.map_append]; rfl)
      have hcl : vs.length = ((ms.take k).map mL).length := by rw [List.length_map, List.length_take]; omega
      have HCL := Hid2.mk hcl
      generalize hcls : (ms.take k).map mL = cls at *
      clear e1 htk hrd hcl hcls
      go_wp2_with (first | (go_at_call 48; fail))
      refine (HL1.out _).mono ?_
      rintro e w1 ⟨vl, rfl, -, M'⟩
      have M9 := M.joinRow M'
      obtain ⟨pl, cl, rfl⟩ := own_form (M9.row 0 rfl)
      clear M hd1
      have M := M9
      clear M9 M'
      go_wp2_with (first | ((with_reducible apply wpM_bsl' M 27 1 26 [(0, .slice pl (mL m).length cl)] #[.slice pl (mL m).length cl]); rfl; rfl; rfl; exact bsl_h1 _ _ _; clear M; intro bb w9 h_bb M) | ((with_reducible apply wpM_app' M 27 2 0 w.heap.size (.slice pp k cc) k vs 26 1 24); rfl; rfl; rfl; rfl; rfl; rfl; rfl; exact .inl (Nat.le_refl _); exact M.size; exact und_slh; exact inf_elh; rfl; decide; decide; rfl; exact rfl; exact flat_sl _ _ _; omega; clear M; intro v2 w9 far_v2 M; simp only [List.set_cons_zero, List.set_cons_succ, entBlk, entT, entCells, List.getElem?_cons_zero, List.getElem?_cons_succ] at M; obtain ⟨pp_v2, cap_v2, rfl⟩ := own_form (M.row 2 rfl)))
      have M8 := M.drop 0
      have M7 : Mm no w _ ((.row w.heap.size (.slice pl (mL m).length cl) (mL m).length (i64N (mL m)) 2 1) :: (.row w.heap.size (.slice pp_v2 (k + 1) cap_v2) (k + 1) (vs ++ [.slice pl (mL m).length cl]) 26 1 :: clsE w.heap.size 2 vs cls)) := M8
      have M6 := M7.perm (List.perm_append_comm (l₁ := [_]))
      have M5 : Mm no w _ (.row w.heap.size (.slice pp_v2 (k + 1) cap_v2) (k + 1) (vs ++ [.slice pl (mL m).length cl]) 26 1 :: clsE w.heap.size 2 (vs ++ [.slice pl (mL m).length cl]) (cls ++ [mL m])) := M6.eq (by rw [clsE_new HCL.out]; rfl)
      clear M M8 M7 M6
      go_roundw
      case rel => exact ⟨k + 1, _, vs ++ [.slice pl (mL m).length cl], by omega, by go_num, rfl, by rw [List.length_append, hvs]; rfl, by rw [HTK.out]; exact M5⟩
      case measure => simp [intOf]; omega
    · obtain rfl : k = ms.length := by omega
      have hge : ¬ ((ms.length : Int) < (ms.length : Int)) := by omega
      have HTA := Hid2.mk (show (ms.take ms.length).map mL = ms.map mL by rw [List.take_length])
      go_wp2
      go_ret
      exact ⟨_, rfl, vs, by rw [List.length_map]; exact hvs, by rw [← HTA.out, List.length_map, List.length_take, Nat.min_self]; exact M⟩
end Go.Proofs.YteonahoboligdaaDoor
