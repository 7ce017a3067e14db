/- Classes of alike loops, for the program and for the reference, and the law's walk. -/
import Derived.Test.YtjdfjlgjpjgnhaaC54
namespace Go.Proofs.Ytjdfjlgjpjgnhaa
set_option linter.unusedSimpArgs false
set_option linter.unusedVariables false
open Go Go.RowKit

/-- The classes that are handed back. -/
noncomputable def clsOut (ls : List Sqr) : List (List Nat) := if listCode ls = 0 then clsTo (alkAt ls) ls.length else []
/-- What is handed back. -/
def ClsPost (ls : List Sqr) (w : World) (e : Ending) (w' : World) : Prop := ∃ v, e = .returned (.tuple #[v, .int .i64 (listCode ls)]) ∧ ClsRes w.heap.size w w' v (clsOut ls) 69 2
theorem ClsPost.nil {ls : List Sqr} {w w' : World} {c : Int} (h : listCode ls = c) (hc : c ≠ 0) (hb : Below w.heap.size w w') : ClsPost ls w (.returned (.tuple #[.slice none 0 0, .int .i64 c])) w' := by
  subst h
  refine ⟨_, rfl, [], by unfold clsOut; rw [if_neg hc]; rfl, ?_⟩
  unfold clsOut
  rw [if_neg hc]
  exact ((Mm.start no w).later hb).nilRow w.heap.size 69 1
theorem rows_lower {B B' : Nat} (h : B' ≤ B) {w : World} : ∀ (vs : List Value) (cls : List (List Nat)) (e : Nat), (∀ x ∈ clsE B e vs cls, x.holds w) → ∀ x ∈ clsE B' e vs cls, x.holds w
  | [], _, _, _ => fun x hx => by simp [clsE] at hx
  | _ :: _, [], _, _ => fun x hx => by simp [clsE] at hx
  | v :: vs, c :: cls, e, hh => fun x hx => by
    have h1 : Ent.holds w (.row B v c.length (ints c) e 1) := hh _ (by simp [clsE])
    have hx' : x = .row B' v c.length (ints c) e 1 ∨ x ∈ clsE B' e vs cls := by simpa [clsE] using hx
    rcases hx' with rfl | hx'
    · exact own_mono h1 h
    · refine rows_lower h vs cls e (fun y hy => hh y ?_) x hx'
      simp only [clsE, List.zipWith_cons_cons, List.mem_cons]
      exact .inr hy
theorem apart_lower {B B' : Nat} (e : Nat) : ∀ (vs : List Value) (cls : List (List Nat)), (clsE B e vs cls).map Ent.place = (clsE B' e vs cls).map Ent.place
  | [], _ => by simp [clsE]
  | _ :: _, [] => by simp [clsE]
  | v :: vs, c :: cls => by
    have := apart_lower e vs cls (B := B) (B' := B')
    simp only [clsE, List.zipWith_cons_cons, List.map_cons] at *
    rw [this]; rfl
/-- Rows that lie above a place lie above a lower one. -/
theorem clsRes_lower {w0 w1 w' : World} {v : Value} {vs : List Value} {cls : List (List Nat)} {eo ei : Nat} (hsz : w0.heap.size ≤ w1.heap.size) (hb : Below w0.heap.size w0 w1) (M : Mm no w1 w' (.row w1.heap.size v cls.length vs eo 1 :: clsE w1.heap.size ei vs cls)) :
    Mm no w0 w' (.row w0.heap.size v cls.length vs eo 1 :: clsE w0.heap.size ei vs cls) := by
  have hk : Kept no w0 w' := (Kept.of_below hb no).trans M.kept fun _ _ h => h.elim
  refine .of_pair hk (fun x hx => ?_) ?_
  · rcases List.mem_cons.1 hx with rfl | hx
    · exact own_mono (M.row 0 rfl) hsz
    · exact rows_lower hsz vs cls ei (fun y hy => M.mem (List.mem_cons_of_mem _ hy)) x hx
  · have hp := M.pair
    have e : (Ent.row w1.heap.size v cls.length vs eo 1 :: clsE w1.heap.size ei vs cls).map Ent.place = (Ent.row w0.heap.size v cls.length vs eo 1 :: clsE w0.heap.size ei vs cls).map Ent.place := by
      rw [List.map_cons, List.map_cons, apart_lower ei vs cls (B' := w0.heap.size)]; rfl
    have h1 : ((Ent.row w1.heap.size v cls.length vs eo 1 :: clsE w1.heap.size ei vs cls).map Ent.place).Pairwise (fun p q => ∀ b, p b → q b → False) := List.pairwise_map.2 hp
    rw [e] at h1
    have h2 := List.pairwise_map.1 h1
    exact h2.imp fun h => h
theorem listCode_1 {ls : List Sqr} (h : ls.all lpB = false) : listCode ls = 1 := by unfold listCode; rw [if_neg (by rw [h]; simp)]
theorem listCode_2 {ls : List Sqr} (h : ls.all lpB = true) (h2 : 30 < ls.length) : listCode ls = 2 := by unfold listCode; rw [if_pos h, if_pos h2]
theorem listCode_0 {ls : List Sqr} (h : ls.all lpB = true) (h2 : ¬ 30 < ls.length) : listCode ls = 0 := by unfold listCode; rw [if_pos h, if_neg h2]
theorem listCode_ok {ls : List Sqr} (h : listCode ls = 0) : ls.all lpB = true ∧ ls.length ≤ 30 := by
  unfold listCode at h
  split at h
  · rename_i h1
    split at h
    · cases h
    · exact ⟨h1, by omega⟩
  · cases h

set_option maxRecDepth 100000 in
set_option maxHeartbeats 1000000 in
theorem implAlikeClasses_any (ls : List Sqr) (hlen : ls.length ≤ 1048576) (hby : ∀ q ∈ ls, Byt2 q.t) (w : World) (g cap : Nat) (hr : rds w g (ls.length * 101) (fun j => (slC ls).getD j undef)) :
    Calls Try.prog 34 #[.slice (some ⟨g, 0, none⟩) ls.length cap] w (ClsPost ls w) := by
  have M := Mm.start no w
  have HA := fun w1 (hb : Below w.heap.size w w1) => areLoops_any ls (by omega) hby w1 g cap (hr.later hb)
  cases ha : ls.all lpB with
  | false =>
    have HC := Hid2.mk (listCode_1 ha)
    simp only [ha] at HA
    clear hr hby ha
    go_enter Try.func34, Try.ntmps34
    go_wp2_with (first | (go_at_call 65; ((with_reducible refine (HA _ M.below).mono ?_); rintro e w1 ⟨rfl, hb⟩; have hsz := M.size; have M9 := M.later hb; clear M; (try clear C); have M := M9; clear M9; (try simp only [List.set_cons_zero, List.set_cons_succ] at M); have C := M.ruleAll; simp only [Go.Proofs.Ytjdfjlgjpjgnhaa.ruleAll] at C)))
    go_ret2
    exact ClsPost.nil HC.out (by decide) M.below
  | true =>
    by_cases h30 : 30 < ls.length
    · have HC := Hid2.mk (listCode_2 ha h30)
      have h30' : (30 : Int) < (ls.length : Int) := by omega
      simp only [ha] at HA
      clear hr hby ha
      go_enter Try.func34, Try.ntmps34
      go_wp2_with (first | (go_at_call 65; ((with_reducible refine (HA _ M.below).mono ?_); rintro e w1 ⟨rfl, hb⟩; have hsz := M.size; have M9 := M.later hb; clear M; (try clear C); have M := M9; clear M9; (try simp only [List.set_cons_zero, List.set_cons_succ] at M); have C := M.ruleAll; simp only [Go.Proofs.Ytjdfjlgjpjgnhaa.ruleAll] at C)))
      go_ret2
      exact ClsPost.nil HC.out (by decide) M.below
    · have HC := Hid2.mk (listCode_0 ha h30)
      have h30' : ¬ (30 : Int) < (ls.length : Int) := by omega
      have hok : ∀ q ∈ ls, okS q := fun q hq => lpB_ok (hby q hq) (List.all_eq_true.1 ha q hq)
      have HK := fun w1 (hb : Below w.heap.size w w1) => classesOf_any ls hlen alkB w1 g cap 71 (enters_of (P := Try.prog) (f := 71) (by exact Try.func71) (by kernel_rfl) rfl) (fun q hq r hr w2 => alike_sq q r w2 (hok q hq) (hok r hr)) (hr.later hb)
      have hcl : (fun j i => alkB (ls.getD j sq00) (ls.getD i sq00)) = alkAt ls := rfl
      rw [hcl] at HK
      have HO := Hid2.mk (show clsOut ls = clsTo (alkAt ls) ls.length by unfold clsOut; rw [if_pos HC.out])
      generalize clsTo (alkAt ls) ls.length = cls at HK HO
      simp only [ha] at HA
      clear hr hby ha hcl hok
      go_enter Try.func34, Try.ntmps34
      go_wp2_with (first | (go_at_call 65; ((with_reducible refine (HA _ M.below).mono ?_); rintro e w1 ⟨rfl, hb⟩; have hsz := M.size; have M9 := M.later hb; clear M; (try clear C); have M := M9; clear M9; (try simp only [List.set_cons_zero, List.set_cons_succ] at M); have C := M.ruleAll; simp only [Go.Proofs.Ytjdfjlgjpjgnhaa.ruleAll] at C)) | (go_at_call 70; fail))
      refine (HK _ M.below).mono ?_
      rintro e w1 ⟨v, rfl, vs, hvl, M'⟩
      have hsz := M.size
      have hb := M.below
      clear M
      go_wp2
      go_ret2
      refine ⟨v, by rw [HC.out]; rfl, vs, by rw [HO.out]; exact hvl, ?_⟩
      rw [HO.out]
      exact clsRes_lower hsz hb M'

set_option maxRecDepth 100000 in
set_option maxHeartbeats 1000000 in
theorem specAlikeClasses_any (ls : List Sqr) (hlen : ls.length ≤ 1048576) (hby : ∀ q ∈ ls, Byt2 q.t) (w : World) (g cap : Nat) (hr : rds w g (ls.length * 101) (fun j => (slC ls).getD j undef)) :
    Calls Try.prog 32 #[.slice (some ⟨g, 0, none⟩) ls.length cap] w (ClsPost ls w) := by
  have M := Mm.start no w
  have HA := fun w1 (hb : Below w.heap.size w w1) => l11List_any ls hlen hby w1 g cap (hr.later hb)
  by_cases hc0 : listCode ls = 0
  · have hok : ∀ q ∈ ls, okS q := fun q hq => lpB_ok (hby q hq) (List.all_eq_true.1 (listCode_ok hc0).1 q hq)
    have HK := fun w1 (hb : Below w.heap.size w w1) => l11Classes_any ls hlen hok w1 g cap (hr.later hb)
    have HO := Hid2.mk (show clsOut ls = clsTo (alkAt ls) ls.length by unfold clsOut; rw [if_pos hc0])
    have HC := Hid2.mk hc0
    rw [hc0] at HA
    generalize clsTo (alkAt ls) ls.length = cls at HK HO
    clear hr hby hok hc0
    go_enter Try.func32, Try.ntmps32
    go_wp2_with (first | (go_at_call 80; ((with_reducible refine (HA _ M.below).mono ?_); rintro e w1 ⟨rfl, hb⟩; have hsz := M.size; have M9 := M.later hb; clear M; (try clear C); have M := M9; clear M9; (try simp only [List.set_cons_zero, List.set_cons_succ] at M); have C := M.ruleAll; simp only [Go.Proofs.Ytjdfjlgjpjgnhaa.ruleAll] at C)) | (go_at_call 81; fail))
    refine (HK _ M.below).mono ?_
    rintro e w1 ⟨v, rfl, vs, hvl, M'⟩
    have hsz := M.size
    have hb := M.below
    clear M
    go_wp2
    go_ret2
    refine ⟨v, by rw [HC.out]; rfl, vs, by rw [HO.out]; exact hvl, ?_⟩
    rw [HO.out]
    exact clsRes_lower hsz hb M'
  · have HC := Hid2.mk hc0
    obtain ⟨c, hc⟩ : ∃ c, c = listCode ls := ⟨_, rfl⟩
    rw [← hc] at HA
    have hne : (c == 0) = false := beq_eq_false_iff_ne.2 (by rw [hc]; exact hc0)
    have HCC := Hid2.mk hc
    clear hr hby hc0 hc
    go_enter Try.func32, Try.ntmps32
    go_wp2_with (first | (go_at_call 80; ((with_reducible refine (HA _ M.below).mono ?_); rintro e w1 ⟨rfl, hb⟩; have hsz := M.size; have M9 := M.later hb; clear M; (try clear C); have M := M9; clear M9; (try simp only [List.set_cons_zero, List.set_cons_succ] at M); have C := M.ruleAll; simp only [Go.Proofs.Ytjdfjlgjpjgnhaa.ruleAll] at C)))
    go_ret2
    exact ClsPost.nil HCC.out.symm (by rw [HCC.out]; exact HC.out) M.below
end Go.Proofs.Ytjdfjlgjpjgnhaa
