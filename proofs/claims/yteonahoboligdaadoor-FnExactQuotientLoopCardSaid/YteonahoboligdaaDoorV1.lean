/- Lists of lists of numbers in the laws: compared, marked, held. -/
import Derived.Test.YteonahoboligdaaDoorI1
import Derived.Test.YteonahoboligdaaDoorK20
import Derived.Test.YteonahoboligdaaDoorU1
namespace Go.Proofs.YteonahoboligdaaDoor
set_option linter.unusedSimpArgs false
set_option linter.unusedVariables false
open Go Go.RowKit

theorem getD_at {α : Type} {l : List α} {z : α} {i : Nat} (h : i < l.length) : l.getD i z = l[i] := by rw [List.getD_eq_getElem?_getD, List.getElem?_eq_getElem h]; rfl
def toI (c : List Nat) : List Int := c.map fun (i : Nat) => (i : Int)
theorem toI_len (c : List Nat) : (toI c).length = c.length := by simp [toI]
theorem ints_getD (c : List Nat) {j : Nat} (hj : j < c.length) : (ints c).getD j undef = intF (toI c) j := by
  unfold intF elI toI ints
  rw [List.getD_eq_getElem?_getD, List.getD_eq_getElem?_getD, List.getElem?_map, List.getElem?_map, List.getElem?_eq_getElem hj]
  rfl
/-- A list of lists of numbers that a slice of slices holds, read. -/
def ClsHere (w : World) (v : Value) (cls : List (List Nat)) : Prop :=
  ∃ (pp : Option Addr) (cap : Nat) (vs : List Value), v = .slice pp cls.length cap ∧ vs.length = cls.length ∧ rdq w pp cls.length (fun j => vs.getD j undef) ∧ ∀ k (hk : k < cls.length), ∃ p c, vs.getD k undef = .slice p cls[k].length c ∧ rdq w p cls[k].length (intF (toI cls[k]))
theorem ClsHere.kept {w w' : World} {v : Value} {cls : List (List Nat)} (h : ClsHere w v cls) (hk : ∀ p n f, rdq w p n f → rdq w' p n f) : ClsHere w' v cls := by
  obtain ⟨pp, cap, vs, e, hl, hr, hc⟩ := h
  exact ⟨pp, cap, vs, e, hl, hk _ _ _ hr, fun k hk' => by
    obtain ⟨p, c, e, hr⟩ := hc k hk'
    exact ⟨p, c, e, hk _ _ _ hr⟩⟩
theorem ClsHere.later {w w' : World} {v : Value} {cls : List (List Nat)} (h : ClsHere w v cls) (hb : Below w.heap.size w w') : ClsHere w' v cls := h.kept fun _ _ _ h => h.later hb
theorem ClsHere.of {w : World} {B eo ei : Nat} {v : Value} {vs : List Value} {cls : List (List Nat)} (hvl : vs.length = cls.length) (hE : ∀ x ∈ Ent.row B v cls.length vs eo 1 :: clsE B ei vs cls, x.holds w) : ClsHere w v cls := by
  have h0 : w.ownsRow B eo 1 v cls.length vs := hE _ (List.mem_cons_self ..)
  obtain ⟨pp, cap, rfl⟩ := own_form h0
  have hr := rdq_of_own h0
  rw [Nat.mul_one] at hr
  refine ⟨pp, cap, vs, rfl, hvl, hr, fun k hk => ?_⟩
  have h1 : w.ownsRow B ei 1 (vs[k]'(by omega)) cls[k].length (ints cls[k]) := hE (.row B (vs[k]'(by omega)) cls[k].length (ints cls[k]) ei 1) (List.mem_cons_of_mem _ (List.mem_of_getElem? (clsE_get (by omega) hk)))
  obtain ⟨p, c, e⟩ := own_form h1
  rw [e] at h1
  have hr1 := rdq_of_own h1
  rw [Nat.mul_one] at hr1
  exact ⟨p, c, by rw [getD_at (by omega)]; exact e, hr1.congr fun j hj => ints_getD _ hj⟩

set_option maxRecDepth 100000 in
set_option maxHeartbeats 1000000 in
theorem eqInt64SS_any (cls : List (List Nat)) (hn : cls.length ≤ 1048576) (hc : ∀ c ∈ cls, c.length ≤ 1048576) (w : World) (v1 v2 : Value) (h1 : ClsHere w v1 cls) (h2 : ClsHere w v2 cls) :
    Calls Tryd.prog 9 #[v1, v2] w fun e w' => e = .returned (.bool true) ∧ Below w.heap.size w w' := by
  obtain ⟨p1, c1, vs1, rfl, hl1, hr1, hk1⟩ := h1
  obtain ⟨p2, c2, vs2, rfl, hl2, hr2, hk2⟩ := h2
  have M := Mm.start no w
  have he : ((cls.length : Int) == (cls.length : Int)) = true := by simp
  have F1 := Hid2.mk (fun w1 (hb : Below w.heap.size w w1) => hr1.later hb)
  have F2 := Hid2.mk (fun w1 (hb : Below w.heap.size w w1) => hr2.later hb)
  have HK1 := Hid2.mk hk1
  have HK2 := Hid2.mk hk2
  have HC := Hid2.mk hc
  clear hr1 hr2 hk1 hk2 hc
  go_enter Tryd.func9, Tryd.ntmps9
  go_wp2
  go_loopw [5] (fun i wr => ∃ k : Nat, k ≤ cls.length ∧ i = .int .i64 (k : Int) ∧ Mm no w wr []) (fun i _ => cls.length - (intOf i).toNat)
  case atStart => exact ⟨0, by omega, rfl, M⟩
  case round =>
    obtain ⟨k, hk, rfl, M9⟩ := hrel
    clear M
    have M := M9
    clear M9
    by_cases hlt : k < cls.length
    · have hlt' : (k : Int) < (cls.length : Int) := by omega
      obtain ⟨g1, rfl, _⟩ := F1.out _ M.below (by omega)
      obtain ⟨g2, rfl, _⟩ := F2.out _ M.below (by omega)
      obtain ⟨q1, d1, e1, hq1⟩ := HK1.out k hlt
      obtain ⟨q2, d2, e2, hq2⟩ := HK2.out k hlt
      have hc1 : ∀ w1, Below w.heap.size w w1 → w1.cell? ⟨g1, k, none⟩ = some (.slice q1 cls[k].length d1) := fun w1 hb => by
        obtain ⟨g, e, hr⟩ := F1.out w1 hb (by omega)
        cases e
        rw [hr.at_ k hlt, e1]
      have hc2 : ∀ w1, Below w.heap.size w w1 → w1.cell? ⟨g2, k, none⟩ = some (.slice q2 cls[k].length d2) := fun w1 hb => by
        obtain ⟨g, e, hr⟩ := F2.out w1 hb (by omega)
        cases e
        rw [hr.at_ k hlt, e2]
      have HE := fun w1 (hb : Below w.heap.size w w1) => eqInt64S_any (toI cls[k]) (by rw [toI_len]; have := HC.out _ (List.getElem_mem hlt); omega) w1 q1 q2 d1 d2 (by rw [toI_len]; exact hq1.later hb) (by rw [toI_len]; exact hq2.later hb)
      rw [toI_len] at HE
      have C1 := Hid2.mk hc1
      have C2 := Hid2.mk hc2
      clear hc1 hc2 e1 e2 hq1 hq2
      go_wp2
      apply wp_region_mm M 8 (by kernel_rfl) (by kernel_rfl)
      · simp only [List.take_succ_cons, List.take_zero]
        repeat (first | exact wpText_nil | (apply wpText_cons; (intro w2 M; have hd1 := C1.out _ M.below; have hd2 := C2.out _ M.below; go_wp2; exact ⟨rfl, rfl, M⟩); rfl))
      clear M
      intro w2 M
      simp only [List.drop_succ_cons, List.drop_zero]
      go_wp2_with (first | (go_at_call 10; ((with_reducible refine (HE _ M.below).mono ?_); rintro e w1 ⟨rfl, hb⟩; have hsz := M.size; have M9 := M.later hb; clear M; (try clear C); have M := M9; clear M9; (try simp only [List.set_cons_zero, List.set_cons_succ] at M); have C := M.ruleAll; simp only [Go.Proofs.YteonahoboligdaaDoor.ruleAll] at C)))
      go_roundw
      case rel => exact ⟨k + 1, by omega, by go_num, M⟩
      case measure => simp [intOf]; omega
    · obtain rfl : k = cls.length := by omega
      have hge : ¬ ((cls.length : Int) < (cls.length : Int)) := by omega
      go_wp2
      go_ret
      exact ⟨rfl, M.below⟩


def tot (cls : List (List Nat)) : Nat := (cls.map List.length).sum
theorem tot_take {cls : List (List Nat)} {j : Nat} (hj : j < cls.length) : tot (cls.take (j + 1)) = tot (cls.take j) + cls[j].length := by
  unfold tot
  rw [List.take_succ_eq_append_getElem hj, List.map_append, List.sum_append]; simp
theorem tot_le {cls : List (List Nat)} {m : Nat} (h : ∀ c ∈ cls, c.length ≤ m) : tot cls ≤ cls.length * m := by
  unfold tot
  induction cls with
  | nil => simp
  | cons c l ih =>
    have h1 := h c (List.mem_cons_self ..)
    have h2 := ih fun c hc => h c (List.mem_cons_of_mem _ hc)
    simp only [List.map_cons, List.sum_cons, List.length_cons, Nat.succ_mul]
    omega
/-- The contents of the rows as far as j have been marked. -/
def mkdTo (k : Int) (cls : List (List Nat)) (j : Nat) : List (List Value) := (List.range cls.length).map fun t => if t < j then mkV (k + (tot (cls.take t) : Nat)) (cls.getD t []).length else ints (cls.getD t [])
theorem mkdTo_len (k : Int) (cls : List (List Nat)) (j : Nat) : (mkdTo k cls j).length = cls.length := by simp [mkdTo]
theorem mkdTo_get {k : Int} {cls : List (List Nat)} {j t : Nat} (ht : t < cls.length) : (mkdTo k cls j)[t]? = some (if t < j then mkV (k + (tot (cls.take t) : Nat)) cls[t].length else ints cls[t]) := by
  unfold mkdTo
  rw [List.getElem?_map, List.getElem?_range ht, Option.map_some, getD_at ht]
theorem mkdTo_set {k : Int} {cls : List (List Nat)} {j : Nat} (hj : j < cls.length) : (mkdTo k cls j).set j (mkV (k + (tot (cls.take j) : Nat)) cls[j].length) = mkdTo k cls (j + 1) := by
  apply List.ext_getElem?
  intro t
  rw [List.getElem?_set, mkdTo_len]
  rcases Nat.lt_or_ge t cls.length with ht | ht
  · by_cases e : j = t
    · subst e; rw [if_pos rfl, if_pos hj, mkdTo_get hj, if_pos (by omega)]
    · rw [if_neg e, mkdTo_get ht, mkdTo_get ht]
      by_cases h2 : t < j
      · rw [if_pos h2, if_pos (by omega)]
      · rw [if_neg h2, if_neg (by omega)]
  · rw [if_neg (by omega), List.getElem?_eq_none (by rw [mkdTo_len]; exact ht), List.getElem?_eq_none (by rw [mkdTo_len]; exact ht)]
def clsM (B e : Nat) (vs : List Value) (css : List (List Value)) : List Ent := List.zipWith (fun v c => .row B v c.length c e 1) vs css
theorem clsM_get {B e : Nat} {vs : List Value} {css : List (List Value)} {k : Nat} {v : Value} {c : List Value} (hv : vs[k]? = some v) (hc : css[k]? = some c) : (clsM B e vs css)[k]? = some (.row B v c.length c e 1) := by
  simp [clsM, List.getElem?_zipWith, hv, hc]
theorem clsM_set {B e : Nat} {vs : List Value} {css : List (List Value)} {k : Nat} {v : Value} (hv : vs[k]? = some v) (c : List Value) : (clsM B e vs css).set k (.row B v c.length c e 1) = clsM B e vs (css.set k c) := by
  apply List.ext_getElem?
  intro j
  simp only [clsM, List.getElem?_set, List.getElem?_zipWith, List.length_zipWith]
  by_cases hj : k = j
  · subst hj
    have hlt := (List.getElem?_eq_some_iff.1 hv).1
    by_cases hc : k < css.length
    · have : k < min vs.length css.length := by omega
      simp [hc, hv, this]
    · have : ¬ k < min vs.length css.length := by omega
      simp [hc, hv, this]
  · simp [hj]
theorem clsM_zero (B e : Nat) (vs : List Value) (cls : List (List Nat)) (k : Int) : clsM B e vs (mkdTo k cls 0) = clsE B e vs cls := by
  apply List.ext_getElem?
  intro j
  simp only [clsM, clsE, List.getElem?_zipWith]
  rcases Nat.lt_or_ge j cls.length with hj | hj
  · rw [mkdTo_get hj, if_neg (by omega), List.getElem?_eq_getElem hj]
    cases vs[j]? <;> simp [ints_len]
  · rw [List.getElem?_eq_none (l := mkdTo k cls 0) (by rw [mkdTo_len]; exact hj), List.getElem?_eq_none (l := cls) hj]
    cases vs[j]? <;> rfl

set_option maxRecDepth 100000 in
set_option maxHeartbeats 1000000 in
theorem markInt64SS_any (cls : List (List Nat)) (vs : List Value) (hvl : vs.length = cls.length) (hn : cls.length ≤ 1048576) (hc : ∀ c ∈ cls, c.length ≤ 1048576) (B : Nat) (v : Value) (k : Int) (h0 : 0 ≤ k) (h1 : k ≤ 1048576) (L : List Ent) (w0 w : World) (hB : w0.heap.size ≤ B)
    (M : Mm no w0 w (.row B v cls.length vs 26 1 :: (clsE B 2 vs cls ++ L))) :
    Calls Tryd.prog 12 #[v, .int .i64 k] w fun e w' => e = .returned (.int .i64 (k + (tot cls : Nat))) ∧ Mm no w0 w' (.row B v cls.length vs 26 1 :: (clsM B 2 vs (mkdTo k cls cls.length) ++ L)) := by
  have M9 := M
  rw [← clsM_zero B 2 vs cls k] at M9
  clear M
  have M := M9
  clear M9
  have htl : ∀ j, tot (cls.take j) ≤ 1099511627776 := fun j => by
    have h2 := tot_le (cls := cls.take j) (m := 1048576) fun c h => hc c (List.mem_of_mem_take h)
    have h3 : (cls.take j).length ≤ 1048576 := by rw [List.length_take]; omega
    have h4 : (cls.take j).length * 1048576 ≤ 1048576 * 1048576 := Nat.mul_le_mul_right _ h3
    omega
  have HTL := Hid2.mk htl
  have HC := Hid2.mk hc
  clear htl hc
  obtain ⟨pp, cap, rfl⟩ := own_form (M.row 0 rfl)
  go_enter Tryd.func12, Tryd.ntmps12
  go_wp2
  go_loopw [5, 1] (fun i z wr => ∃ j : Nat, j ≤ cls.length ∧ i = .int .i64 (j : Int) ∧ z = .int .i64 (k + (tot (cls.take j) : Nat)) ∧ Mm no w0 wr (.row B (.slice pp cls.length cap) cls.length vs 26 1 :: (clsM B 2 vs (mkdTo k cls j) ++ L))) (fun i _ _ => cls.length - (intOf i).toNat)
  case atStart => exact ⟨0, by omega, rfl, by simp [tot], M⟩
  case round =>
    obtain ⟨j, hj, rfl, rfl, M9⟩ := hrel
    clear M
    have M := M9
    clear M9
    by_cases hlt : j < cls.length
    · have hlt' : (j : Int) < (cls.length : Int) := by omega
      obtain ⟨g, cap', he, _, _, _⟩ := own_rds (M.row 0 rfl) (by omega)
      cases he
      have hvj : vs[j]? = some (vs[j]'(by omega)) := List.getElem?_eq_getElem _
      have hcell : wr.cell? ⟨g, j, none⟩ = some (vs[j]'(by omega)) := by rw [World.ownsRow.cellAt (M.row 0 rfl) j (by omega)]; exact hvj
      have hget : (clsM B 2 vs (mkdTo k cls j))[j]? = some (.row B (vs[j]'(by omega)) (ints cls[j]).length (ints cls[j]) 2 1) := clsM_get hvj (by rw [mkdTo_get hlt, if_neg (by omega)])
      have hget2 : (.row B (.slice (some ⟨g, 0, none⟩) cls.length cap) cls.length vs 26 1 :: (clsM B 2 vs (mkdTo k cls j) ++ L))[j + 1]? = some (.row B (vs[j]'(by omega)) (ints cls[j]).length (ints cls[j]) 2 1) := by
        rw [List.getElem?_cons_succ, List.getElem?_append_left (List.getElem?_eq_some_iff.1 hget).1]; exact hget
      have hown : wr.ownsRow B 2 1 (vs[j]'(by omega)) cls[j].length (ints cls[j]) := by
        have := M.row (j + 1) hget2
        rwa [ints_len] at this
      have hjl := HC.out cls[j] (List.getElem_mem hlt)
      have htj := HTL.out j
      have HM := markInt64S_any B (vs[j]'(by omega)) cls[j].length (ints cls[j]) (k + (tot (cls.take j) : Nat)) (by omega) (by omega) wr hown
      have htt := tot_take hlt
      have HNX := Hid2.mk (fun w' (hk : Kept (fun b => (vs[j]'(by omega)).ownBlock = some b) wr w') (ho : w'.ownsRow B 2 1 (vs[j]'(by omega)) cls[j].length (mkV (k + (tot (cls.take j) : Nat)) cls[j].length)) =>
        show Mm no w0 w' (.row B (.slice (some ⟨g, 0, none⟩) cls.length cap) cls.length vs 26 1 :: (clsM B 2 vs (mkdTo k cls (j + 1)) ++ L)) by
          have hl : (mkV (k + (tot (cls.take j) : Nat)) cls[j].length).length = cls[j].length := by simp [mkV]
          have h9 := M.set (j + 1) hget2 hk (fun _ h => h) (fun b hb h => by have := (World.ownsRow.lt hown b h).1; omega) (y := .row B (vs[j]'(by omega)) (mkV (k + (tot (cls.take j) : Nat)) cls[j].length).length (mkV (k + (tot (cls.take j) : Nat)) cls[j].length) 2 1) (by rw [hl]; exact ho) (fun b h => .inl h)
          rw [List.set_cons_succ, List.set_append_left _ _ (List.getElem?_eq_some_iff.1 hget).1, clsM_set hvj, mkdTo_set hlt] at h9
          exact h9)
      generalize vs[j]'(by omega) = vj at hcell HM HNX
      have hz : k + ((tot (cls.take j) : Nat) : Int) + (cls[j].length : Int) = k + ((tot (cls.take (j + 1)) : Nat) : Int) := by rw [htt]; omega
      rw [hz] at HM
      have HLT := Hid2.mk hlt
      clear hvj hget hget2 hown htt hz htj hjl
      go_wp2_with (first | (go_at_call 11; fail))
      refine HM.mono ?_
      rintro e w1 ⟨rfl, hk9, ho9⟩
      have M8 := HNX.out w1 hk9 ho9
      clear M
      go_wp2
      go_roundw
      case rel => exact ⟨j + 1, by have := HLT.out; omega, by go_num, rfl, M8⟩
      case measure => have := HLT.out; simp [intOf]; omega
    · obtain rfl : j = cls.length := by omega
      have hge : ¬ ((cls.length : Int) < (cls.length : Int)) := by omega
      go_wp2
      go_ret
      exact ⟨rfl, M⟩

/-- A list of lists that has been marked, read. -/
def MkHere (w : World) (v : Value) (k : Int) (cls : List (List Nat)) : Prop :=
  ∃ (pp : Option Addr) (cap : Nat) (vs : List Value), v = .slice pp cls.length cap ∧ rdq w pp cls.length (fun j => vs.getD j undef) ∧ ∀ j (hj : j < cls.length), ∃ p c, vs.getD j undef = .slice p cls[j].length c ∧ rdq w p cls[j].length (fun t => .int .i64 (k + (tot (cls.take j) : Nat) + (t : Int)))
theorem MkHere.later {w w' : World} {v : Value} {k : Int} {cls : List (List Nat)} (h : MkHere w v k cls) (hb : Below w.heap.size w w') : MkHere w' v k cls := by
  obtain ⟨pp, cap, vs, e, hr, hc⟩ := h
  exact ⟨pp, cap, vs, e, hr.later hb, fun j hj => by
    obtain ⟨p, c, e, h2⟩ := hc j hj
    exact ⟨p, c, e, h2.later hb⟩⟩
theorem MkHere.of {w0 w : World} {B eo ei : Nat} {v : Value} {vs : List Value} {cls : List (List Nat)} {k : Int} {L : List Ent} (hvl : vs.length = cls.length) (M : Mm no w0 w (.row B v cls.length vs eo 1 :: (clsM B ei vs (mkdTo k cls cls.length) ++ L))) : MkHere w v k cls := by
  have h0 := M.row 0 rfl
  obtain ⟨pp, cap, rfl⟩ := own_form h0
  have hr := rdq_of_own h0
  rw [Nat.mul_one] at hr
  refine ⟨pp, cap, vs, rfl, hr, fun j hj => ?_⟩
  have hvj : vs[j]? = some (vs[j]'(by omega)) := List.getElem?_eq_getElem _
  have hget := clsM_get (B := B) (e := ei) hvj (mkdTo_get (k := k) (j := cls.length) hj)
  rw [if_pos hj] at hget
  have h1 := M.mem (x := .row B (vs[j]'(by omega)) (mkV (k + (tot (cls.take j) : Nat)) cls[j].length).length (mkV (k + (tot (cls.take j) : Nat)) cls[j].length) ei 1) (List.mem_cons_of_mem _ (List.mem_append_left _ (List.mem_of_getElem? hget)))
  have hl : (mkV (k + (tot (cls.take j) : Nat)) cls[j].length).length = cls[j].length := by simp [mkV]
  rw [hl] at h1
  have h2 : w.ownsRow B ei 1 (vs[j]'(by omega)) cls[j].length (mkV (k + (tot (cls.take j) : Nat)) cls[j].length) := h1
  obtain ⟨p, c, e⟩ := own_form h2
  rw [e] at h2
  have h3 := rdq_of_own h2
  rw [Nat.mul_one] at h3
  exact ⟨p, c, by rw [getD_at (by omega)]; exact e, h3.congr fun t ht => by rw [List.getD_eq_getElem?_getD, mkV_get ht]; rfl⟩

set_option maxRecDepth 100000 in
set_option maxHeartbeats 1000000 in
theorem heldInt64SS_any (cls : List (List Nat)) (hn : cls.length ≤ 1048576) (hc : ∀ c ∈ cls, c.length ≤ 1048576) (v : Value) (k : Int) (h0 : 0 ≤ k) (h1 : k ≤ 1048576) (w : World) (h : MkHere w v k cls) :
    Calls Tryd.prog 13 #[v, .int .i64 k] w fun e w' => e = .returned (.int .i64 (k + (tot cls : Nat))) ∧ Below w.heap.size w w' := by
  obtain ⟨pp, cap, vs, rfl, hr, hk⟩ := h
  have M := Mm.start no w
  have htl : ∀ j, tot (cls.take j) ≤ 1099511627776 := fun j => by
    have h2 := tot_le (cls := cls.take j) (m := 1048576) fun c h => hc c (List.mem_of_mem_take h)
    have h3 : (cls.take j).length ≤ 1048576 := by rw [List.length_take]; omega
    have h4 : (cls.take j).length * 1048576 ≤ 1048576 * 1048576 := Nat.mul_le_mul_right _ h3
    omega
  have HTL := Hid2.mk htl
  have HC := Hid2.mk hc
  have F1 := Hid2.mk (fun w1 (hb : Below w.heap.size w w1) => hr.later hb)
  have HK := Hid2.mk hk
  clear htl hc hr hk
  go_enter Tryd.func13, Tryd.ntmps13
  go_wp2
  go_loopw [5, 1] (fun i z wr => ∃ j : Nat, j ≤ cls.length ∧ i = .int .i64 (j : Int) ∧ z = .int .i64 (k + (tot (cls.take j) : Nat)) ∧ Mm no w wr []) (fun i _ _ => cls.length - (intOf i).toNat)
  case atStart => exact ⟨0, by omega, rfl, by simp [tot], M⟩
  case round =>
    obtain ⟨j, hj, rfl, rfl, M9⟩ := hrel
    clear M
    have M := M9
    clear M9
    by_cases hlt : j < cls.length
    · have hlt' : (j : Int) < (cls.length : Int) := by omega
      obtain ⟨g, rfl, hr⟩ := F1.out _ M.below (by omega)
      obtain ⟨p, c, e, h2⟩ := HK.out j hlt
      have hcell := hr.at_ j hlt
      rw [e] at hcell
      have hjl := HC.out cls[j] (List.getElem_mem hlt)
      have htj := HTL.out j
      have HM := fun w1 (hb : Below w.heap.size w w1) => heldInt64S_any p cls[j].length c (k + (tot (cls.take j) : Nat)) (by omega) (by omega) w1 (h2.later hb)
      have hz : k + ((tot (cls.take j) : Nat) : Int) + (cls[j].length : Int) = k + ((tot (cls.take (j + 1)) : Nat) : Int) := by rw [tot_take hlt]; omega
      rw [hz] at HM
      have hnn : ¬ (k + ((tot (cls.take (j + 1)) : Nat) : Int) < 0) := by omega
      clear hr e h2 hjl htj hz
      go_wp2_with (first | (go_at_call 17; ((with_reducible refine (HM _ M.below).mono ?_); rintro e w1 ⟨rfl, hb⟩; have hsz := M.size; have M9 := M.later hb; clear M; (try clear C); have M := M9; clear M9; (try simp only [List.set_cons_zero, List.set_cons_succ] at M); have C := M.ruleAll; simp only [Go.Proofs.YteonahoboligdaaDoor.ruleAll] at C)))
      go_roundw
      case rel => exact ⟨j + 1, by omega, by go_num, rfl, M⟩
      case measure => simp [intOf]; omega
    · obtain rfl : j = cls.length := by omega
      have hge : ¬ ((cls.length : Int) < (cls.length : Int)) := by omega
      go_wp2
      go_ret
      exact ⟨rfl, M.below⟩

theorem rows_lower {B B' : Nat} (h : B' ≤ B) {w : World} : ∀ (vs : List Value) (cls : List (List Nat)) (e : Nat), (∀ x ∈ clsE B e vs cls, x.holds w) → ∀ x ∈ clsE B' e vs cls, x.holds w
  | [], _, _, _ => fun x hx => by simp [clsE] at hx
  | _ :: _, [], _, _ => fun x hx => by simp [clsE] at hx
  | v :: vs, c :: cls, e, hh => fun x hx => by
    have h1 : Ent.holds w (.row B v c.length (ints c) e 1) := hh _ (by simp [clsE])
    have hx' : x = .row B' v c.length (ints c) e 1 ∨ x ∈ clsE B' e vs cls := by simpa [clsE] using hx
    rcases hx' with rfl | hx'
    · exact ownsRow_weak h1 h
    · refine rows_lower h vs cls e (fun y hy => hh y ?_) x hx'
      simp only [clsE, List.zipWith_cons_cons, List.mem_cons]
      exact .inr hy
theorem apart_lower {B B' : Nat} (e : Nat) : ∀ (vs : List Value) (cls : List (List Nat)), (clsE B e vs cls).map Ent.place = (clsE B' e vs cls).map Ent.place
  | [], _ => by simp [clsE]
  | _ :: _, [] => by simp [clsE]
  | v :: vs, c :: cls => by
    have := apart_lower e vs cls (B := B) (B' := B')
    simp only [clsE, List.zipWith_cons_cons, List.map_cons] at *
    rw [this]; rfl
/-- Rows that lie above a place lie above a lower one. -/
theorem clsRes_lower {w0 w1 w' : World} {v : Value} {vs : List Value} {cls : List (List Nat)} {eo ei : Nat} (hsz : w0.heap.size ≤ w1.heap.size) (hb : Below w0.heap.size w0 w1) (M : Mm no w1 w' (.row w1.heap.size v cls.length vs eo 1 :: clsE w1.heap.size ei vs cls)) :
    Mm no w0 w' (.row w0.heap.size v cls.length vs eo 1 :: clsE w0.heap.size ei vs cls) := by
  have hk : Kept no w0 w' := (Kept.of_below hb no).trans M.kept fun _ _ h => h.elim
  refine .of_pair hk (fun x hx => ?_) ?_
  · rcases List.mem_cons.1 hx with rfl | hx
    · exact ownsRow_weak (M.row 0 rfl) hsz
    · exact rows_lower hsz vs cls ei (fun y hy => M.mem (List.mem_cons_of_mem _ hy)) x hx
  · have hp := M.pair
    have e : (Ent.row w1.heap.size v cls.length vs eo 1 :: clsE w1.heap.size ei vs cls).map Ent.place = (Ent.row w0.heap.size v cls.length vs eo 1 :: clsE w0.heap.size ei vs cls).map Ent.place := by
      rw [List.map_cons, List.map_cons, apart_lower ei vs cls (B' := w0.heap.size)]; rfl
    have h1 : ((Ent.row w1.heap.size v cls.length vs eo 1 :: clsE w1.heap.size ei vs cls).map Ent.place).Pairwise (fun p q => ∀ b, p b → q b → False) := List.pairwise_map.2 hp
    rw [e] at h1
    have h2 := List.pairwise_map.1 h1
    exact h2.imp fun h => h

/-- Some entries are told as one thing that holds while they do. -/
theorem Mm.fold {D : Nat → Prop} {w0 w : World} {A L : List Ent} {R : World → Prop} (M : Mm D w0 w (A ++ L)) (hR : ∀ w', (∀ x ∈ A, x.holds w') → R w') : Mm D w0 w (.res (fun k => ∃ x ∈ A, x.place k) R :: L) := by
  have hp := List.pairwise_append.1 M.pair
  refine .of_pair M.kept (fun x hx => ?_) (List.pairwise_cons.2 ⟨fun y hy b h1 h2 => ?_, hp.2.1⟩)
  · rcases List.mem_cons.1 hx with rfl | hx
    · refine ⟨fun k ⟨x, hx, hk⟩ => Ent.lt (M.mem (List.mem_append_left _ hx)) hk, fun E w' hk hd => hR w' fun x hx => Ent.holds_of (M.mem (List.mem_append_left _ hx)) hk fun b hb => hd b ⟨x, hx, hb⟩⟩
    · exact M.mem (List.mem_append_right _ hx)
  · obtain ⟨x, hx, hb⟩ := h1
    exact hp.2.2 x hx y hy b hb h2
theorem Mm.swap {D : Nat → Prop} {w0 w : World} (A B : List Ent) (M : Mm D w0 w (A ++ B)) : Mm D w0 w (B ++ A) := M.perm List.perm_append_comm
theorem cls_new {w w' : World} {v : Value} {vs : List Value} {cls : List (List Nat)} {eo ei : Nat} (M : Mm no w w' (.row w.heap.size v cls.length vs eo 1 :: clsE w.heap.size ei vs cls)) : ∀ x ∈ Ent.row w.heap.size v cls.length vs eo 1 :: clsE w.heap.size ei vs cls, ∀ b, x.place b → w.heap.size ≤ b := fun x hx b hb => by
  rcases List.mem_cons.1 hx with rfl | h
  · exact (World.ownsRow.lt (M.row 0 rfl) b hb).1
  · obtain ⟨i, hi⟩ := List.getElem?_of_mem h
    have h2 := M.ents (i + 1) x (by rw [List.getElem?_cons_succ]; exact hi)
    simp only [clsE, List.getElem?_zipWith] at hi
    split at hi
    · rename_i v' c' _ _
      have e := Option.some.inj hi
      subst e
      exact (World.ownsRow.lt h2 b hb).1
    · cases hi

end Go.Proofs.YteonahoboligdaaDoor
