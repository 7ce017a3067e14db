/- Classes of alike loops: contracts. -/
import Derived.Test.YtjdfjlgjpjgnhaaC53
namespace Go.Proofs.Ytjdfjlgjpjgnhaa
set_option linter.unusedSimpArgs false
set_option linter.unusedVariables false
open Go Go.RowKit

def tot (cls : List (List Nat)) : Nat := (cls.map List.length).sum
theorem tot_take {cls : List (List Nat)} {j : Nat} (hj : j < cls.length) : tot (cls.take (j + 1)) = tot (cls.take j) + cls[j].length := by
  unfold tot
  rw [List.take_succ_eq_append_getElem hj, List.map_append, List.sum_append]; simp
theorem tot_le {cls : List (List Nat)} {m : Nat} (h : ∀ c ∈ cls, c.length ≤ m) : tot cls ≤ cls.length * m := by
  unfold tot
  induction cls with
  | nil => simp
  | cons c l ih =>
    have h1 := h c (List.mem_cons_self ..)
    have h2 := ih fun c hc => h c (List.mem_cons_of_mem _ hc)
    simp only [List.map_cons, List.sum_cons, List.length_cons, Nat.succ_mul]
    omega
/-- The contents of the rows as far as j have been marked. -/
def mkdTo (k : Int) (cls : List (List Nat)) (j : Nat) : List (List Value) := (List.range cls.length).map fun t => if t < j then mkV (k + (tot (cls.take t) : Nat)) (cls.getD t []).length else ints (cls.getD t [])
theorem mkdTo_len (k : Int) (cls : List (List Nat)) (j : Nat) : (mkdTo k cls j).length = cls.length := by simp [mkdTo]
theorem mkdTo_get {k : Int} {cls : List (List Nat)} {j t : Nat} (ht : t < cls.length) : (mkdTo k cls j)[t]? = some (if t < j then mkV (k + (tot (cls.take t) : Nat)) cls[t].length else ints cls[t]) := by
  unfold mkdTo
  rw [List.getElem?_map, List.getElem?_range ht, Option.map_some, getD_at ht]
theorem mkdTo_set {k : Int} {cls : List (List Nat)} {j : Nat} (hj : j < cls.length) : (mkdTo k cls j).set j (mkV (k + (tot (cls.take j) : Nat)) cls[j].length) = mkdTo k cls (j + 1) := by
  apply List.ext_getElem?
  intro t
  rw [List.getElem?_set, mkdTo_len]
  rcases Nat.lt_or_ge t cls.length with ht | ht
  · by_cases e : j = t
    · subst e; rw [if_pos rfl, if_pos hj, mkdTo_get hj, if_pos (by omega)]
    · rw [if_neg e, mkdTo_get ht, mkdTo_get ht]
      by_cases h2 : t < j
      · rw [if_pos h2, if_pos (by omega)]
      · rw [if_neg h2, if_neg (by omega)]
  · rw [if_neg (by omega), List.getElem?_eq_none (by rw [mkdTo_len]; exact ht), List.getElem?_eq_none (by rw [mkdTo_len]; exact ht)]
def clsM (B e : Nat) (vs : List Value) (css : List (List Value)) : List Ent := List.zipWith (fun v c => .row B v c.length c e 1) vs css
theorem clsM_get {B e : Nat} {vs : List Value} {css : List (List Value)} {k : Nat} {v : Value} {c : List Value} (hv : vs[k]? = some v) (hc : css[k]? = some c) : (clsM B e vs css)[k]? = some (.row B v c.length c e 1) := by
  simp [clsM, List.getElem?_zipWith, hv, hc]
theorem clsM_set {B e : Nat} {vs : List Value} {css : List (List Value)} {k : Nat} {v : Value} (hv : vs[k]? = some v) (c : List Value) : (clsM B e vs css).set k (.row B v c.length c e 1) = clsM B e vs (css.set k c) := by
  apply List.ext_getElem?
  intro j
  simp only [clsM, List.getElem?_set, List.getElem?_zipWith, List.length_zipWith]
  by_cases hj : k = j
  · subst hj
    have hlt := (List.getElem?_eq_some_iff.1 hv).1
    by_cases hc : k < css.length
    · have : k < min vs.length css.length := by omega
      simp [hc, hv, this]
    · have : ¬ k < min vs.length css.length := by omega
      simp [hc, hv, this]
  · simp [hj]
theorem clsM_zero (B e : Nat) (vs : List Value) (cls : List (List Nat)) (k : Int) : clsM B e vs (mkdTo k cls 0) = clsE B e vs cls := by
  apply List.ext_getElem?
  intro j
  simp only [clsM, clsE, List.getElem?_zipWith]
  rcases Nat.lt_or_ge j cls.length with hj | hj
  · rw [mkdTo_get hj, if_neg (by omega), List.getElem?_eq_getElem hj]
    cases vs[j]? <;> simp [ints_len]
  · rw [List.getElem?_eq_none (l := mkdTo k cls 0) (by rw [mkdTo_len]; exact hj), List.getElem?_eq_none (l := cls) hj]
    cases vs[j]? <;> rfl

set_option maxRecDepth 100000 in
set_option maxHeartbeats 1000000 in
theorem markInt64SS_any (cls : List (List Nat)) (vs : List Value) (hvl : vs.length = cls.length) (hn : cls.length ≤ 1048576) (hc : ∀ c ∈ cls, c.length ≤ 1048576) (B : Nat) (v : Value) (k : Int) (h0 : 0 ≤ k) (h1 : k ≤ 1048576) (L : List Ent) (w0 w : World) (hB : w0.heap.size ≤ B)
    (M : Mm no w0 w (.row B v cls.length vs 69 1 :: (clsE B 2 vs cls ++ L))) :
    Calls Try.prog 38 #[v, .int .i64 k] w fun e w' => e = .returned (.int .i64 (k + (tot cls : Nat))) ∧ Mm no w0 w' (.row B v cls.length vs 69 1 :: (clsM B 2 vs (mkdTo k cls cls.length) ++ L)) := by
  have M9 := M
  rw [← clsM_zero B 2 vs cls k] at M9
  clear M
  have M := M9
  clear M9
  have htl : ∀ j, tot (cls.take j) ≤ 1099511627776 := fun j => by
    have h2 := tot_le (cls := cls.take j) (m := 1048576) fun c h => hc c (List.mem_of_mem_take h)
    have h3 : (cls.take j).length ≤ 1048576 := by rw [List.length_take]; omega
    have h4 : (cls.take j).length * 1048576 ≤ 1048576 * 1048576 := Nat.mul_le_mul_right _ h3
    omega
  have HTL := Hid2.mk htl
  have HC := Hid2.mk hc
  clear htl hc
  obtain ⟨pp, cap, rfl⟩ := own_form (M.row 0 rfl)
  go_enter Try.func38, Try.ntmps38
  go_wp2
  go_loopw [5, 1] (fun i z wr => ∃ j : Nat, j ≤ cls.length ∧ i = .int .i64 (j : Int) ∧ z = .int .i64 (k + (tot (cls.take j) : Nat)) ∧ Mm no w0 wr (.row B (.slice pp cls.length cap) cls.length vs 69 1 :: (clsM B 2 vs (mkdTo k cls j) ++ L))) (fun i _ _ => cls.length - (intOf i).toNat)
  case atStart => exact ⟨0, by omega, rfl, by simp [tot], M⟩
  case round =>
    obtain ⟨j, hj, rfl, rfl, M9⟩ := hrel
    clear M
    have M := M9
    clear M9
    by_cases hlt : j < cls.length
    · have hlt' : (j : Int) < (cls.length : Int) := by omega
      obtain ⟨g, cap', he, _, _, _⟩ := own_rds (M.row 0 rfl) (by omega)
      cases he
      have hvj : vs[j]? = some (vs[j]'(by omega)) := List.getElem?_eq_getElem _
      have hcell : wr.cell? ⟨g, j, none⟩ = some (vs[j]'(by omega)) := by rw [World.ownsRow.cellAt (M.row 0 rfl) j (by omega)]; exact hvj
      have hget : (clsM B 2 vs (mkdTo k cls j))[j]? = some (.row B (vs[j]'(by omega)) (ints cls[j]).length (ints cls[j]) 2 1) := clsM_get hvj (by rw [mkdTo_get hlt, if_neg (by omega)])
      have hget2 : (.row B (.slice (some ⟨g, 0, none⟩) cls.length cap) cls.length vs 69 1 :: (clsM B 2 vs (mkdTo k cls j) ++ L))[j + 1]? = some (.row B (vs[j]'(by omega)) (ints cls[j]).length (ints cls[j]) 2 1) := by
        rw [List.getElem?_cons_succ, List.getElem?_append_left (List.getElem?_eq_some_iff.1 hget).1]; exact hget
      have hown : wr.ownsRow B 2 1 (vs[j]'(by omega)) cls[j].length (ints cls[j]) := by
        have := M.row (j + 1) hget2
        rwa [ints_len] at this
      have hjl := HC.out cls[j] (List.getElem_mem hlt)
      have htj := HTL.out j
      have HM := markInt64S_any B (vs[j]'(by omega)) cls[j].length (ints cls[j]) (k + (tot (cls.take j) : Nat)) (by omega) (by omega) wr hown
      have htt := tot_take hlt
      have HNX := Hid2.mk (fun w' (hk : Kept (fun b => (vs[j]'(by omega)).ownBlock = some b) wr w') (ho : w'.ownsRow B 2 1 (vs[j]'(by omega)) cls[j].length (mkV (k + (tot (cls.take j) : Nat)) cls[j].length)) =>
        show Mm no w0 w' (.row B (.slice (some ⟨g, 0, none⟩) cls.length cap) cls.length vs 69 1 :: (clsM B 2 vs (mkdTo k cls (j + 1)) ++ L)) by
          have hl : (mkV (k + (tot (cls.take j) : Nat)) cls[j].length).length = cls[j].length := by simp [mkV]
          have h9 := M.set (j + 1) hget2 hk (fun _ h => h) (fun b hb h => by have := (World.ownsRow.lt hown b h).1; omega) (y := .row B (vs[j]'(by omega)) (mkV (k + (tot (cls.take j) : Nat)) cls[j].length).length (mkV (k + (tot (cls.take j) : Nat)) cls[j].length) 2 1) (by rw [hl]; exact ho) (fun b h => .inl h)
          rw [List.set_cons_succ, List.set_append_left _ _ (List.getElem?_eq_some_iff.1 hget).1, clsM_set hvj, mkdTo_set hlt] at h9
          exact h9)
      generalize vs[j]'(by omega) = vj at hcell HM HNX
      have hz : k + ((tot (cls.take j) : Nat) : Int) + (cls[j].length : Int) = k + ((tot (cls.take (j + 1)) : Nat) : Int) := by rw [htt]; omega
      rw [hz] at HM
      have HLT := Hid2.mk hlt
      clear hvj hget hget2 hown htt hz htj hjl
      go_wp2_with (first | (go_at_call 83; fail))
      refine HM.mono ?_
      rintro e w1 ⟨rfl, hk9, ho9⟩
      have M8 := HNX.out w1 hk9 ho9
      clear M
      go_wp2
      go_roundw
      case rel => exact ⟨j + 1, by have := HLT.out; omega, by go_num, rfl, M8⟩
      case measure => have := HLT.out; simp [intOf]; omega
    · obtain rfl : j = cls.length := by omega
      have hge : ¬ ((cls.length : Int) < (cls.length : Int)) := by omega
      go_wp2
      go_ret
      exact ⟨rfl, M⟩

/-- A list of lists that has been marked, read. -/
def MkHere (w : World) (v : Value) (k : Int) (cls : List (List Nat)) : Prop :=
  ∃ (pp : Option Addr) (cap : Nat) (vs : List Value), v = .slice pp cls.length cap ∧ rdq w pp cls.length (fun j => vs.getD j undef) ∧ ∀ j (hj : j < cls.length), ∃ p c, vs.getD j undef = .slice p cls[j].length c ∧ rdq w p cls[j].length (fun t => .int .i64 (k + (tot (cls.take j) : Nat) + (t : Int)))
theorem MkHere.later {w w' : World} {v : Value} {k : Int} {cls : List (List Nat)} (h : MkHere w v k cls) (hb : Below w.heap.size w w') : MkHere w' v k cls := by
  obtain ⟨pp, cap, vs, e, hr, hc⟩ := h
  exact ⟨pp, cap, vs, e, hr.later hb, fun j hj => by
    obtain ⟨p, c, e, h2⟩ := hc j hj
    exact ⟨p, c, e, h2.later hb⟩⟩
theorem MkHere.of {w0 w : World} {B eo ei : Nat} {v : Value} {vs : List Value} {cls : List (List Nat)} {k : Int} {L : List Ent} (hvl : vs.length = cls.length) (M : Mm no w0 w (.row B v cls.length vs eo 1 :: (clsM B ei vs (mkdTo k cls cls.length) ++ L))) : MkHere w v k cls := by
  have h0 := M.row 0 rfl
  obtain ⟨pp, cap, rfl⟩ := own_form h0
  have hr := rdq_of_own h0
  rw [Nat.mul_one] at hr
  refine ⟨pp, cap, vs, rfl, hr, fun j hj => ?_⟩
  have hvj : vs[j]? = some (vs[j]'(by omega)) := List.getElem?_eq_getElem _
  have hget := clsM_get (B := B) (e := ei) hvj (mkdTo_get (k := k) (j := cls.length) hj)
  rw [if_pos hj] at hget
  have h1 := M.mem (x := .row B (vs[j]'(by omega)) (mkV (k + (tot (cls.take j) : Nat)) cls[j].length).length (mkV (k + (tot (cls.take j) : Nat)) cls[j].length) ei 1) (List.mem_cons_of_mem _ (List.mem_append_left _ (List.mem_of_getElem? hget)))
  have hl : (mkV (k + (tot (cls.take j) : Nat)) cls[j].length).length = cls[j].length := by simp [mkV]
  rw [hl] at h1
  have h2 : w.ownsRow B ei 1 (vs[j]'(by omega)) cls[j].length (mkV (k + (tot (cls.take j) : Nat)) cls[j].length) := h1
  obtain ⟨p, c, e⟩ := own_form h2
  rw [e] at h2
  have h3 := rdq_of_own h2
  rw [Nat.mul_one] at h3
  exact ⟨p, c, by rw [getD_at (by omega)]; exact e, h3.congr fun t ht => by rw [List.getD_eq_getElem?_getD, mkV_get ht]; rfl⟩

set_option maxRecDepth 100000 in
set_option maxHeartbeats 1000000 in
theorem heldInt64SS_any (cls : List (List Nat)) (hn : cls.length ≤ 1048576) (hc : ∀ c ∈ cls, c.length ≤ 1048576) (v : Value) (k : Int) (h0 : 0 ≤ k) (h1 : k ≤ 1048576) (w : World) (h : MkHere w v k cls) :
    Calls Try.prog 39 #[v, .int .i64 k] w fun e w' => e = .returned (.int .i64 (k + (tot cls : Nat))) ∧ Below w.heap.size w w' := by
  obtain ⟨pp, cap, vs, rfl, hr, hk⟩ := h
  have M := Mm.start no w
  have htl : ∀ j, tot (cls.take j) ≤ 1099511627776 := fun j => by
    have h2 := tot_le (cls := cls.take j) (m := 1048576) fun c h => hc c (List.mem_of_mem_take h)
    have h3 : (cls.take j).length ≤ 1048576 := by rw [List.length_take]; omega
    have h4 : (cls.take j).length * 1048576 ≤ 1048576 * 1048576 := Nat.mul_le_mul_right _ h3
    omega
  have HTL := Hid2.mk htl
  have HC := Hid2.mk hc
  have F1 := Hid2.mk (fun w1 (hb : Below w.heap.size w w1) => hr.later hb)
  have HK := Hid2.mk hk
  clear htl hc hr hk
  go_enter Try.func39, Try.ntmps39
  go_wp2
  go_loopw [5, 1] (fun i z wr => ∃ j : Nat, j ≤ cls.length ∧ i = .int .i64 (j : Int) ∧ z = .int .i64 (k + (tot (cls.take j) : Nat)) ∧ Mm no w wr []) (fun i _ _ => cls.length - (intOf i).toNat)
  case atStart => exact ⟨0, by omega, rfl, by simp [tot], M⟩
  case round =>
    obtain ⟨j, hj, rfl, rfl, M9⟩ := hrel
    clear M
    have M := M9
    clear M9
    by_cases hlt : j < cls.length
    · have hlt' : (j : Int) < (cls.length : Int) := by omega
      obtain ⟨g, rfl, hr⟩ := F1.out _ M.below (by omega)
      obtain ⟨p, c, e, h2⟩ := HK.out j hlt
      have hcell := hr.at_ j hlt
      rw [e] at hcell
      have hjl := HC.out cls[j] (List.getElem_mem hlt)
      have htj := HTL.out j
      have HM := fun w1 (hb : Below w.heap.size w w1) => heldInt64S_any p cls[j].length c (k + (tot (cls.take j) : Nat)) (by omega) (by omega) w1 (h2.later hb)
      have hz : k + ((tot (cls.take j) : Nat) : Int) + (cls[j].length : Int) = k + ((tot (cls.take (j + 1)) : Nat) : Int) := by rw [tot_take hlt]; omega
      rw [hz] at HM
      have hnn : ¬ (k + ((tot (cls.take (j + 1)) : Nat) : Int) < 0) := by omega
      clear hr e h2 hjl htj hz
      go_wp2_with (first | (go_at_call 84; ((with_reducible refine (HM _ M.below).mono ?_); rintro e w1 ⟨rfl, hb⟩; have hsz := M.size; have M9 := M.later hb; clear M; (try clear C); have M := M9; clear M9; (try simp only [List.set_cons_zero, List.set_cons_succ] at M); have C := M.ruleAll; simp only [Go.Proofs.Ytjdfjlgjpjgnhaa.ruleAll] at C)))
      go_roundw
      case rel => exact ⟨j + 1, by omega, by go_num, rfl, M⟩
      case measure => simp [intOf]; omega
    · obtain rfl : j = cls.length := by omega
      have hge : ¬ ((cls.length : Int) < (cls.length : Int)) := by omega
      go_wp2
      go_ret
      exact ⟨rfl, M.below⟩
end Go.Proofs.Ytjdfjlgjpjgnhaa
