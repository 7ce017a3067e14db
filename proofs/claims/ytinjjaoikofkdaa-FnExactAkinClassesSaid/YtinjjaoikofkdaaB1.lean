/- Books, plain: alike loops, their classes, and that what the program asks of a book is what the reference asks. -/
import Derived.Test.YtinjjaoikofkdaaB0
namespace Go.Proofs.Ytinjjaoikofkdaa
set_option linter.unusedSimpArgs false
set_option linter.unusedVariables false

/-! ### Alike -/
theorem isoRes_ok : ∀ l : List (List Nat), ((isoRes l).2 == 0) = !l.isEmpty
  | [] => rfl
  | _ :: _ => rfl
theorem alkB_iff {q r : Sqr} : alkB q r = true ↔ q.n.toNat = r.n.toNat ∧ ∃ p : List Nat, (p.length = q.n.toNat ∧ ∀ v ∈ p, v < q.n.toNat) ∧ IsIso q.n.toNat q.t r.t p := by
  unfold alkB
  rw [isoRes_ok, Bool.not_eq_true', List.isEmpty_eq_false_iff]
  unfold isoAll
  split
  · rename_i e
    constructor
    · intro h
      obtain ⟨p, hp⟩ := List.exists_mem_of_ne_nil _ h
      have := mem_isos.1 hp
      exact ⟨e, p, this.1, this.2.1⟩
    · rintro ⟨_, p, h1, h2⟩ h
      have : p ∈ isos q.n.toNat q.t r.t fun _ => none := mem_isos.2 ⟨h1, h2, fun _ _ _ h => by cases h⟩
      rw [h] at this
      cases this
  · rename_i e
    exact ⟨fun h => absurd rfl h, fun h => absurd h.1 e⟩
theorem okS.lat {q : Sqr} (h : okS q) : Lat q.n.toNat q.t := by
  have s := isSq_true.1 h.2
  have e : ((q.n.toNat : Nat) : Int) = q.n := Int.toNat_of_nonneg (by have := s.lo; omega)
  exact Lat.of_sq (by rw [e]; exact s)
theorem getD_lt {p : List Nat} {N : Nat} (hl : p.length = N) (hv : ∀ v ∈ p, v < N) {i : Nat} (hi : i < N) : p.getD i 0 < N := by
  rw [List.getD_eq_getElem?_getD, List.getElem?_eq_getElem (by omega)]
  exact hv _ (List.getElem_mem _)
theorem map_getD {f : Nat → Nat} {N i : Nat} (hi : i < N) : ((List.range N).map f).getD i 0 = f i := by
  rw [List.getD_eq_getElem?_getD, List.getElem?_map, List.getElem?_range hi]; rfl
theorem alkB_refl {q : Sqr} (h : okS q) : alkB q q = true := by
  have L := h.lat
  refine alkB_iff.2 ⟨rfl, (List.range q.n.toNat).map id, ⟨by simp, fun v hv => by simpa using hv⟩, fun x y hx hy => ?_, fun x y hx hy => ?_⟩
  · rw [map_getD (L.lt x y hx hy), map_getD hx, map_getD hy]; rfl
  · rw [map_getD hx, map_getD hy]; exact id
theorem alkB_symm {q r : Sqr} (hq : okS q) (hr : okS r) (h : alkB q r = true) : alkB r q = true := by
  have L := hq.lat
  have K := hr.lat
  obtain ⟨e, p, ⟨hl, hv⟩, hi⟩ := alkB_iff.1 h
  rw [← e] at K
  have hlt : ∀ i, i < q.n.toNat → p.getD i 0 < q.n.toNat := fun i => getD_lt hl hv
  have hs : ∀ v, ∃ i, v < q.n.toNat → i < q.n.toNat ∧ p.getD i 0 = v := fun v => by
    by_cases h : v < q.n.toNat
    · obtain ⟨i, h1, h2⟩ := surj_of_inj q.n.toNat (fun i => p.getD i 0) hlt hi.inj v h
      exact ⟨i, fun _ => ⟨h1, h2⟩⟩
    · exact ⟨0, fun h' => absurd h' h⟩
  obtain ⟨g, hg⟩ := Classical.axiomOfChoice hs
  refine alkB_iff.2 ⟨e.symm, (List.range r.n.toNat).map g, ⟨by simp, fun v hv => ?_⟩, fun x y hx hy => ?_, fun x y hx hy => ?_⟩
  · obtain ⟨i, hi', rfl⟩ := List.mem_map.1 hv
    rw [List.mem_range] at hi'
    rw [← e] at hi' ⊢
    exact (hg i hi').1
  · rw [← e] at hx hy
    have hu := K.lt x y hx hy
    rw [← e, map_getD hu, map_getD hx, map_getD hy]
    have hx' := hg x hx
    have hy' := hg y hy
    refine hi.inj _ _ (hg _ hu).1 (L.lt _ _ hx'.1 hy'.1) ?_
    rw [(hg _ hu).2, hi.hom _ _ hx'.1 hy'.1, hx'.2, hy'.2]
  · rw [← e] at hx hy
    rw [← e, map_getD hx, map_getD hy]
    intro h2
    rw [← (hg x hx).2, ← (hg y hy).2, h2]
theorem alkB_comm {q r : Sqr} (hq : okS q) (hr : okS r) : alkB q r = alkB r q := by
  rw [Bool.eq_iff_iff]; exact ⟨alkB_symm hq hr, alkB_symm hr hq⟩

/-! ### Classes -/
section
variable (same : Nat → Nat → Bool)
/-- One number more goes to its class, or makes a new one. -/
def clsStep (out : List (List Nat)) (i : Nat) : List (List Nat) :=
  match out.findIdx? (fun c => same (c.headD 0) i) with
  | some k => out.modify k (· ++ [i])
  | none => out ++ [[i]]
def clsTo : Nat → List (List Nat)
  | 0 => []
  | m + 1 => clsStep same (clsTo m) m
variable {same}
theorem clsStep_le (out : List (List Nat)) (i : Nat) : (clsStep same out i).length ≤ out.length + 1 := by
  unfold clsStep; split <;> simp
theorem clsTo_le : ∀ m, (clsTo same m).length ≤ m
  | 0 => Nat.le_refl _
  | m + 1 => Nat.le_trans (clsStep_le _ _) (Nat.succ_le_succ (clsTo_le m))
theorem clsTo_new : ∀ m, (∀ i, i < m → ∀ j, j < i → same j i = false) → clsTo same m = (List.range m).map fun i => [i]
  | 0, _ => rfl
  | m + 1, h => by
    have ih := clsTo_new m fun i hi => h i (by omega)
    have hn : ((List.range m).map fun i => [i]).findIdx? (fun c => same (c.headD 0) m) = none := by
      rw [List.findIdx?_eq_none_iff]
      intro c hc
      obtain ⟨j, hj, rfl⟩ := List.mem_map.1 hc
      exact h m (by omega) j (List.mem_range.1 hj)
    show clsStep same (clsTo same m) m = _
    unfold clsStep
    rw [ih, hn, List.range_succ, List.map_append]
    rfl
theorem clsTo_met {i j : Nat} (hj : j < i) (h : same j i = true) (hb : ∀ i', i' < i → ∀ j', j' < i' → same j' i' = false) : ∀ m, i < m → (clsTo same m).length < m
  | 0, hm => absurd hm (by omega)
  | m + 1, hm => by
    rcases Nat.lt_or_eq_of_le (Nat.lt_succ_iff.1 hm) with h1 | rfl
    · exact Nat.lt_of_le_of_lt (clsStep_le _ _) (Nat.succ_lt_succ (clsTo_met hj h hb m h1))
    · have e := clsTo_new i hb
      show (clsStep same (clsTo same i) i).length < i + 1
      unfold clsStep
      rw [e]
      split
      · simp
      · rename_i hn
        rw [List.findIdx?_eq_none_iff] at hn
        have := hn [j] (List.mem_map.2 ⟨j, List.mem_range.2 hj, rfl⟩)
        rw [show ([j] : List Nat).headD 0 = j from rfl, h] at this
        cases this
theorem first_bad {Q : Nat → Prop} : ∀ {m : Nat}, (¬ ∀ i, i < m → Q i) → ∃ i, i < m ∧ ¬ Q i ∧ ∀ i', i' < i → Q i'
  | 0, h => absurd (fun i hi => absurd hi (by omega)) h
  | m + 1, h => by
    by_cases hm : ∀ i, i < m → Q i
    · refine ⟨m, by omega, fun hq => h fun i hi => ?_, hm⟩
      rcases Nat.lt_or_eq_of_le (Nat.lt_succ_iff.1 hi) with h1 | rfl
      · exact hm i h1
      · exact hq
    · obtain ⟨i, h1, h2, h3⟩ := first_bad hm
      exact ⟨i, by omega, h2, h3⟩
/-- There are as many classes as numbers just if no number is the same as an earlier one. -/
theorem clsTo_all (m : Nat) : (clsTo same m).length = m ↔ ∀ i, i < m → ∀ j, j < i → same j i = false := by
  constructor
  · intro h
    by_cases hc : ∀ i, i < m → ∀ j, j < i → same j i = false
    · exact hc
    · obtain ⟨i, hi, h1, h2⟩ := first_bad hc
      have : ∃ j, j < i ∧ same j i = true := by
        by_cases h3 : ∃ j, j < i ∧ same j i = true
        · exact h3
        · exact absurd (fun j hj => by
            cases h4 : same j i with
            | false => rfl
            | true => exact absurd ⟨j, hj, h4⟩ h3) h1
      obtain ⟨j, hj, h3⟩ := this
      have := clsTo_met hj h3 h2 m hi
      omega
  · intro h
    rw [clsTo_new m h]; simp
end

/-! ### What the program asks of a book -/
/-- Whether a name is valid and no earlier one. -/
noncomputable def nameI (ns : List ByteArray) (i : Nat) : Bool :=
  nameB (ns.getD i .empty) && !((ns.take i).any fun x => (ns.getD i .empty).toList == x.toList)
/-- Of two loops of a list: whether they are alike. -/
noncomputable def alkAt (ls : List Sqr) (j i : Nat) : Bool := alkB (ls.getD j sq00) (ls.getD i sq00)
noncomputable def isBkI (ns : List ByteArray) (ls : List Sqr) : Bool :=
  decide (ns.length ≤ 20) && decide (ls.length = ns.length) && ls.all lpB && !(ls.any fun q => decide (7 < q.n)) && (List.range ns.length).all (nameI ns) && decide ((clsTo (alkAt ls) ls.length).length = ls.length)
theorem getD_at {α : Type} {l : List α} {z : α} {i : Nat} (h : i < l.length) : l.getD i z = l[i] := by
  rw [List.getD_eq_getElem?_getD, List.getElem?_eq_getElem h]; rfl
theorem placeOf_at {α : Type} {p : α → Bool} {l : List α} {k : Nat} (hk : k < l.length) : (placeOf p l == (k : Int)) = true ↔ p l[k] = true ∧ ∀ j (h : j < k), p (l[j]'(Nat.lt_trans h hk)) = false := by
  rw [beq_iff_eq]
  unfold placeOf
  split
  · rename_i i hi
    obtain ⟨h1, h2, h3⟩ := List.findIdx?_eq_some_iff_getElem.1 hi
    constructor
    · intro e
      obtain rfl : i = k := by omega
      exact ⟨h2, fun j hj => by simpa using h3 j hj⟩
    · rintro ⟨h4, h5⟩
      rcases Nat.lt_trichotomy i k with h6 | h6 | h6
      · rw [h5 i h6] at h2; cases h2
      · rw [h6]
      · exact absurd h4 (h3 k h6)
  · rename_i hn
    rw [List.findIdx?_eq_none_iff] at hn
    constructor
    · intro e; omega
    · rintro ⟨h4, _⟩
      rw [hn _ (List.getElem_mem _)] at h4; cases h4
theorem lpB_ok {q : Sqr} (hb : Byt2 q.t) (h : lpB q = true) : okS q := ⟨hb, isSq_true.2 (isLp_true.1 h).sq⟩
theorem isBkI_eq (ns : List ByteArray) (ls : List Sqr) (hby : ∀ q ∈ ls, Byt2 q.t) : isBkI ns ls = isBk ns ls := by
  by_cases h1 : ns.length ≤ 20
  case neg => simp [isBkI, isBk, h1]
  by_cases h2 : ls.length = ns.length
  case neg => simp [isBkI, isBk, h2]
  cases h3 : ls.all lpB
  case false =>
    have : (List.range ns.length).all (itemB ns ls) = false := by
      obtain ⟨q, hq, h4⟩ := List.all_eq_false.1 h3
      obtain ⟨i, hi, rfl⟩ := List.getElem_of_mem hq
      refine List.all_eq_false.2 ⟨i, List.mem_range.2 (by omega), ?_⟩
      unfold itemB
      rw [getD_at hi (z := sq00)]
      simp [h4]
    simp [isBkI, isBk, h3, this]
  cases h4 : ls.any (fun q => decide (7 < q.n))
  case true =>
    have : (List.range ns.length).all (itemB ns ls) = false := by
      obtain ⟨q, hq, h5⟩ := List.any_eq_true.1 h4
      obtain ⟨i, hi, rfl⟩ := List.getElem_of_mem hq
      refine List.all_eq_false.2 ⟨i, List.mem_range.2 (by omega), ?_⟩
      unfold itemB
      rw [getD_at hi (z := sq00)]
      simp only [h5]
      simp
    simp [isBkI, isBk, h4, this]
  have hok : ∀ i (h : i < ls.length), okS ls[i] := fun i h => lpB_ok (hby _ (List.getElem_mem h)) (List.all_eq_true.1 h3 _ (List.getElem_mem h))
  have e1 : (List.range ns.length).all (nameI ns) = (List.range ns.length).all (itemB ns ls) := by
    rw [Bool.eq_iff_iff, List.all_eq_true, List.all_eq_true]
    refine forall_congr' fun i => ?_
    refine imp_congr_right fun hi => ?_
    rw [List.mem_range] at hi
    have hil : i < ls.length := by omega
    have g1 : lpB ls[i] = true := List.all_eq_true.1 h3 _ (List.getElem_mem hil)
    have g2 : decide (7 < ls[i].n) = false := by
      have := List.any_eq_false.1 h4 _ (List.getElem_mem hil)
      simpa using this
    unfold nameI itemB
    rw [getD_at hi (z := .empty), getD_at hil (z := sq00), g1, g2]
    simp only [Bool.and_eq_true, Bool.not_false, and_true, Bool.not_eq_true']
    refine and_congr_right fun _ => ?_
    rw [placeOf_at hi]
    constructor
    · intro h
      refine ⟨by simp, fun j hj => ?_⟩
      have := List.any_eq_false.1 h (ns[j]'(by omega)) (List.mem_take_iff_getElem.2 ⟨j, by omega, rfl⟩)
      rw [Bool.not_eq_true] at this
      rw [← this, Bool.eq_iff_iff, beq_iff_eq, beq_iff_eq]
      exact eq_comm
    · rintro ⟨_, h⟩
      refine List.any_eq_false.2 fun x hx => ?_
      obtain ⟨j, hj, rfl⟩ := List.mem_take_iff_getElem.1 hx
      have := h j (by omega)
      rw [Bool.not_eq_true, ← this, Bool.eq_iff_iff, beq_iff_eq, beq_iff_eq]
      exact eq_comm
  have e2 : decide ((clsTo (alkAt ls) ls.length).length = ls.length) = (List.range ls.length).all (firstB ls) := by
    rw [Bool.eq_iff_iff, decide_eq_true_eq, clsTo_all, List.all_eq_true]
    refine forall_congr' fun i => ?_
    rw [List.mem_range]
    refine imp_congr_right fun hi => ?_
    unfold firstB alkAt
    rw [getD_at hi (z := sq00), placeOf_at hi]
    constructor
    · intro h
      refine ⟨alkB_refl (hok i hi), fun j hj => ?_⟩
      have := h j hj
      rw [getD_at (show j < ls.length by omega) (z := sq00)] at this
      rw [alkB_comm (hok i hi) (hok j (by omega))]; exact this
    · rintro ⟨_, h⟩ j hj
      rw [getD_at (show j < ls.length by omega) (z := sq00), alkB_comm (hok j (by omega)) (hok i hi)]
      exact h j hj
  unfold isBkI isBk
  rw [h3, h4, e1, e2]
  simp
end Go.Proofs.Ytinjjaoikofkdaa
