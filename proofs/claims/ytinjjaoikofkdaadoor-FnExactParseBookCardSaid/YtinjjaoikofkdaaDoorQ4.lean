/- Books, plain: alike loops, their classes, and that what the program asks of a book is what the reference asks. -/
import Derived.Test.YtinjjaoikofkdaaDoorQ3
import Derived.Test.YtinjjaoikofkdaaDoorQ1
import Derived.Test.YtinjjaoikofkdaaDoorQ2
import Derived.Test.YtinjjaoikofkdaaDoorRows
import Derived.ProofKit
import Derived.OpenShut
import Derived.ChangeOld
import Derived.Below
import Derived.Carry
import Derived.SliceStrings
import Derived.Lib.Join
import Derived.Shelf.Lay
import Derived.Shelf.Strings.OnBuilder
import Derived.Maps.AppendAt
namespace Go.Proofs.YtinjjaoikofkdaaDoor
set_option linter.unusedSimpArgs false
set_option linter.unusedVariables false

/-! ### Alike -/
theorem isoRes_ok : ∀ l : List (List Nat), ((isoRes l).2 == 0) = !l.isEmpty
  | [] => rfl
  | _ :: _ => rfl
theorem alkB_iff {q r : Sqr} : alkB q r = true ↔ q.n.toNat = r.n.toNat ∧ ∃ p : List Nat, (p.length = q.n.toNat ∧ ∀ v ∈ p, v < q.n.toNat) ∧ IsIso q.n.toNat q.t r.t p := by
  unfold alkB
  rw [isoRes_ok, Bool.not_eq_true', List.isEmpty_eq_false_iff]
  unfold isoAll
  split
  · rename_i e
    constructor
    · intro h
      obtain ⟨p, hp⟩ := List.exists_mem_of_ne_nil _ h
      have := mem_isos.1 hp
      exact ⟨e, p, this.1, this.2.1⟩
    · rintro ⟨_, p, h1, h2⟩ h
      have : p ∈ isos q.n.toNat q.t r.t fun _ => none := mem_isos.2 ⟨h1, h2, fun _ _ _ h => by cases h⟩
      rw [h] at this
      cases this
  · rename_i e
    exact ⟨fun h => absurd rfl h, fun h => absurd h.1 e⟩
theorem okS.lat {q : Sqr} (h : okS q) : Lat q.n.toNat q.t := by
  have s := isSq_true.1 h.2
  have e : ((q.n.toNat : Nat) : Int) = q.n := Int.toNat_of_nonneg (by have := s.lo; omega)
  exact Lat.of_sq (by rw [e]; exact s)
theorem getD_lt {p : List Nat} {N : Nat} (hl : p.length = N) (hv : ∀ v ∈ p, v < N) {i : Nat} (hi : i < N) : p.getD i 0 < N := by
  rw [List.getD_eq_getElem?_getD, List.getElem?_eq_getElem (by omega)]
  exact hv _ (List.getElem_mem _)
theorem map_getD {f : Nat → Nat} {N i : Nat} (hi : i < N) : ((List.range N).map f).getD i 0 = f i := by
  rw [List.getD_eq_getElem?_getD, List.getElem?_map, List.getElem?_range hi]; rfl
theorem alkB_refl {q : Sqr} (h : okS q) : alkB q q = true := by
  have L := h.lat
  refine alkB_iff.2 ⟨rfl, (List.range q.n.toNat).map id, ⟨by simp, fun v hv => by simpa using hv⟩, fun x y hx hy => ?_, fun x y hx hy => ?_⟩
  · rw [map_getD (L.lt x y hx hy), map_getD hx, map_getD hy]; rfl
  · rw [map_getD hx, map_getD hy]; exact id
theorem alkB_symm {q r : Sqr} (hq : okS q) (hr : okS r) (h : alkB q r = true) : alkB r q = true := by
  have L := hq.lat
  have K := hr.lat
  obtain ⟨e, p, ⟨hl, hv⟩, hi⟩ := alkB_iff.1 h
  rw [← e] at K
  have hlt : ∀ i, i < q.n.toNat → p.getD i 0 < q.n.toNat := fun i => getD_lt hl hv
  have hs : ∀ v, ∃ i, v < q.n.toNat → i < q.n.toNat ∧ p.getD i 0 = v := fun v => by
    by_cases h : v < q.n.toNat
    · obtain ⟨i, h1, h2⟩ := surj_of_inj q.n.toNat (fun i => p.getD i 0) hlt hi.inj v h
      exact ⟨i, fun _ => ⟨h1, h2⟩⟩
    · exact ⟨0, fun h' => absurd h' h⟩
  obtain ⟨g, hg⟩ := Classical.axiomOfChoice hs
  refine alkB_iff.2 ⟨e.symm, (List.range r.n.toNat).map g, ⟨by simp, fun v hv => ?_⟩, fun x y hx hy => ?_, fun x y hx hy => ?_⟩
  · obtain ⟨i, hi', rfl⟩ := List.mem_map.1 hv
    rw [List.mem_range] at hi'
    rw [← e] at hi' ⊢
    exact (hg i hi').1
  · rw [← e] at hx hy
    have hu := K.lt x y hx hy
    rw [← e, map_getD hu, map_getD hx, map_getD hy]
    have hx' := hg x hx
    have hy' := hg y hy
    refine hi.inj _ _ (hg _ hu).1 (L.lt _ _ hx'.1 hy'.1) ?_
    rw [(hg _ hu).2, hi.hom _ _ hx'.1 hy'.1, hx'.2, hy'.2]
  · rw [← e] at hx hy
    rw [← e, map_getD hx, map_getD hy]
    intro h2
    rw [← (hg x hx).2, ← (hg y hy).2, h2]
theorem alkB_comm {q r : Sqr} (hq : okS q) (hr : okS r) : alkB q r = alkB r q := by
  rw [Bool.eq_iff_iff]; exact ⟨alkB_symm hq hr, alkB_symm hr hq⟩

/-! ### Classes -/
section
variable (same : Nat → Nat → Bool)
/-- One number more goes to its class, or makes a new one. -/
def clsStep (out : List (List Nat)) (i : Nat) : List (List Nat) :=
  match out.findIdx? (fun c => same (c.headD 0) i) with
  | some k => out.modify k (· ++ [i])
  | none => out ++ [[i]]
def clsTo : Nat → List (List Nat)
  | 0 => []
  | m + 1 => clsStep same (clsTo m) m
variable {same}
theorem clsStep_le (out : List (List Nat)) (i : Nat) : (clsStep same out i).length ≤ out.length + 1 := by
  unfold clsStep; split <;> simp
theorem clsTo_le : ∀ m, (clsTo same m).length ≤ m
  | 0 => Nat.le_refl _
  | m + 1 => Nat.le_trans (clsStep_le _ _) (Nat.succ_le_succ (clsTo_le m))
theorem clsTo_new : ∀ m, (∀ i, i < m → ∀ j, j < i → same j i = false) → clsTo same m = (List.range m).map fun i => [i]
  | 0, _ => rfl
  | m + 1, h => by
    have ih := clsTo_new m fun i hi => h i (by omega)
    have hn : ((List.range m).map fun i => [i]).findIdx? (fun c => same (c.headD 0) m) = none := by
      rw [List.findIdx?_eq_none_iff]
      intro c hc
      obtain ⟨j, hj, rfl⟩ := List.mem_map.1 hc
      exact h m (by omega) j (List.mem_range.1 hj)
    show clsStep same (clsTo same m) m = _
    unfold clsStep
    rw [ih, hn, List.range_succ, List.map_append]
    rfl
theorem clsTo_met {i j : Nat} (hj : j < i) (h : same j i = true) (hb : ∀ i', i' < i → ∀ j', j' < i' → same j' i' = false) : ∀ m, i < m → (clsTo same m).length < m
  | 0, hm => absurd hm (by omega)
  | m + 1, hm => by
    rcases Nat.lt_or_eq_of_le (Nat.lt_succ_iff.1 hm) with h1 | rfl
    · exact Nat.lt_of_le_of_lt (clsStep_le _ _) (Nat.succ_lt_succ (clsTo_met hj h hb m h1))
    · have e := clsTo_new i hb
      show (clsStep same (clsTo same i) i).length < i + 1
      unfold clsStep
      rw [e]
      split
      · simp
      · rename_i hn
        rw [List.findIdx?_eq_none_iff] at hn
        have := hn [j] (List.mem_map.2 ⟨j, List.mem_range.2 hj, rfl⟩)
        rw [show ([j] : List Nat).headD 0 = j from rfl, h] at this
        cases this
theorem first_bad {Q : Nat → Prop} : ∀ {m : Nat}, (¬ ∀ i, i < m → Q i) → ∃ i, i < m ∧ ¬ Q i ∧ ∀ i', i' < i → Q i'
  | 0, h => absurd (fun i hi => absurd hi (by omega)) h
  | m + 1, h => by
    by_cases hm : ∀ i, i < m → Q i
    · refine ⟨m, by omega, fun hq => h fun i hi => ?_, hm⟩
      rcases Nat.lt_or_eq_of_le (Nat.lt_succ_iff.1 hi) with h1 | rfl
      · exact hm i h1
      · exact hq
    · obtain ⟨i, h1, h2, h3⟩ := first_bad hm
      exact ⟨i, by omega, h2, h3⟩
/-- There are as many classes as numbers just if no number is the same as an earlier one. -/
theorem clsTo_all (m : Nat) : (clsTo same m).length = m ↔ ∀ i, i < m → ∀ j, j < i → same j i = false := by
  constructor
  · intro h
    by_cases hc : ∀ i, i < m → ∀ j, j < i → same j i = false
    · exact hc
    · obtain ⟨i, hi, h1, h2⟩ := first_bad hc
      have : ∃ j, j < i ∧ same j i = true := by
        by_cases h3 : ∃ j, j < i ∧ same j i = true
        · exact h3
        · exact absurd (fun j hj => by
            cases h4 : same j i with
            | false => rfl
            | true => exact absurd ⟨j, hj, h4⟩ h3) h1
      obtain ⟨j, hj, h3⟩ := this
      have := clsTo_met hj h3 h2 m hi
      omega
  · intro h
    rw [clsTo_new m h]; simp
end

/-! ### What the program asks of a book -/
/-- Whether a name is valid and no earlier one. -/
noncomputable def nameI (ns : List ByteArray) (i : Nat) : Bool :=
  nameB (ns.getD i .empty) && !((ns.take i).any fun x => (ns.getD i .empty).toList == x.toList)
/-- Of two loops of a list: whether they are alike. -/
noncomputable def alkAt (ls : List Sqr) (j i : Nat) : Bool := alkB (ls.getD j sq00) (ls.getD i sq00)
noncomputable def isBkI (ns : List ByteArray) (ls : List Sqr) : Bool :=
  decide (ns.length ≤ 20) && decide (ls.length = ns.length) && ls.all lpB && !(ls.any fun q => decide (7 < q.n)) && (List.range ns.length).all (nameI ns) && decide ((clsTo (alkAt ls) ls.length).length = ls.length)
theorem getD_at {α : Type} {l : List α} {z : α} {i : Nat} (h : i < l.length) : l.getD i z = l[i] := by
  rw [List.getD_eq_getElem?_getD, List.getElem?_eq_getElem h]; rfl
theorem placeOf_at {α : Type} {p : α → Bool} {l : List α} {k : Nat} (hk : k < l.length) : (placeOf p l == (k : Int)) = true ↔ p l[k] = true ∧ ∀ j (h : j < k), p (l[j]'(Nat.lt_trans h hk)) = false := by
  rw [beq_iff_eq]
  unfold placeOf
  split
  · rename_i i hi
    obtain ⟨h1, h2, h3⟩ := List.findIdx?_eq_some_iff_getElem.1 hi
    constructor
    · intro e
      obtain rfl : i = k := by omega
      exact ⟨h2, fun j hj => by simpa using h3 j hj⟩
    · rintro ⟨h4, h5⟩
      rcases Nat.lt_trichotomy i k with h6 | h6 | h6
      · rw [h5 i h6] at h2; cases h2
      · rw [h6]
      · exact absurd h4 (h3 k h6)
  · rename_i hn
    rw [List.findIdx?_eq_none_iff] at hn
    constructor
    · intro e; omega
    · rintro ⟨h4, _⟩
      rw [hn _ (List.getElem_mem _)] at h4; cases h4
theorem lpB_ok {q : Sqr} (hb : Byt2 q.t) (h : lpB q = true) : okS q := ⟨hb, isSq_true.2 (isLp_true.1 h).sq⟩
theorem isBkI_eq (ns : List ByteArray) (ls : List Sqr) (hby : ∀ q ∈ ls, Byt2 q.t) : isBkI ns ls = isBk ns ls := by
  by_cases h1 : ns.length ≤ 20
  case neg => simp [isBkI, isBk, h1]
  by_cases h2 : ls.length = ns.length
  case neg => simp [isBkI, isBk, h2]
  cases h3 : ls.all lpB
  case false =>
    have : (List.range ns.length).all (itemB ns ls) = false := by
      obtain ⟨q, hq, h4⟩ := List.all_eq_false.1 h3
      obtain ⟨i, hi, rfl⟩ := List.getElem_of_mem hq
      refine List.all_eq_false.2 ⟨i, List.mem_range.2 (by omega), ?_⟩
      unfold itemB
      rw [getD_at hi (z := sq00)]
      simp [h4]
    simp [isBkI, isBk, h3, this]
  cases h4 : ls.any (fun q => decide (7 < q.n))
  case true =>
    have : (List.range ns.length).all (itemB ns ls) = false := by
      obtain ⟨q, hq, h5⟩ := List.any_eq_true.1 h4
      obtain ⟨i, hi, rfl⟩ := List.getElem_of_mem hq
      refine List.all_eq_false.2 ⟨i, List.mem_range.2 (by omega), ?_⟩
      unfold itemB
      rw [getD_at hi (z := sq00)]
      simp only [h5]
      simp
    simp [isBkI, isBk, h4, this]
  have hok : ∀ i (h : i < ls.length), okS ls[i] := fun i h => lpB_ok (hby _ (List.getElem_mem h)) (List.all_eq_true.1 h3 _ (List.getElem_mem h))
  have e1 : (List.range ns.length).all (nameI ns) = (List.range ns.length).all (itemB ns ls) := by
    rw [Bool.eq_iff_iff, List.all_eq_true, List.all_eq_true]
    refine forall_congr' fun i => ?_
    refine imp_congr_right fun hi => ?_
    rw [List.mem_range] at hi
    have hil : i < ls.length := by omega
    have g1 : lpB ls[i] = true := List.all_eq_true.1 h3 _ (List.getElem_mem hil)
    have g2 : decide (7 < ls[i].n) = false := by
      have := List.any_eq_false.1 h4 _ (List.getElem_mem hil)
      simpa using this
    unfold nameI itemB
    rw [getD_at hi (z := .empty), getD_at hil (z := sq00), g1, g2]
    simp only [Bool.and_eq_true, Bool.not_false, and_true, Bool.not_eq_true']
    refine and_congr_right fun _ => ?_
    rw [placeOf_at hi]
    constructor
    · intro h
      refine ⟨by simp, fun j hj => ?_⟩
      have := List.any_eq_false.1 h (ns[j]'(by omega)) (List.mem_take_iff_getElem.2 ⟨j, by omega, rfl⟩)
      rw [Bool.not_eq_true] at this
      rw [← this, Bool.eq_iff_iff, beq_iff_eq, beq_iff_eq]
      exact eq_comm
    · rintro ⟨_, h⟩
      refine List.any_eq_false.2 fun x hx => ?_
      obtain ⟨j, hj, rfl⟩ := List.mem_take_iff_getElem.1 hx
      have := h j (by omega)
      rw [Bool.not_eq_true, ← this, Bool.eq_iff_iff, beq_iff_eq, beq_iff_eq]
      exact eq_comm
  have e2 : decide ((clsTo (alkAt ls) ls.length).length = ls.length) = (List.range ls.length).all (firstB ls) := by
    rw [Bool.eq_iff_iff, decide_eq_true_eq, clsTo_all, List.all_eq_true]
    refine forall_congr' fun i => ?_
    rw [List.mem_range]
    refine imp_congr_right fun hi => ?_
    unfold firstB alkAt
    rw [getD_at hi (z := sq00), placeOf_at hi]
    constructor
    · intro h
      refine ⟨alkB_refl (hok i hi), fun j hj => ?_⟩
      have := h j hj
      rw [getD_at (show j < ls.length by omega) (z := sq00)] at this
      rw [alkB_comm (hok i hi) (hok j (by omega))]; exact this
    · rintro ⟨_, h⟩ j hj
      rw [getD_at (show j < ls.length by omega) (z := sq00), alkB_comm (hok j (by omega)) (hok i hi)]
      exact h j hj
  unfold isBkI isBk
  rw [h3, h4, e1, e2]
  simp
end Go.Proofs.YtinjjaoikofkdaaDoor

/- Classes of loops, for the program: contracts of the search for a class. -/
namespace Go.Proofs.YtinjjaoikofkdaaDoor
set_option linter.unusedSimpArgs false
set_option linter.unusedVariables false
open Go Go.RowKit

set_option maxRecDepth 100000 in
set_option maxHeartbeats 1000000 in
theorem idxSlices_any {α : Type} (l : List α) (vs : List Value) (hvl : vs.length = l.length) (hlen : l.length ≤ 10000000) (w : World) (pp : Option Addr) (cap : Nat) (hr : rdq w pp l.length (fun j => vs.getD j undef)) (f : Nat) (cp : Array Value) (p : α → Bool)
    (hen : ∀ (args : Array Value) (w : World), (callFunc f args).run Tryd.prog w = .ok (.enter f args) w)
    (hf : ∀ k (h : k < l.length), ∀ w1, Below w.heap.size w w1 → Calls Tryd.prog f (#[vs[k]'(by omega)] ++ cp) w1 fun e w' => e = .returned (.bool (p l[k])) ∧ Below w1.heap.size w1 w') :
    Calls Tryd.prog 57 #[.slice pp l.length cap, .func (.func f) #[] cp] w fun e w' => e = .returned (.int .i64 (placeOf p l)) ∧ Below w.heap.size w w' := by
  have M := (Mm.start no w).add (x := Ent.own l.length pp (fun j => vs.getD j undef)) hr.ent fun _ h => by cases h
  have HF := Hid2.mk hf
  clear hr hf
  go_enter Tryd.func57, Tryd.ntmps57
  go_wp2
  go_loopw [8, 5] (fun i _ wr => ∃ k : Nat, k ≤ l.length ∧ i = .int .i64 (k : Int) ∧ (∀ j (h : j < l.length), j < k → p l[j] = false) ∧ Mm no w wr [Ent.own l.length pp (fun j => vs.getD j undef)]) (fun i _ _ => l.length - (intOf i).toNat)
  case atStart => exact ⟨0, by omega, rfl, fun j _ h => by omega, M⟩
  case round =>
    obtain ⟨k, hk, rfl, hl, M9⟩ := hrel
    clear M
    have M := M9
    clear M9
    have HL := Hid2.mk hl
    clear hl
    by_cases hlt : k < l.length
    · have hlt' : (k : Int) < (l.length : Int) := by omega
      have hfound := fun h => @placeOf_some _ p l k hlt (fun j hj => HL.out j (Nat.lt_trans hj hlt) hj) h
      have hnext : p l[k] = false → ∀ j (h : j < l.length), j < k + 1 → p l[j] = false := fun h j hj h1 => by
        rcases Nat.lt_or_eq_of_le (Nat.lt_succ_iff.1 h1) with h2 | rfl
        · exact HL.out j hj h2
        · exact h
      have hF := HF.out k hlt
      obtain ⟨g, hpp, hrr⟩ := rdq_in M 0 rfl (by omega)
      have hcell := hrr.at_ k hlt
      have hvk : vs.getD k undef = vs[k] := getD_at (by omega)
      rw [hvk] at hcell
      generalize vs[k] = vk at hF hcell
      clear hvk hrr
      subst hpp
      cases hv : p l[k] with
      | false =>
        simp only [hv] at hF
        have HST := Hid2.mk (hnext hv)
        clear hfound hnext hv
        go_wp2
        refine (hF _ M.below).mono ?_
        rintro e w1 ⟨rfl, hb⟩
        have M9 := M.later hb
        clear M hcell
        have M := M9
        clear M9
        go_wp2
        go_roundw
        case rel => exact ⟨k + 1, by omega, by go_num, HST.out, M⟩
        case measure => simp [intOf]; omega
      | true =>
        simp only [hv] at hF
        have HST := Hid2.mk (hfound hv)
        clear hfound hnext hv
        go_wp2
        refine (hF _ M.below).mono ?_
        rintro e w1 ⟨rfl, hb⟩
        have M9 := M.later hb
        clear M hcell
        have M := M9
        clear M9
        go_wp2
        go_ret
        exact ⟨by rw [HST.out]; rfl, M.below⟩
    · obtain rfl : k = l.length := by omega
      have hge : ¬ ((l.length : Int) < (l.length : Int)) := by omega
      go_wp2
      go_ret
      exact ⟨by rw [placeOf_none fun j hj => HL.out j hj hj]; rfl, M.below⟩

set_option maxRecDepth 100000 in
set_option maxHeartbeats 1000000 in
/-- The closure of the search: whether a loop goes to a class. -/
theorem classFn_any (ls : List Sqr) (hlen : ls.length ≤ 10000000) (i j : Nat) (hi : i < ls.length) (hj : j < ls.length) (S : Sqr → Sqr → Bool) (w : World) (g cap b1 b2 b3 f gk n c : Nat)
    (hen : ∀ (args : Array Value) (w : World), (callFunc f args).run Tryd.prog w = .ok (.enter f args) w)
    (hf : ∀ q ∈ ls, ∀ r ∈ ls, ∀ w1, Calls Tryd.prog f #[.agg (sqs q.n q.t), .agg (sqs r.n r.t)] w1 fun e w' => e = .returned (.bool (S q r)) ∧ Below w1.heap.size w1 w')
    (hr : rds w g (ls.length * 101) (fun j => (slC ls).getD j undef)) (h1 : rds w b1 1 (fun _ => .func (.func f) #[] #[])) (h2 : rds w b2 1 (fun _ => .slice (some ⟨g, 0, none⟩) ls.length cap)) (h3 : rds w b3 101 (fun j => (sqC ls[i]).getD j undef))
    (hk : w.cell? ⟨gk, 0, none⟩ = some (.int .i64 (j : Int))) (hn : 0 < n) :
    Calls Tryd.prog 58 #[.slice (some ⟨gk, 0, none⟩) n c, .pointer (some ⟨b1, 0, none⟩), .pointer (some ⟨b2, 0, none⟩), .pointer (some ⟨b3, 0, none⟩)] w fun e w' => e = .returned (.bool (S ls[j] ls[i])) ∧ Below w.heap.size w w' := by
  have M := Mm.start no w
  have hF := hf _ (List.getElem_mem hj) _ (List.getElem_mem hi)
  have hj' : (j : Int) < (ls.length : Int) := by omega
  have hn' : (0 : Int) < (n : Int) := by omega
  have hfa : ∀ w2, Below w.heap.size w w2 → (w2.cell? ⟨b1, 0, none⟩ = some (.func (.func f) #[] #[])) ∧ (w2.cell? ⟨b2, 0, none⟩ = some (.slice (some ⟨g, 0, none⟩) ls.length cap)) ∧ (w2.cell? ⟨gk, 0, none⟩ = some (.int .i64 (j : Int))) ∧
      (∀ j' v, (sqs ls[j].n ls[j].t)[j']? = some v → w2.cell? ⟨g, j * 101 + j', none⟩ = some v) ∧ (∀ j' v, (sqs ls[i].n ls[i].t)[j']? = some v → w2.cell? ⟨b3, 0 + j', none⟩ = some v) := fun w2 hb =>
    ⟨(h1.later hb).at_ 0 (by omega), (h2.later hb).at_ 0 (by omega), by rw [hb.cell (p := ⟨gk, 0, none⟩) (World.block_lt_of_cell? w _ hk)]; exact hk, sq_cells (hr.later hb) hj, fun j' v hv => by
      have hlt : j' < 101 := by have := (Array.getElem?_eq_some_iff.1 hv).1; rwa [sqs_size] at this
      rw [Nat.zero_add, (h3.later hb).at_ j' hlt]
      show some ((sqs ls[i].n ls[i].t).getD j' undef) = some v
      rw [Array.getD_eq_getD_getElem?, hv]; rfl⟩
  generalize S ls[j] ls[i] = res at hF ⊢
  generalize ls[i] = q at hfa hF
  generalize ls[j] = r at hfa hF
  have FA := Hid2.mk hfa
  clear hf hr h1 h2 h3 hk hfa
  go_enter Tryd.func58, Tryd.ntmps58
  go_wp2
  apply wp_region_mm M 8 (by kernel_rfl) (by kernel_rfl)
  · simp only [List.take_succ_cons, List.take_zero]
    repeat (first | exact wpText_nil | (apply wpText_cons; (intro w2 M; have hc1 := (FA.out _ M.below).1; have hc2 := (FA.out _ M.below).2.1; have hc3 := (FA.out _ M.below).2.2.1; go_wp2_with (first | (refine wpList_load_part rfl 36 _ rfl (g) (j * 101) rfl (sqs r.n r.t) _ und_sqs rfl inf_sqs ((FA.out _ M.below).2.2.2.1) ?_) | (refine wpList_load_part rfl 36 _ rfl (b3) (0) rfl (sqs q.n q.t) _ und_sqs rfl inf_sqs ((FA.out _ M.below).2.2.2.2) ?_)); exact ⟨rfl, rfl, M⟩); rfl))
  clear M
  intro w2 M
  simp only [List.drop_succ_cons, List.drop_zero]
  go_wp2
  refine (hF _).mono ?_
  rintro e w1 ⟨rfl, hb⟩
  have M9 := M.later hb
  clear M
  have M := M9
  clear M9
  go_wp2
  go_ret
  exact ⟨rfl, M.below⟩
end Go.Proofs.YtinjjaoikofkdaaDoor

/- Classes of loops, for the program: the contract. -/
namespace Go.Proofs.YtinjjaoikofkdaaDoor
set_option linter.unusedSimpArgs false
set_option linter.unusedVariables false
open Go Go.RowKit

theorem bsl_cls0 (w : World) : (Instr.buildSlice 62 0 [].toArray).run Tryd.prog w = .ok (.slice (some ⟨w.heap.size, 0, none⟩) 0 0) (w.alloc (.cells #[] 79)) := by kernel_rfl
theorem bsl_clsN (w : World) : (Instr.buildSlice 62 1 [(0, Value.slice none 0 0)].toArray).run Tryd.prog w = .ok (.slice (some ⟨w.heap.size, 0, none⟩) 1 1) (w.alloc (.cells #[.slice none 0 0] 79)) := by kernel_rfl
theorem bsl_cls1 (b : Nat) (w : World) : (Instr.buildSlice 62 1 [(0, Value.slice (some ⟨b, 0, none⟩) 1 1)].toArray).run Tryd.prog w = .ok (.slice (some ⟨w.heap.size, 0, none⟩) 1 1) (w.alloc (.cells #[.slice (some ⟨b, 0, none⟩) 1 1] 79)) := by kernel_rfl
theorem bsl_i64 (i : Int) (w : World) : (Instr.buildSlice 79 1 [(0, Value.int .i64 i)].toArray).run Tryd.prog w = .ok (.slice (some ⟨w.heap.size, 0, none⟩) 1 1) (w.alloc (.cells #[.int .i64 i] 2)) := by kernel_rfl
theorem und_slc : Tryd.prog.underlying 62 = some (.slice 79) := by kernel_rfl
theorem inf_elc : (Tryd.prog.info? 79).map (fun i => (i.zero, i.size, i.bytes)) = some (some (.slice none 0 0), 1, 24) := by kernel_rfl
theorem und_sli : Tryd.prog.underlying 79 = some (.slice 2) := by kernel_rfl
theorem inf_eli : (Tryd.prog.info? 2).map (fun i => (i.zero, i.size, i.bytes)) = some (some (.int .i64 0), 1, 8) := by kernel_rfl
theorem inf_slc : (Tryd.prog.info? 79).map (·.size) = some 1 := by kernel_rfl
theorem flat_c1 {v : Value} (h : oneV v = true) : flat #[v] := fun u hu => by
  simp only [List.mem_singleton] at hu; subst hu
  cases u <;> simp_all [oneV]

/-- Every class has a number, and none that is too great. -/
theorem clsTo_good {same : Nat → Nat → Bool} : ∀ m, ∀ c ∈ clsTo same m, c ≠ [] ∧ ∀ x ∈ c, x < m
  | 0, c, h => by cases h
  | m + 1, c, h => by
    have ih := clsTo_good (same := same) m
    have h' : c ∈ clsStep same (clsTo same m) m := h
    unfold clsStep at h'
    split at h'
    · rename_i k hk
      obtain ⟨j, hj⟩ := List.getElem?_of_mem h'
      rw [List.getElem?_modify] at hj
      cases he : (clsTo same m)[j]? with
      | none => simp [he] at hj
      | some d =>
        have hd := ih d (List.mem_of_getElem? he)
        rw [he] at hj
        simp only [Option.map_eq_map, Option.map_some, Option.some.injEq] at hj
        split at hj
        · subst hj
          refine ⟨by simp, fun x hx => ?_⟩
          rcases List.mem_append.1 hx with h1 | h1
          · have := hd.2 x h1; omega
          · simp only [List.mem_singleton] at h1; omega
        · subst hj
          exact ⟨hd.1, fun x hx => by have := hd.2 x hx; omega⟩
    · rcases List.mem_append.1 h' with h1 | h1
      · have hd := ih c h1
        exact ⟨hd.1, fun x hx => by have := hd.2 x hx; omega⟩
      · simp only [List.mem_singleton] at h1
        subst h1
        exact ⟨by simp, fun x hx => by simp only [List.mem_singleton] at hx; omega⟩
theorem clsTo_size {same : Nat → Nat → Bool} (m : Nat) (c : List Nat) (h : c ∈ clsTo same m) : c.length ≤ m := by
  have key : ∀ m, ∀ c ∈ clsTo same m, c.length ≤ m := by
    intro m
    induction m with
    | zero => intro c h; cases h
    | succ m ih =>
      intro c h
      have h' : c ∈ clsStep same (clsTo same m) m := h
      unfold clsStep at h'
      split at h'
      · obtain ⟨j, hj⟩ := List.getElem?_of_mem h'
        rw [List.getElem?_modify] at hj
        cases he : (clsTo same m)[j]? with
        | none => simp [he] at hj
        | some d =>
          have hd := ih d (List.mem_of_getElem? he)
          rw [he] at hj
          simp only [Option.map_eq_map, Option.map_some, Option.some.injEq] at hj
          split at hj <;> subst hj
          · rw [List.length_append]; simpa using hd
          · omega
      · rcases List.mem_append.1 h' with h1 | h1
        · have := ih c h1; omega
        · simp only [List.mem_singleton] at h1; subst h1; simp
  exact key m c h

theorem own_one {w : World} {base e size n : Nat} {v : Value} {xs : List Value} (h : w.ownsRow base e size v n xs) : oneV v = true := by
  obtain ⟨pp, cap, rfl⟩ := own_form h
  rfl
theorem rds_one {w : World} {b t : Nat} {v : Value} (h : blk w b #[v] t) : rds w b 1 (fun _ => v) := h.rds fun j hj => by
  obtain rfl : j = 0 := by omega
  rfl
theorem rds_sq {w : World} {b t : Nat} {q : Sqr} (h : blk w b (sqs q.n q.t) t) : rds w b 101 (fun j => (sqC q).getD j undef) := h.rds fun j hj => by
  show (sqs q.n q.t)[j]? = some ((sqs q.n q.t).getD j undef)
  rw [Array.getD_eq_getD_getElem?, Array.getElem?_eq_getElem (show j < (sqs q.n q.t).size by rw [sqs_size]; exact hj)]; rfl

set_option maxRecDepth 100000 in
set_option maxHeartbeats 4000000 in
theorem classesOf_any (ls : List Sqr) (hlen : ls.length ≤ 1048576) (S : Sqr → Sqr → Bool) (w : World) (g cap f : Nat) (hen : ∀ (args : Array Value) (w : World), (callFunc f args).run Tryd.prog w = .ok (.enter f args) w)
    (hf : ∀ q ∈ ls, ∀ r ∈ ls, ∀ w1, Calls Tryd.prog f #[.agg (sqs q.n q.t), .agg (sqs r.n r.t)] w1 fun e w' => e = .returned (.bool (S q r)) ∧ Below w1.heap.size w1 w')
    (hr : rds w g (ls.length * 101) (fun j => (slC ls).getD j undef)) :
    Calls Tryd.prog 39 #[.slice (some ⟨g, 0, none⟩) ls.length cap, .func (.func f) #[] #[]] w fun e w' => ∃ v, e = .returned v ∧ ClsRes w.heap.size w w' v (clsTo (fun j i => S (ls.getD j sq00) (ls.getD i sq00)) ls.length) 79 2 := by
  have M := (Mm.start no w).add (x := .rd g (ls.length * 101) (fun j => (slC ls).getD j undef)) hr fun _ h => by cases h
  have HF := Hid2.mk hf
  have hmf : ∀ (fn : Fn) (first cap : Array Value) (w : World), (Instr.makeFunc fn first cap).run Tryd.prog w = .ok (.func fn first cap) w := fun _ _ _ _ => rfl
  clear hr hf
  generalize hsame : (fun j i => S (ls.getD j sq00) (ls.getD i sq00)) = same
  have C := M.ruleAll; simp only [Go.Proofs.YtinjjaoikofkdaaDoor.ruleAll] at C
  go_enter Tryd.func39, Tryd.ntmps39
  go_wp2_with (first | ((with_reducible apply wpM_box' M 23 (#[.slice (some ⟨g, 0, none⟩) ls.length cap])); rfl; exact ⟨rfl, rfl⟩; clear M; (try clear C); intro bl w9 h_bl M; have C := M.ruleAll; simp only [Go.Proofs.YtinjjaoikofkdaaDoor.ruleAll] at C) | ((with_reducible apply wpM_box' M 64 (#[.func (.func f) #[] #[]])); rfl; exact ⟨rfl, rfl⟩; clear M; (try clear C); intro bs w9 h_bs M; have C := M.ruleAll; simp only [Go.Proofs.YtinjjaoikofkdaaDoor.ruleAll] at C) | ((with_reducible apply wpM_bsl' M 62 0 79 ([]) (#[])); rfl; rfl; rfl; exact bsl_cls0; clear M; (try clear C); intro bo w9 h_bo M; have C := M.ruleAll; simp only [Go.Proofs.YtinjjaoikofkdaaDoor.ruleAll] at C))
  have M9 := M.asRow 0 rfl w.heap.size 0 1 h_bo rfl (Nat.zero_le _)
  clear M; (try clear C)
  have M : Mm no w w9 (.box bs #[.func (.func f) #[] #[]] 64 :: .box bl #[.slice (some ⟨g, 0, none⟩) ls.length cap] 23 :: .rd g (ls.length * 101) (fun j => (slC ls).getD j undef) :: .row w.heap.size (.slice (some ⟨bo, 0, none⟩) 0 0) 0 [] 79 1 :: clsE w.heap.size 2 [] []) := M9.sub [1, 2, 3, 0] (by decide)
  clear M9
  have C := M.ruleAll; simp only [Go.Proofs.YtinjjaoikofkdaaDoor.ruleAll] at C
  go_wp2
  go_loopw [12, 5] (fun i v wr => ∃ k : Nat, k ≤ ls.length ∧ i = .int .i64 (k : Int) ∧ ∃ pp cv vs, v = .slice pp (clsTo same k).length cv ∧ vs.length = (clsTo same k).length ∧ Mm no w wr (.box bs #[.func (.func f) #[] #[]] 64 :: .box bl #[.slice (some ⟨g, 0, none⟩) ls.length cap] 23 :: .rd g (ls.length * 101) (fun j => (slC ls).getD j undef) :: .row w.heap.size (.slice pp (clsTo same k).length cv) (clsTo same k).length vs 79 1 :: clsE w.heap.size 2 vs (clsTo same k))) (fun i _ _ => ls.length - (intOf i).toNat)
  case atStart => exact ⟨0, by omega, rfl, _, _, [], rfl, rfl, M⟩
  case round =>
    obtain ⟨k, hk, rfl, pp, cv, vs, rfl, hvl, M9⟩ := hrel
    clear M; (try clear C)
    have M := M9
    clear M9
    have C := M.ruleAll; simp only [Go.Proofs.YtinjjaoikofkdaaDoor.ruleAll] at C
    by_cases hlt : k < ls.length
    · have hlt' : (k : Int) < (ls.length : Int) := by omega
      have hgood := clsTo_good (same := same) k
      have hle := clsTo_le (same := same) k
      have hsz := clsTo_size (same := same) k
      have hstep : clsTo same (k + 1) = clsStep same (clsTo same k) k := rfl
      generalize clsTo same k = cls at hgood hle hsz hstep hvl M ⊢
      obtain ⟨q, hq⟩ : ∃ q, q = ls[k] := ⟨_, rfl⟩
      have hcells : ∀ {w3}, rds w3 g (ls.length * 101) (fun j => (slC ls).getD j undef) → ∀ j v, (sqs q.n q.t)[j]? = some v → w3.cell? ⟨g, k * 101 + j, none⟩ = some v := fun h => by rw [hq]; exact sq_cells h hlt
      have HCE := Hid2.mk @hcells
      have HI : ∀ bq w1, Mm no w w1 (.box bq (sqs q.n q.t) 36 :: .box bs #[.func (.func f) #[] #[]] 64 :: .box bl #[.slice (some ⟨g, 0, none⟩) ls.length cap] 23 :: .rd g (ls.length * 101) (fun j => (slC ls).getD j undef) :: .row w.heap.size (.slice pp cls.length cv) cls.length vs 79 1 :: clsE w.heap.size 2 vs cls) →
          Calls Tryd.prog 57 #[.slice pp cls.length cv, .func (.func 58) #[] #[.pointer (some ⟨bs, 0, none⟩), .pointer (some ⟨bl, 0, none⟩), .pointer (some ⟨bq, 0, none⟩)]] w1 fun e w' => e = .returned (.int .i64 (placeOf (fun c => same (c.headD 0) k) cls)) ∧ Below w1.heap.size w1 w' := fun bq w1 M => by
        have hown := M.row 4 rfl
        have hrq := rdq_of_own hown
        rw [Nat.mul_one] at hrq
        refine idxSlices_any cls vs hvl (by omega) w1 pp cv hrq 58 _ (fun c => same (c.headD 0) k) (enters_of (P := Tryd.prog) (f := 58) (by exact Tryd.func58) (by kernel_rfl) rfl) fun j hj w2 hb => ?_
        have hent := M.ents (5 + j) _ (show _ = some (.row w.heap.size (vs[j]'(by omega)) cls[j].length (ints cls[j]) 2 1) by rw [Nat.add_comm]; exact clsE_get (by omega) hj)
        obtain ⟨hne, hxs⟩ := hgood cls[j] (List.getElem_mem hj)
        obtain ⟨x, c', hc⟩ : ∃ x c', cls[j] = x :: c' := by
          cases h : cls[j] with
          | nil => exact absurd h hne
          | cons x c' => exact ⟨x, c', rfl⟩
        have hx : x < k := hxs x (by rw [hc]; simp)
        have hown2 : w1.ownsRow w.heap.size 2 1 (vs[j]'(by omega)) cls[j].length (ints cls[j]) := hent
        obtain ⟨gk, ck, hvj, hcell, hgl⟩ := own_head hown2 (by rw [hc]; simp)
        rw [hvj]
        have h9 := classFn_any ls (by omega) k x hlt (by omega) S w2 g cap bs bl bq f gk cls[j].length ck hen HF.out ((M.rd 3 rfl).later hb) (rds_one ((M.box 1 rfl).later hb)) (rds_one ((M.box 2 rfl).later hb)) (by rw [← hq]; exact rds_sq ((M.box 0 rfl).later hb)) (by rw [hb.cell (p := ⟨gk, 0, none⟩) hgl, hcell, hc]; rfl) (by rw [hc]; simp)
        have e1 : same (cls[j].headD 0) k = S ls[x] ls[k] := by
          rw [hc, ← hsame]
          show S (ls.getD x sq00) (ls.getD k sq00) = _
          rw [getD_at (by omega), getD_at hlt]
        rw [e1]
        exact h9
      have hK := HI
      clear HI hq hcells
      cases hfi : cls.findIdx? (fun c => same (c.headD 0) k) with
      | some j =>
        obtain ⟨hjl, _, _⟩ := List.findIdx?_eq_some_iff_getElem.1 hfi
        have hpl : placeOf (fun c => same (c.headD 0) k) cls = (j : Int) := by unfold placeOf; rw [hfi]
        have hst : clsTo same (k + 1) = cls.modify j (· ++ [k]) := by rw [hstep]; unfold clsStep; rw [hfi]
        have HST := Hid2.mk hst
        rw [hpl] at hK
        obtain ⟨go, cv', he, _, _, _⟩ := own_rds (M.row 3 rfl) (by omega)
        cases he
        have hown : wr.ownsRow w.heap.size 2 1 (vs[j]'(by omega)) cls[j].length (ints cls[j]) := show Ent.holds wr (.row w.heap.size (vs[j]'(by omega)) cls[j].length (ints cls[j]) 2 1) from M.ents (4 + j) _ (by rw [Nat.add_comm]; exact clsE_get (by omega) hjl)
        obtain ⟨ppj, cj, hvj⟩ := own_form hown
        have HG := Hid2.mk (show (clsE w.heap.size 2 vs cls)[j]? = some (.row w.heap.size (.slice ppj cls[j].length cj) cls[j].length (ints cls[j]) 2 1) by rw [← hvj]; exact clsE_get (by omega) hjl)
        have HV := Hid2.mk (show vs[j]? = some (.slice ppj cls[j].length cj) by rw [← hvj]; exact List.getElem?_eq_getElem _)
        have hj0 : ¬ ((j : Int) < 0) := by omega
        have hjl' : (j : Int) < (cls.length : Int) := by omega
        have HLE := Hid2.mk (hsz cls[j] (List.getElem_mem hjl))
        clear hown hvj hpl hst hfi hstep hgood hsz
        go_wp2_with (first | (refine wpList_load_part rfl 36 _ rfl (g) (k * 101) rfl (sqs q.n q.t) _ und_sqs rfl inf_sqs (HCE.out (by first | exact M.rd 2 rfl | exact M.rd 3 rfl)) ?_) | ((with_reducible apply wpM_alloc' M 36 (sqs 0 fun _ _ => 0)); rfl; exact ⟨rfl, _, zero_sqs _, rfl⟩; clear M; (try clear C); intro bq w9 h_bq M; have C := M.ruleAll; simp only [Go.Proofs.YtinjjaoikofkdaaDoor.ruleAll] at C) | ((with_reducible apply wpM_sta' M 0 36 (sqs q.n q.t)); rfl; rfl; rfl; rfl; (first | exact .inl (by assumption) | exact .inr rfl | exact .inr (by assumption)); exact ⟨rfl, inf_sqs.trans (congrArg some (sqs_size ..).symm), flat_sqs _ _⟩; (simp only [entCells, List.getElem?_cons_zero, List.getElem?_cons_succ, sqs_size, sqs_size]); clear M; (try clear C); intro w9 M; simp only [List.set_cons_zero, List.set_cons_succ, entBlk, entT, List.getElem?_cons_zero, List.getElem?_cons_succ] at M; have C := M.ruleAll; simp only [Go.Proofs.YtinjjaoikofkdaaDoor.ruleAll] at C) | (go_at_call 57; ((with_reducible refine (hK _ _ M).mono ?_); rintro e w1 ⟨rfl, hb⟩; have M9 := M.later hb; clear M; (try clear C); have M := M9; clear M9; have C := M.ruleAll; simp only [Go.Proofs.YtinjjaoikofkdaaDoor.ruleAll] at C; have hcj : w1.cell? ⟨go, j, none⟩ = some (.slice ppj cls[j].length cj) := by rw [World.ownsRow.cellAt (M.row 4 rfl) j (by omega)]; exact HV.out)) | ((with_reducible apply wpM_bsl' M 79 1 2 ([(0, .int .i64 (k : Int))]) (#[.int .i64 (k : Int)])); rfl; rfl; rfl; exact bsl_i64 _; clear M; (try clear C); intro bi w9 h_bi M; have C := M.ruleAll; simp only [Go.Proofs.YtinjjaoikofkdaaDoor.ruleAll] at C) | ((with_reducible apply wpM_app' M 79 (j + 6) 0 w.heap.size (.slice ppj cls[j].length cj) (cls[j].length) (ints cls[j]) 2 1 8); rfl; exact HG.out; rfl; rfl; rfl; rfl; rfl; exact .inl (Nat.le_refl _); exact M.size; exact und_sli; exact inf_eli; rfl; decide; decide; rfl; rfl; exact flat_c1 rfl; (have := HLE.out; omega); clear M; (try clear C); intro v2 w9 far_v2 M; obtain ⟨pp_v2, cap_v2, rfl⟩ := own_set (i := j + 6) M (show _ = some _ from HG.out); simp only [List.set_cons_zero, List.set_cons_succ, entCells, List.getElem?_cons_zero] at M; have C := M.ruleAll; simp only [Go.Proofs.YtinjjaoikofkdaaDoor.ruleAll] at C) | ((with_reducible apply wpM_rst' M 5 79 w.heap.size go (cls.length) cv 79 (vs) (j) (.slice pp_v2 (cls[j].length + 1) cap_v2)); rfl; rfl; rfl; rfl; exact ⟨rfl, rfl, inf_slc⟩; exact .inl (Nat.le_refl _); omega; clear M; (try clear C); intro w9 M; simp only [List.set_cons_zero, List.set_cons_succ] at M; have C := M.ruleAll; simp only [Go.Proofs.YtinjjaoikofkdaaDoor.ruleAll] at C))
        have M8 : Mm no w w9 (.box bs #[.func (.func f) #[] #[]] 64 :: .box bl #[.slice (some ⟨g, 0, none⟩) ls.length cap] 23 :: .rd g (ls.length * 101) (fun j => (slC ls).getD j undef) :: .row w.heap.size (.slice (some ⟨go, 0, none⟩) cls.length cv) cls.length (vs.set j (.slice pp_v2 (cls[j].length + 1) cap_v2)) 79 1 :: clsE w.heap.size 2 (vs.set j (.slice pp_v2 (cls[j].length + 1) cap_v2)) (cls.modify j (· ++ [k]))) := by
          have h := (M.drop 0).drop 0
          rw [← clsE_set _ hjl]
          exact h
        clear M; (try clear C)
        go_roundw
        case rel =>
          refine ⟨k + 1, by omega, by go_num, some ⟨go, 0, none⟩, cv, vs.set j (.slice pp_v2 (cls[j].length + 1) cap_v2), ?_, ?_, ?_⟩
          · rw [HST.out, List.length_modify]
          · rw [HST.out, List.length_modify, List.length_set]; exact hvl
          · rw [HST.out, List.length_modify]; exact M8
        case measure => simp [intOf]; omega
      | none =>
        have hpl : placeOf (fun c => same (c.headD 0) k) cls = -1 := by unfold placeOf; rw [hfi]
        have hst : clsTo same (k + 1) = cls ++ [[k]] := by rw [hstep]; unfold clsStep; rw [hfi]
        have HST := Hid2.mk hst
        rw [hpl] at hK
        have HG := Hid2.mk (show (clsE w.heap.size 2 (vs ++ [.slice none 0 0]) (cls ++ [[]]))[cls.length]? = some (.row w.heap.size (.slice none 0 0) 0 [] 2 1) by rw [clsE_new hvl, List.getElem?_append_right (by rw [clsE_len hvl]; omega), clsE_len hvl, Nat.sub_self]; rfl)
        have HV := Hid2.mk (show (vs ++ [.slice none 0 0])[cls.length]? = some (.slice none 0 0) by rw [← hvl, List.getElem?_append_right (Nat.le_refl _), Nat.sub_self]; rfl)
        have HE := Hid2.mk (clsE_new (B := w.heap.size) (e := 2) hvl (.slice none 0 0) [])
        have hbound : (cls.length : Int) < ((cls.length + 1 : Nat) : Int) := by omega
        have HLE := Hid2.mk hle
        clear hpl hst hfi hstep hgood hsz
        go_wp2_with (first | (refine wpList_load_part rfl 36 _ rfl (g) (k * 101) rfl (sqs q.n q.t) _ und_sqs rfl inf_sqs (HCE.out (by first | exact M.rd 2 rfl | exact M.rd 3 rfl)) ?_) | ((with_reducible apply wpM_alloc' M 36 (sqs 0 fun _ _ => 0)); rfl; exact ⟨rfl, _, zero_sqs _, rfl⟩; clear M; (try clear C); intro bq w9 h_bq M; have C := M.ruleAll; simp only [Go.Proofs.YtinjjaoikofkdaaDoor.ruleAll] at C) | ((with_reducible apply wpM_sta' M 0 36 (sqs q.n q.t)); rfl; rfl; rfl; rfl; (first | exact .inl (by assumption) | exact .inr rfl | exact .inr (by assumption)); exact ⟨rfl, inf_sqs.trans (congrArg some (sqs_size ..).symm), flat_sqs _ _⟩; (simp only [entCells, List.getElem?_cons_zero, List.getElem?_cons_succ, sqs_size, sqs_size]); clear M; (try clear C); intro w9 M; simp only [List.set_cons_zero, List.set_cons_succ, entBlk, entT, List.getElem?_cons_zero, List.getElem?_cons_succ] at M; have C := M.ruleAll; simp only [Go.Proofs.YtinjjaoikofkdaaDoor.ruleAll] at C) | (go_at_call 57; ((with_reducible refine (hK _ _ M).mono ?_); rintro e w1 ⟨rfl, hb⟩; have M9 := M.later hb; clear M; (try clear C); have M := M9; clear M9; have C := M.ruleAll; simp only [Go.Proofs.YtinjjaoikofkdaaDoor.ruleAll] at C)) | ((with_reducible apply wpM_bsl' M 79 1 2 ([(0, .int .i64 (k : Int))]) (#[.int .i64 (k : Int)])); rfl; rfl; rfl; exact bsl_i64 _; clear M; (try clear C); intro bi w9 h_bi M; have C := M.ruleAll; simp only [Go.Proofs.YtinjjaoikofkdaaDoor.ruleAll] at C) | ((with_reducible apply wpM_bsl' M 62 1 79 ([(0, .slice none 0 0)]) (#[.slice none 0 0])); rfl; rfl; rfl; exact bsl_clsN; clear M; (try clear C); intro bn w9 h_bn M; have C := M.ruleAll; simp only [Go.Proofs.YtinjjaoikofkdaaDoor.ruleAll] at C) | (((with_reducible apply wpM_app' M 62 5 0 (w.heap.size) (.slice pp cls.length cv) (cls.length) (vs) 79 1 24); rfl; rfl; rfl; rfl; rfl; rfl; rfl; (first | exact .inl (Nat.le_refl _) | exact .inl (by assumption) | exact .inr (by assumption) | exact .inr HDv.out); (first | exact M.size | (have hq := M.size; omega)); exact und_slc; exact inf_elc; rfl; decide; decide; rfl; exact rfl; exact flat_c1 rfl; omega; clear M; (try clear C); intro v2 w9 far_v2 M; simp only [List.set_cons_zero, List.set_cons_succ, entBlk, entT, List.getElem?_cons_zero, List.getElem?_cons_succ] at M; obtain ⟨pp_v2, cap_v2, rfl⟩ := own_form (M.row 5 rfl); have C := M.ruleAll; simp only [Go.Proofs.YtinjjaoikofkdaaDoor.ruleAll] at C); obtain ⟨go, cq, he9, _, _, _⟩ := own_rds (M.row 5 rfl) (by omega); cases he9; have M7 := ((M.drop 0).nilRow w.heap.size 2 1).perm (show List.Perm _ (.box bq (sqs q.n q.t) 36 :: .box bs #[.func (.func f) #[] #[]] 64 :: .box bl #[.slice (some ⟨g, 0, none⟩) ls.length cap] 23 :: .rd g (ls.length * 101) (fun j => (slC ls).getD j undef) :: .row w.heap.size (.slice (some ⟨go, 0, none⟩) (cls.length + 1) cap_v2) (cls.length + 1) (vs ++ [.slice none 0 0]) 79 1 :: clsE w.heap.size 2 (vs ++ [.slice none 0 0]) (cls ++ [[]])) by rw [HE.out]; exact (List.perm_append_singleton _ (.box bq (sqs q.n q.t) 36 :: .box bs #[.func (.func f) #[] #[]] 64 :: .box bl #[.slice (some ⟨g, 0, none⟩) ls.length cap] 23 :: .rd g (ls.length * 101) (fun j => (slC ls).getD j undef) :: .row w.heap.size (.slice (some ⟨go, 0, none⟩) (cls.length + 1) cap_v2) (cls.length + 1) (vs ++ [.slice none 0 0]) 79 1 :: clsE w.heap.size 2 vs cls)).symm); clear M; (try clear C); have M := M7; clear M7; have hcj : w9.cell? ⟨go, cls.length, none⟩ = some (.slice none 0 0) := by rw [World.ownsRow.cellAt (M.row 4 rfl) cls.length (by omega)]; exact HV.out) | ((with_reducible apply wpM_app' M 79 (cls.length + 6) 0 w.heap.size (.slice none 0 0) (0) ([]) 2 1 8); rfl; exact HG.out; rfl; rfl; rfl; rfl; rfl; exact .inl (Nat.le_refl _); exact M.size; exact und_sli; exact inf_eli; rfl; decide; decide; rfl; rfl; exact flat_c1 rfl; omega; clear M; (try clear C); intro v3 w9 far_v3 M; obtain ⟨pp_v3, cap_v3, rfl⟩ := own_set (i := cls.length + 6) M (show _ = some _ from HG.out); simp only [List.set_cons_zero, List.set_cons_succ, entCells, List.getElem?_cons_zero] at M; have C := M.ruleAll; simp only [Go.Proofs.YtinjjaoikofkdaaDoor.ruleAll] at C) | ((with_reducible apply wpM_rst' M 5 79 w.heap.size go (cls.length + 1) cap_v2 79 (vs ++ [.slice none 0 0]) (cls.length) (.slice pp_v3 1 cap_v3)); rfl; rfl; rfl; rfl; exact ⟨rfl, rfl, inf_slc⟩; exact .inl (Nat.le_refl _); omega; clear M; (try clear C); intro w9 M; simp only [List.set_cons_zero, List.set_cons_succ] at M; have C := M.ruleAll; simp only [Go.Proofs.YtinjjaoikofkdaaDoor.ruleAll] at C))
        have M8 : Mm no w w9 (.box bs #[.func (.func f) #[] #[]] 64 :: .box bl #[.slice (some ⟨g, 0, none⟩) ls.length cap] 23 :: .rd g (ls.length * 101) (fun j => (slC ls).getD j undef) :: .row w.heap.size (.slice (some ⟨go, 0, none⟩) (cls.length + 1) cap_v2) (cls.length + 1) (vs ++ [.slice pp_v3 1 cap_v3]) 79 1 :: clsE w.heap.size 2 (vs ++ [.slice pp_v3 1 cap_v3]) (cls ++ [[k]])) := by
          have h := (M.drop 0).drop 0
          rw [← clsE_set_new hvl (.slice none 0 0), ← set_last hvl.symm (.slice none 0 0)]
          exact h
        clear M; (try clear C)
        go_roundw
        case rel =>
          refine ⟨k + 1, by omega, by go_num, some ⟨go, 0, none⟩, cap_v2, vs ++ [.slice pp_v3 1 cap_v3], ?_, ?_, ?_⟩
          · rw [HST.out, List.length_append]; rfl
          · rw [HST.out, List.length_append, List.length_append, hvl]; rfl
          · rw [HST.out, List.length_append]; exact M8
        case measure => simp [intOf]; omega
    · obtain rfl : k = ls.length := by omega
      have hge : ¬ ((ls.length : Int) < (ls.length : Int)) := by omega
      go_wp2
      go_ret
      exact ⟨_, rfl, vs, hvl, ((M.drop 0).drop 0).drop 0⟩
end Go.Proofs.YtinjjaoikofkdaaDoor

/- Small things for incoming memory and new boxes. -/
namespace Go.Proofs.YtinjjaoikofkdaaDoor
set_option linter.unusedSimpArgs false
set_option linter.unusedVariables false
open Go Go.RowKit

theorem rdp.later {w w' : World} {p : Option Addr} {n : Nat} {f : Nat → Value} (h : rdp w p n f) (hb : Below w.heap.size w w') : rdp w' p n f := h.kept (.of_below hb no) fun _ _ _ h => h
theorem rdq.later {w w' : World} {p : Option Addr} {n : Nat} {f : Nat → Value} (h : rdq w p n f) (hb : Below w.heap.size w w') : rdq w' p n f := h.kept (.of_below hb no) fun _ _ _ h => h
theorem wrap_small (x : Int) (h1 : -9223372036854775808 ≤ x) (h2 : x ≤ 9223372036854775807) : wrap64 x = x := by
  unfold wrap64; omega
theorem new_box {B g t : Nat} {cs : Array Value} (h : B ≤ g) : ∀ x ∈ [Ent.box g cs t], ∀ b, x.place b → B ≤ b := fun x hx b hb => by
  simp only [List.mem_singleton] at hx; subst hx; cases hb; exact h
theorem Mm.join1 {D : Nat → Prop} {w0 w w' : World} {L : List Ent} {x : Ent} (M : Mm D w0 w L) (M' : Mm no w w' [x]) (hn : ∀ y ∈ [x], ∀ b, y.place b → w.heap.size ≤ b) : Mm D w0 w' (x :: L) := M.join M' hn
theorem Mm.join2 {D : Nat → Prop} {w0 w w' : World} {L : List Ent} {x y : Ent} (M : Mm D w0 w L) (M' : Mm no w w' [x, y]) (hn : ∀ z ∈ [x, y], ∀ b, z.place b → w.heap.size ≤ b) : Mm D w0 w' (x :: y :: L) := M.join M' hn
theorem new_box2 {B g t g' t' : Nat} {cs cs' : Array Value} (h : B ≤ g) (h' : B ≤ g') : ∀ x ∈ [Ent.box g cs t, Ent.box g' cs' t'], ∀ b, x.place b → B ≤ b := fun x hx b hb => by
  simp only [List.mem_cons, List.not_mem_nil, or_false] at hx
  rcases hx with rfl | rfl <;> cases hb <;> assumption
end Go.Proofs.YtinjjaoikofkdaaDoor

/- A square that comes in, opened: its order and its table of bytes. -/
namespace Go.Proofs.YtinjjaoikofkdaaDoor
set_option linter.unusedSimpArgs false
set_option linter.unusedVariables false
open Go.ChangeShapes Go.WideShapes Go.ChangeAt Go.RowKit

theorem Tryd.own : ownKnob Tryd.prog.godebug = none := by kernel_rfl
theorem Tryd.laidOut : laidOutB Tryd.prog = true := by kernel_rfl

theorem Tryd.cellsI64 : Tryd.prog.cellsOf 2 = 1 := by kernel_rfl
theorem Tryd.cellsTb : Tryd.prog.cellsOf 33 = 100 := by kernel_rfl
theorem Tryd.cellsBy : Tryd.prog.cellsOf 32 = 10 := by kernel_rfl
theorem Tryd.cellsU8 : Tryd.prog.cellsOf 5 = 1 := by kernel_rfl

/-- The byte in a cell. -/
def byteOf : Option Value → Nat
  | some (.int _ b) => b.toNat
  | _ => 0

section
variable {H : Type} {enc : TypeId × Value → H} {w : World} {base : Nat} {spare : Nat → Bool} {held : Bool}

theorem take_one {α : Type} {l : List α} {i : Nat} {x : α} (h : (l.drop i).take 1 = [x]) : l[i]? = some x := by
  have := congrArg (fun l => l[0]?) h
  simpa [List.getElem?_take, List.getElem?_drop] using this

theorem trod_bytes {fuel : Nat} {cs : List Value} {x : DataW H × List MemPlace} (h : DataW.trod enc Tryd.prog w base spare held fuel 32 cs = some x) :
    ∀ j, j < 10 → ∃ b : Nat, b < 256 ∧ cs[j]? = some (.int .u8 (b : Int)) := by
  obtain ⟨xs, m, _, _, hl, hx, hf⟩ := DataW.trod_array Tryd.underlying32 h
  intro j hj
  have h1 := hf j hj
  have h2 : xs[j]? = some (xs[j]'(by omega)) := List.getElem?_eq_getElem _
  rw [h2, Tryd.cellsU8, Nat.mul_one] at h1
  obtain ⟨n, hn, _, hw⟩ := DataW.trod_int Tryd.underlying5 h1
  have hb := bounds_u8 hw
  exact ⟨n.toNat, by omega, by rw [take_one hn, show ((n.toNat : Nat) : Int) = n by omega]⟩
theorem trod_table {fuel : Nat} {cs : List Value} {x : DataW H × List MemPlace} (h : DataW.trod enc Tryd.prog w base spare held fuel 33 cs = some x) :
    ∀ i j, i < 10 → j < 10 → ∃ b : Nat, b < 256 ∧ cs[i * 10 + j]? = some (.int .u8 (b : Int)) := by
  obtain ⟨xs, m, _, _, hl, hx, hf⟩ := DataW.trod_array Tryd.underlying33 h
  intro i j hi hj
  have h1 := hf i hi
  have h2 : xs[i]? = some (xs[i]'(by omega)) := List.getElem?_eq_getElem _
  rw [h2, Tryd.cellsBy] at h1
  obtain ⟨b, hb, hc⟩ := trod_bytes h1 j hj
  rw [List.getElem?_take, if_pos hj, List.getElem?_drop] at hc
  exact ⟨b, hb, hc⟩

end
end Go.Proofs.YtinjjaoikofkdaaDoor

/- A list of squares, a list of names and a book that come in, opened. -/
namespace Go.Proofs.YtinjjaoikofkdaaDoor
set_option linter.unusedSimpArgs false
set_option linter.unusedVariables false
open Go.ChangeShapes Go.WideShapes Go.ChangeAt Go.RowKit


theorem Tryd.cellsNs : Tryd.prog.cellsOf 22 = 1 := by kernel_rfl

theorem Tryd.cellsStr : Tryd.prog.cellsOf 9 = 1 := by kernel_rfl

section
variable {H : Type} {enc : TypeId × Value → H} {w : World} {base : Nat} {spare : Nat → Bool} {held : Bool}

theorem cell_addr {a : Addr} {v : Value} (h : w.cell? a = some v) : a = ⟨a.block, a.off, none⟩ ∧ a.block < w.heap.size := by
  obtain ⟨b, off, sp⟩ := a
  refine ⟨?_, World.block_lt_of_cell? w _ h⟩
  cases sp with
  | none => rfl
  | some k =>
    unfold World.cell? at h
    split at h <;> simp at h
theorem cells_each {a : Addr} {n : Nat} {cs : List Value} (h : w.cells? base a n = some cs) : cs.length = n ∧ ∀ j, j < n → w.cell? (a.add j) = cs[j]? := by
  obtain ⟨_, h1, h2⟩ := World.cells?_some h
  exact ⟨h1, h2⟩
theorem add_add (a : Addr) (i j : Nat) (hs : a.spot = none) : (a.add i).add j = a.add (i + j) := by
  obtain ⟨b, off, sp⟩ := a
  cases hs
  rw [add_none, add_none, add_none, Nat.add_assoc]



/-- A list of names that comes in. -/
theorem trod_names {fuel : Nat} {cs : List Value} {x : DataW H × List MemPlace} (h : DataW.trod enc Tryd.prog w base spare held fuel 22 cs = some x) :
    ∃ (p : Option Addr) (cap : Nat) (ns : List ByteArray), cs = [.slice p ns.length cap] ∧ rdp w p ns.length (nmF ns) ∧ ns.length ≤ maxLen ∧ ∀ x ∈ ns, x.size ≤ maxLen := by
  rcases open_strings Tryd.underlying22 Tryd.underlying9 Tryd.cellsStr h with ⟨rfl, _⟩ | ⟨a, len, cap, ss, rfl, _, hl, hm, hss, _, hcell, hsz⟩
  · exact ⟨none, 0, [], rfl, (fun h => absurd h (by simp)), Nat.zero_le _, (fun _ h => by cases h)⟩
  · have hle : len ≤ ss.length := by rw [hss]; split <;> omega
    have hll : (ss.take len).length = len := by rw [List.length_take]; omega
    refine ⟨some a, cap, ss.take len, by rw [hll], fun hn => ?_, by omega, fun x hx => hsz x (List.mem_of_mem_take hx)⟩
    rw [hll] at hn ⊢
    have h0 := hcell 0 (by omega)
    rw [show a.add 0 = a by simp [Addr.add]] at h0
    obtain ⟨e1, hlt⟩ := cell_addr h0
    refine ⟨a.block, a.off, by rw [← e1], hlt, fun j hj => ?_⟩
    have e2 : a.add j = ⟨a.block, a.off + j, none⟩ := by rw [e1, add_none]
    rw [← e2, hcell j (by omega)]
    unfold nmF
    rw [List.getD_eq_getElem?_getD, List.getD_eq_getElem?_getD, List.getElem?_take, if_pos hj]

/-- A book that comes in. -/
def bkV (p1 : Option Addr) (c1 : Nat) (p2 : Option Addr) (c2 n m : Nat) : Array Value := #[.slice p1 n c1, .slice p2 m c2]


end
end Go.Proofs.YtinjjaoikofkdaaDoor

/- The law's own turning of a square, and the program's elements of a square: contracts. -/
namespace Go.Proofs.YtinjjaoikofkdaaDoor
set_option linter.unusedSimpArgs false
set_option linter.unusedVariables false
open Go.RowKit


end Go.Proofs.YtinjjaoikofkdaaDoor

/- The laws' own sizes, copies and comparisons of books: contracts. -/
namespace Go.Proofs.YtinjjaoikofkdaaDoor
set_option linter.unusedSimpArgs false
set_option linter.unusedVariables false
open Go Go.RowKit






end Go.Proofs.YtinjjaoikofkdaaDoor

/- The laws' own comparison of squares: contracts. -/
namespace Go.Proofs.YtinjjaoikofkdaaDoor
set_option linter.unusedSimpArgs false
set_option linter.unusedVariables false
open Go Go.RowKit

set_option maxRecDepth 100000 in
set_option maxHeartbeats 1000000 in
theorem eqByteA10_any (f : Nat → Nat) (w : World) : Calls Tryd.prog 78 #[.agg (bys f), .agg (bys f)] w fun e w' => e = .returned (.bool true) ∧ Below w.heap.size w w' := by
  have M := Mm.start no w
  go_enter Tryd.func78, Tryd.ntmps78
  go_wp2_with (first | (have hq := h_bf; clear hq; ((with_reducible apply wpM_box' M 32 (bys f)); rfl; exact ⟨rfl, rfl⟩; clear M; (try clear C); intro bg w9 h_bg M; have C := M.ruleAll; simp only [Go.Proofs.YtinjjaoikofkdaaDoor.ruleAll] at C)) | ((with_reducible apply wpM_box' M 32 (bys f)); rfl; exact ⟨rfl, rfl⟩; clear M; (try clear C); intro bf w9 h_bf M; have C := M.ruleAll; simp only [Go.Proofs.YtinjjaoikofkdaaDoor.ruleAll] at C))
  go_loopw [5] (fun i wr => ∃ k : Nat, k ≤ 10 ∧ i = .int .i64 (k : Int) ∧ Mm no w wr [.box bg (bys f) 32, .box bf (bys f) 32]) (fun i _ => 10 - (intOf i).toNat)
  case atStart => exact ⟨0, by omega, rfl, M⟩
  case round =>
    obtain ⟨k, hk, rfl, M9⟩ := hrel
    clear M; (try clear C)
    have M := M9
    clear M9
    have C := M.ruleAll; simp only [Go.Proofs.YtinjjaoikofkdaaDoor.ruleAll] at C
    by_cases hlt : k < 10
    · have hlt' : (k : Int) < 10 := by omega
      have c1 := bys_get (f := f) hlt
      have he' : ((f k : Int) == (f k : Int)) = true := by simp
      go_wp2
      apply wp_region_mm M 6 (by kernel_rfl) (by kernel_rfl); (simp only [List.take_succ_cons, List.take_zero]; repeat (first | exact wpText_nil | (apply wpText_cons; (intro w2 M; have C := M.ruleAll; simp only [Go.Proofs.YtinjjaoikofkdaaDoor.ruleAll] at C; go_wp2; exact ⟨rfl, rfl, M⟩); rfl))); (clear M; (try clear C); intro w2 M; simp only [List.drop_succ_cons, List.drop_zero]; have C := M.ruleAll; simp only [Go.Proofs.YtinjjaoikofkdaaDoor.ruleAll] at C)
      go_wp2
      go_roundw
      case rel => exact ⟨k + 1, by omega, by go_num, M⟩
      case measure => simp [intOf]; omega
    · obtain rfl : k = 10 := by omega
      go_wp2
      go_ret
      exact ⟨rfl, M.below⟩

set_option maxRecDepth 100000 in
set_option maxHeartbeats 1000000 in
theorem eqTable_any (t : Nat → Nat → Nat) (w : World) : Calls Tryd.prog 63 #[.agg (tbs t), .agg (tbs t)] w fun e w' => e = .returned (.bool true) ∧ Below w.heap.size w w' := by
  have M := Mm.start no w
  go_enter Tryd.func63, Tryd.ntmps63
  go_wp2_with (first | (have hq := h_bf; clear hq; ((with_reducible apply wpM_box' M 34 (tbs t)); rfl; exact ⟨rfl, rfl⟩; clear M; (try clear C); intro bg w9 h_bg M; have C := M.ruleAll; simp only [Go.Proofs.YtinjjaoikofkdaaDoor.ruleAll] at C)) | ((with_reducible apply wpM_box' M 34 (tbs t)); rfl; exact ⟨rfl, rfl⟩; clear M; (try clear C); intro bf w9 h_bf M; have C := M.ruleAll; simp only [Go.Proofs.YtinjjaoikofkdaaDoor.ruleAll] at C))
  go_loopw [5] (fun i wr => ∃ k : Nat, k ≤ 10 ∧ i = .int .i64 (k : Int) ∧ Mm no w wr [.box bg (tbs t) 34, .box bf (tbs t) 34]) (fun i _ => 10 - (intOf i).toNat)
  case atStart => exact ⟨0, by omega, rfl, M⟩
  case round =>
    obtain ⟨k, hk, rfl, M9⟩ := hrel
    clear M; (try clear C)
    have M := M9
    clear M9
    have C := M.ruleAll; simp only [Go.Proofs.YtinjjaoikofkdaaDoor.ruleAll] at C
    by_cases hlt : k < 10
    · have hlt' : (k : Int) < 10 := by omega
      have H := fun w1 => eqByteA10_any (t k) w1
      go_wp2
      apply wp_region_mm M 6 (by kernel_rfl) (by kernel_rfl); (simp only [List.take_succ_cons, List.take_zero]; repeat (first | exact wpText_nil | (apply wpText_cons; (intro w2 M; have C := M.ruleAll; simp only [Go.Proofs.YtinjjaoikofkdaaDoor.ruleAll] at C; go_wp2_with (first | ((with_reducible apply wpM_lda' M 1 32 (k * 10) (bys (t k))); rfl; rfl; rfl; exact ⟨rfl, inf_bys.trans (congrArg some (bys_size ..).symm), _, und_bys, rfl⟩; exact tbs_row hlt) | ((with_reducible apply wpM_lda' M 0 32 (k * 10) (bys (t k))); rfl; rfl; rfl; exact ⟨rfl, inf_bys.trans (congrArg some (bys_size ..).symm), _, und_bys, rfl⟩; exact tbs_row hlt)); exact ⟨rfl, rfl, M⟩); rfl))); (clear M; (try clear C); intro w2 M; simp only [List.drop_succ_cons, List.drop_zero]; have C := M.ruleAll; simp only [Go.Proofs.YtinjjaoikofkdaaDoor.ruleAll] at C)
      go_wp2_with (first | (go_at_call 78; ((with_reducible refine (H _).mono ?_); rintro e w1 ⟨rfl, hb⟩; have hsz := M.size; (try (have G9 := G.later hb; clear G; have G := G9; clear G9)); have M9 := M.later hb; clear M; (try clear C); have M := M9; clear M9; have C := M.ruleAll; simp only [Go.Proofs.YtinjjaoikofkdaaDoor.ruleAll] at C)))
      go_roundw
      case rel => exact ⟨k + 1, by omega, by go_num, M⟩
      case measure => simp [intOf]; omega
    · obtain rfl : k = 10 := by omega
      go_wp2
      go_ret
      exact ⟨rfl, M.below⟩

set_option maxRecDepth 100000 in
set_option maxHeartbeats 1000000 in
theorem eqSquare_any (n : Int) (t : Nat → Nat → Nat) (w : World) : Calls Tryd.prog 42 #[.agg (sqs n t), .agg (sqs n t)] w fun e w' => e = .returned (.bool true) ∧ Below w.heap.size w w' := by
  have M := Mm.start no w
  have so := sqs_order n t
  have he : (n == n) = true := by simp
  have H := fun w1 => eqTable_any t w1
  go_enter Tryd.func42, Tryd.ntmps42
  go_wp2_with (first | (have hq := h_bf; clear hq; ((with_reducible apply wpM_box' M 36 (sqs n t)); rfl; exact ⟨rfl, rfl⟩; clear M; (try clear C); intro bg w9 h_bg M; have C := M.ruleAll; simp only [Go.Proofs.YtinjjaoikofkdaaDoor.ruleAll] at C)) | ((with_reducible apply wpM_box' M 36 (sqs n t)); rfl; exact ⟨rfl, rfl⟩; clear M; (try clear C); intro bf w9 h_bf M; have C := M.ruleAll; simp only [Go.Proofs.YtinjjaoikofkdaaDoor.ruleAll] at C) | ((with_reducible apply wpM_lda' M 1 34 (1) (tbs t)); rfl; rfl; rfl; exact ⟨rfl, inf_tbl.trans (congrArg some (tbs_size ..).symm), _, und_tbl, rfl⟩; exact sqs_tbs) | ((with_reducible apply wpM_lda' M 0 34 (1) (tbs t)); rfl; rfl; rfl; exact ⟨rfl, inf_tbl.trans (congrArg some (tbs_size ..).symm), _, und_tbl, rfl⟩; exact sqs_tbs) | (go_at_call 63; ((with_reducible refine (H _).mono ?_); rintro e w1 ⟨rfl, hb⟩; have hsz := M.size; (try (have G9 := G.later hb; clear G; have G := G9; clear G9)); have M9 := M.later hb; clear M; (try clear C); have M := M9; clear M9; have C := M.ruleAll; simp only [Go.Proofs.YtinjjaoikofkdaaDoor.ruleAll] at C)))
  go_ret
  exact ⟨rfl, M.below⟩

/-- Cells that hold names; cells that hold squares. -/
def strC (ns : List ByteArray) (cs : Array Value) : Prop := cs.size = ns.length ∧ ∀ j, j < ns.length → cs[j]? = some (nmF ns j)
def sqaC (ls : List Sqr) (cs : Array Value) : Prop := cs.size = ls.length * 101 ∧ ∀ j, j < ls.length * 101 → cs[j]? = some ((slC ls).getD j undef)
theorem und_slQ : Tryd.prog.underlying 23 = some (.slice 36) := by kernel_rfl
theorem inf_elQ : (Tryd.prog.info? 36).map (fun i => (i.zero, i.size, i.bytes)) = some (some (.agg (sqs 0 fun _ _ => 0)), 101, 112) := by kernel_rfl


theorem sqa_step {ls : List Sqr} {k : Nat} {cs : Array Value} (hk : k < ls.length) (hcs : cs.size = ls.length * 101) (h : ∀ j, j < k * 101 → cs[j]? = some ((slC ls).getD j undef)) :
    (splice cs (k * 101) (sqs ls[k].n ls[k].t).toList).size = ls.length * 101 ∧ ∀ j, j < (k + 1) * 101 → (splice cs (k * 101) (sqs ls[k].n ls[k].t).toList)[j]? = some ((slC ls).getD j undef) := by
  refine ⟨by rw [splice_size 0 _ cs (k * 101)]; exact hcs, fun j hj => ?_⟩
  have hlen : (sqs ls[k].n ls[k].t).toList.length = 101 := by rw [Array.length_toList, sqs_size]
  rw [splice_get _ cs (k * 101) j (by rw [hcs]; omega), hlen]
  split
  · rename_i hin
    have h3 := rowC_get (f := sqC) sqC_size ls hk (j := j - k * 101) (by omega)
    rw [show k * 101 + (j - k * 101) = j by omega] at h3
    rw [List.getD_eq_getElem?_getD]
    show _ = some (((rowC sqC ls)[j]?).getD undef)
    rw [h3, Array.getElem?_toList]
    show (sqC ls[k])[j - k * 101]? = _
    rw [Array.getElem?_eq_getElem (show j - k * 101 < (sqC ls[k]).size by rw [sqC_size]; omega)]; rfl
  · exact h j (by omega)


end Go.Proofs.YtinjjaoikofkdaaDoor

/- The laws' own copies and comparisons of books: contracts. -/
namespace Go.Proofs.YtinjjaoikofkdaaDoor
set_option linter.unusedSimpArgs false
set_option linter.unusedVariables false
open Go Go.RowKit

/-- The cells of a book that holds nothing. -/
def bkZ : Array Value := #[.slice none 0 0, .slice none 0 0]
theorem bkz_size : bkZ.size = 2 := rfl
theorem zero_bok (w : World) : (zeroValue 25).run Tryd.prog w = .ok (.agg bkZ) w := by kernel_rfl

/-- A book in new memory. -/
def BookNew (ns : List ByteArray) (ls : List Sqr) (w : World) (e : Ending) (w' : World) : Prop :=
  ∃ g1 g2 cs1 cs2, e = .returned (.agg (bkA g1 ns.length g2 ls.length ns.length ls.length)) ∧ w.heap.size ≤ g1 ∧ w.heap.size ≤ g2 ∧ strC ns cs1 ∧ sqaC ls cs2 ∧ Mm no w w' [.box g1 cs1 9, .box g2 cs2 36]


set_option maxRecDepth 100000 in
set_option maxHeartbeats 1000000 in
theorem eqStringS_any (ns : List ByteArray) (hn : ns.length ≤ 9223372036854775807) (w : World) (p1 p2 : Option Addr) (c1 c2 : Nat) (h1 : rdq w p1 ns.length (nmF ns)) (h2 : rdq w p2 ns.length (nmF ns)) :
    Calls Tryd.prog 17 #[.slice p1 ns.length c1, .slice p2 ns.length c2] w fun e w' => e = .returned (.bool true) ∧ Below w.heap.size w w' := by
  have M := Mm.start no w
  have he : ((ns.length : Int) == (ns.length : Int)) = true := by simp
  have F1 := Hid2.mk (fun w1 (hb : Below w.heap.size w w1) => h1.later hb)
  have F2 := Hid2.mk (fun w1 (hb : Below w.heap.size w w1) => h2.later hb)
  clear h1 h2
  go_enter Tryd.func17, Tryd.ntmps17
  go_wp2
  go_loopw [5] (fun i wr => ∃ k : Nat, k ≤ ns.length ∧ i = .int .i64 (k : Int) ∧ Mm no w wr []) (fun i _ => ns.length - (intOf i).toNat)
  case atStart => exact ⟨0, by omega, rfl, M⟩
  case round =>
    obtain ⟨k, hk, rfl, M9⟩ := hrel
    clear M
    have M := M9
    clear M9
    by_cases hlt : k < ns.length
    · have hlt' : (k : Int) < (ns.length : Int) := by omega
      obtain ⟨g1, rfl, _⟩ := F1.out _ M.below (by omega)
      obtain ⟨g2, rfl, _⟩ := F2.out _ M.below (by omega)
      have hc1 : ∀ w1, Below w.heap.size w w1 → w1.cell? ⟨g1, k, none⟩ = some (.string ns[k]) := fun w1 hb => by
        obtain ⟨g, e, hr⟩ := F1.out w1 hb (by omega)
        cases e
        rw [hr.at_ k hlt, nmF_at hlt]
      have hc2 : ∀ w1, Below w.heap.size w w1 → w1.cell? ⟨g2, k, none⟩ = some (.string ns[k]) := fun w1 hb => by
        obtain ⟨g, e, hr⟩ := F2.out w1 hb (by omega)
        cases e
        rw [hr.at_ k hlt, nmF_at hlt]
      generalize ns[k] = x at hc1 hc2
      have hx : (x.toList == x.toList) = true := by simp
      have C1 := Hid2.mk hc1
      have C2 := Hid2.mk hc2
      clear hc1 hc2
      go_wp2
      apply wp_region_mm M 8 (by kernel_rfl) (by kernel_rfl)
      · simp only [List.take_succ_cons, List.take_zero]
        repeat (first | exact wpText_nil | (apply wpText_cons; (intro w2 M; have hd1 := C1.out _ M.below; have hd2 := C2.out _ M.below; go_wp2; exact ⟨rfl, rfl, M⟩); rfl))
      clear M
      intro w2 M
      simp only [List.drop_succ_cons, List.drop_zero]
      go_wp2
      go_roundw
      case rel => exact ⟨k + 1, by omega, by go_num, M⟩
      case measure => simp [intOf]; omega
    · obtain rfl : k = ns.length := by omega
      have hge : ¬ ((ns.length : Int) < (ns.length : Int)) := by omega
      go_wp2
      go_ret
      exact ⟨rfl, M.below⟩

set_option maxRecDepth 100000 in
set_option maxHeartbeats 1000000 in
theorem eqSquareS_any (ls : List Sqr) (hn : ls.length ≤ 10000000) (w : World) (p1 p2 : Option Addr) (c1 c2 : Nat) (h1 : rdq w p1 (ls.length * 101) (fun j => (slC ls).getD j undef)) (h2 : rdq w p2 (ls.length * 101) (fun j => (slC ls).getD j undef)) :
    Calls Tryd.prog 18 #[.slice p1 ls.length c1, .slice p2 ls.length c2] w fun e w' => e = .returned (.bool true) ∧ Below w.heap.size w w' := by
  have M := Mm.start no w
  have he : ((ls.length : Int) == (ls.length : Int)) = true := by simp
  have F1 := Hid2.mk (fun w1 (hb : Below w.heap.size w w1) => h1.later hb)
  have F2 := Hid2.mk (fun w1 (hb : Below w.heap.size w w1) => h2.later hb)
  clear h1 h2
  go_enter Tryd.func18, Tryd.ntmps18
  go_wp2
  go_loopw [5] (fun i wr => ∃ k : Nat, k ≤ ls.length ∧ i = .int .i64 (k : Int) ∧ Mm no w wr []) (fun i _ => ls.length - (intOf i).toNat)
  case atStart => exact ⟨0, by omega, rfl, M⟩
  case round =>
    obtain ⟨k, hk, rfl, M9⟩ := hrel
    clear M
    have M := M9
    clear M9
    by_cases hlt : k < ls.length
    · have hlt' : (k : Int) < (ls.length : Int) := by omega
      obtain ⟨g1, rfl, _⟩ := F1.out _ M.below (by omega)
      obtain ⟨g2, rfl, _⟩ := F2.out _ M.below (by omega)
      have hc1 : ∀ w1, Below w.heap.size w w1 → ∀ j v, (sqs ls[k].n ls[k].t)[j]? = some v → w1.cell? ⟨g1, k * 101 + j, none⟩ = some v := fun w1 hb => by
        obtain ⟨g, e, hr⟩ := F1.out w1 hb (by omega)
        cases e
        exact sq_cells hr hlt
      have hc2 : ∀ w1, Below w.heap.size w w1 → ∀ j v, (sqs ls[k].n ls[k].t)[j]? = some v → w1.cell? ⟨g2, k * 101 + j, none⟩ = some v := fun w1 hb => by
        obtain ⟨g, e, hr⟩ := F2.out w1 hb (by omega)
        cases e
        exact sq_cells hr hlt
      generalize ls[k] = q at hc1 hc2
      have C1 := Hid2.mk hc1
      have C2 := Hid2.mk hc2
      clear hc1 hc2
      have H := fun w1 => eqSquare_any q.n q.t w1
      go_wp2
      apply wp_region_mm M 8 (by kernel_rfl) (by kernel_rfl)
      · simp only [List.take_succ_cons, List.take_zero]
        repeat (first | exact wpText_nil | (apply wpText_cons; (intro w2 M; go_wp2_with (first | (refine wpList_load_part rfl 36 _ rfl (g1) (k * 101) rfl (sqs q.n q.t) _ und_sqs rfl inf_sqs (C1.out _ M.below) ?_) | (refine wpList_load_part rfl 36 _ rfl (g2) (k * 101) rfl (sqs q.n q.t) _ und_sqs rfl inf_sqs (C2.out _ M.below) ?_)); exact ⟨rfl, rfl, M⟩); rfl))
      clear M
      intro w2 M
      simp only [List.drop_succ_cons, List.drop_zero]
      go_wp2_with (first | (go_at_call 42; ((with_reducible refine (H _).mono ?_); rintro e w1 ⟨rfl, hb⟩; have hsz := M.size; have M9 := M.later hb; clear M; (try clear C); have M := M9; clear M9; (try simp only [List.set_cons_zero, List.set_cons_succ] at M); have C := M.ruleAll; simp only [Go.Proofs.YtinjjaoikofkdaaDoor.ruleAll] at C)))
      go_roundw
      case rel => exact ⟨k + 1, by omega, by go_num, M⟩
      case measure => simp [intOf]; omega
    · obtain rfl : k = ls.length := by omega
      have hge : ¬ ((ls.length : Int) < (ls.length : Int)) := by omega
      go_wp2
      go_ret
      exact ⟨rfl, M.below⟩

set_option maxRecDepth 100000 in
set_option maxHeartbeats 1000000 in
theorem eqBook_any (ns : List ByteArray) (ls : List Sqr) (hn : ns.length ≤ 10000000) (hm : ls.length ≤ 10000000) (w : World) (p1 p2 p3 p4 : Option Addr) (c1 c2 c3 c4 : Nat) (h1 : rdq w p1 ns.length (nmF ns)) (h2 : rdq w p2 (ls.length * 101) (fun j => (slC ls).getD j undef)) (h3 : rdq w p3 ns.length (nmF ns)) (h4 : rdq w p4 (ls.length * 101) (fun j => (slC ls).getD j undef)) :
    Calls Tryd.prog 6 #[.agg (bkV p1 c1 p2 c2 ns.length ls.length), .agg (bkV p3 c3 p4 c4 ns.length ls.length)] w fun e w' => e = .returned (.bool true) ∧ Below w.heap.size w w' := by
  have M := Mm.start no w
  have k0 : (bkV p1 c1 p2 c2 ns.length ls.length)[0]? = some (.slice p1 ns.length c1) := rfl
  have k1 : (bkV p1 c1 p2 c2 ns.length ls.length)[1]? = some (.slice p2 ls.length c2) := rfl
  have k2 : (bkV p3 c3 p4 c4 ns.length ls.length)[0]? = some (.slice p3 ns.length c3) := rfl
  have k3 : (bkV p3 c3 p4 c4 ns.length ls.length)[1]? = some (.slice p4 ls.length c4) := rfl
  have H1 := fun w1 (hb : Below w.heap.size w w1) => eqStringS_any ns (by omega) w1 p1 p3 c1 c3 (h1.later hb) (h3.later hb)
  have H2 := fun w1 (hb : Below w.heap.size w w1) => eqSquareS_any ls hm w1 p2 p4 c2 c4 (h2.later hb) (h4.later hb)
  clear h1 h2 h3 h4
  go_enter Tryd.func6, Tryd.ntmps6
  go_wp2_with (first | (have hq := h_b2; clear hq; ((with_reducible apply wpM_box' M 25 (bkV p3 c3 p4 c4 ns.length ls.length)); rfl; exact ⟨rfl, rfl⟩; clear M; (try clear C); intro b3 w9 h_b3 M; have C := M.ruleAll; simp only [Go.Proofs.YtinjjaoikofkdaaDoor.ruleAll] at C)) | ((with_reducible apply wpM_box' M 25 (bkV p1 c1 p2 c2 ns.length ls.length)); rfl; exact ⟨rfl, rfl⟩; clear M; (try clear C); intro b2 w9 h_b2 M; have C := M.ruleAll; simp only [Go.Proofs.YtinjjaoikofkdaaDoor.ruleAll] at C) | (go_at_call 17; ((with_reducible refine (H1 _ M.below).mono ?_); rintro e w1 ⟨rfl, hb⟩; have hsz := M.size; (try (have G9 := G.later hb; clear G; have G := G9; clear G9)); have M9 := M.later hb; clear M; (try clear C); have M := M9; clear M9; have C := M.ruleAll; simp only [Go.Proofs.YtinjjaoikofkdaaDoor.ruleAll] at C)) | (go_at_call 18; ((with_reducible refine (H2 _ M.below).mono ?_); rintro e w1 ⟨rfl, hb⟩; have hsz := M.size; (try (have G9 := G.later hb; clear G; have G := G9; clear G9)); have M9 := M.later hb; clear M; (try clear C); have M := M9; clear M9; have C := M.ruleAll; simp only [Go.Proofs.YtinjjaoikofkdaaDoor.ruleAll] at C)))
  go_ret
  exact ⟨rfl, M.below⟩
end Go.Proofs.YtinjjaoikofkdaaDoor

/- Whether a book is valid, for the program: a contract. -/
namespace Go.Proofs.YtinjjaoikofkdaaDoor
set_option linter.unusedSimpArgs false
set_option linter.unusedVariables false
open Go Go.RowKit

theorem isBkI_all {ns : List ByteArray} {ls : List Sqr} (h1 : ns.length ≤ 20) (h2 : ls.length = ns.length) (h3 : ls.all lpB = true) (h4 : ls.any (fun q => decide (7 < q.n)) = false) (h5 : ∀ i, i < ns.length → nameI ns i = true) :
    isBkI ns ls = decide ((clsTo (alkAt ls) ls.length).length = ls.length) := by
  unfold isBkI
  rw [show (List.range ns.length).all (nameI ns) = true from List.all_eq_true.2 fun i hi => h5 i (List.mem_range.1 hi), h3, h4]
  simp [h1, h2]
theorem isBkI_long {ns : List ByteArray} {ls : List Sqr} (h : ¬ (ns.length ≤ 20 ∧ ls.length = ns.length)) : isBkI ns ls = false := by
  unfold isBkI
  rcases Classical.em (ns.length ≤ 20) with h1 | h1
  · rw [show decide (ls.length = ns.length) = false from decide_eq_false fun e => h ⟨h1, e⟩]; simp
  · rw [show decide (ns.length ≤ 20) = false from decide_eq_false h1]; simp
theorem isBkI_loops {ns : List ByteArray} {ls : List Sqr} (h : ls.all lpB = false) : isBkI ns ls = false := by unfold isBkI; rw [h]; simp
theorem isBkI_large {ns : List ByteArray} {ls : List Sqr} (h : ls.any (fun q => decide (7 < q.n)) = true) : isBkI ns ls = false := by unfold isBkI; rw [h]; simp
theorem isBkI_name {ns : List ByteArray} {ls : List Sqr} {k : Nat} (hk : k < ns.length) (h : nameI ns k = false) : isBkI ns ls = false := by
  unfold isBkI
  rw [show (List.range ns.length).all (nameI ns) = false from List.all_eq_false.2 ⟨k, List.mem_range.2 hk, by simp [h]⟩]
  simp
theorem decB (a b : Nat) : decide (a = b) = ((a : Int) == (b : Int)) := by
  rw [Bool.eq_iff_iff, decide_eq_true_eq, beq_iff_eq]; omega
/-- A list of classes, and how many they are. -/
def StCl (m : Nat) : List Value → List Ent → Prop
  | [], Lg => Lg = []
  | [v], Lg => ∃ pp cap, v = .slice pp m cap ∧ Lg = []
  | v :: u :: _, Lg => (∃ pp cap, v = .slice pp m cap ∧ Lg = []) ∧ u = .int .i64 (m : Int)

set_option maxRecDepth 100000 in
set_option maxHeartbeats 4000000 in
theorem isBookI_any (ns : List ByteArray) (ls : List Sqr) (hn : ns.length ≤ 1048576) (hm : ls.length ≤ 1048576) (hsz : ∀ x ∈ ns, x.size ≤ 1048576) (hby : ∀ q ∈ ls, Byt2 q.t) (w : World) (g1 c1 g2 c2 : Nat) (hcap : ns.length ≤ c1)
    (hr1 : rds w g1 ns.length (nmF ns)) (hr2 : rds w g2 (ls.length * 101) (fun j => (slC ls).getD j undef)) :
    Calls Tryd.prog 15 #[.agg (bkA g1 c1 g2 c2 ns.length ls.length)] w fun e w' => e = .returned (.bool (isBkI ns ls)) ∧ Below w.heap.size w w' := by
  have M := Mm.start no w
  have k0 : (bkA g1 c1 g2 c2 ns.length ls.length)[0]? = some (.slice (some ⟨g1, 0, none⟩) ns.length c1) := rfl
  have k1 : (bkA g1 c1 g2 c2 ns.length ls.length)[1]? = some (.slice (some ⟨g2, 0, none⟩) ls.length c2) := rfl
  have HBY := Hid2.mk hby
  have HSZ := Hid2.mk hsz
  have F1 := Hid2.mk (fun w1 (hb : Below w.heap.size w w1) => hr1.later hb)
  have F2 := Hid2.mk (fun w1 (hb : Below w.heap.size w w1) => hr2.later hb)
  have HA := fun w1 (hb : Below w.heap.size w w1) => areLoops_any ls (by omega) hby w1 g2 c2 (hr2.later hb)
  have HL := fun w1 (hb : Below w.heap.size w w1) => containsFunc_any ls (by omega) w1 g2 c2 (hr2.later hb) 36 #[] (fun q => decide (7 < q.n)) (enters_of (P := Tryd.prog) (f := 36) (by exact Tryd.func36) (by kernel_rfl) rfl) (fun q _ w2 _ => isLarge_any q w2)
  clear hr1 hr2 hby hsz
  by_cases hlong : ns.length ≤ 20 ∧ ls.length = ns.length
  case neg =>
    have HST := Hid2.mk (isBkI_long hlong)
    by_cases h20 : ns.length ≤ 20
    · have hne : ls.length ≠ ns.length := fun e => hlong ⟨h20, e⟩
      have d1 : ¬ (20 < (ns.length : Int)) := by omega
      have d2 : decide (20 < (ns.length : Int)) = false := decide_eq_false d1
      have d3 : ((ls.length : Int) == (ns.length : Int)) = false := beq_eq_false_iff_ne.2 (by omega)
      have d4 : ((ls.length : Int) != (ns.length : Int)) = true := by rw [bne, d3]; rfl
      clear hlong
      go_enter Tryd.func15, Tryd.ntmps15
      go_wp2_with (first | ((with_reducible apply wpM_box' M 25 (bkA g1 c1 g2 c2 ns.length ls.length)); rfl; exact ⟨rfl, rfl⟩; clear M; (try clear C); intro bb w9 h_bb M; have C := M.ruleAll; simp only [Go.Proofs.YtinjjaoikofkdaaDoor.ruleAll] at C))
      go_ret
      exact ⟨by rw [HST.out]; rfl, M.below⟩
    · have d1 : 20 < (ns.length : Int) := by omega
      have d2 : decide (20 < (ns.length : Int)) = true := decide_eq_true d1
      clear hlong
      go_enter Tryd.func15, Tryd.ntmps15
      go_wp2_with (first | ((with_reducible apply wpM_box' M 25 (bkA g1 c1 g2 c2 ns.length ls.length)); rfl; exact ⟨rfl, rfl⟩; clear M; (try clear C); intro bb w9 h_bb M; have C := M.ruleAll; simp only [Go.Proofs.YtinjjaoikofkdaaDoor.ruleAll] at C))
      go_ret
      exact ⟨by rw [HST.out]; rfl, M.below⟩
  case pos =>
    obtain ⟨h20, hLN⟩ := hlong
    have d1 : ¬ (20 < (ns.length : Int)) := by omega
    have d2 : decide (20 < (ns.length : Int)) = false := decide_eq_false d1
    have d3 : ((ls.length : Int) == (ns.length : Int)) = true := beq_iff_eq.2 (by omega)
    have d4 : ((ls.length : Int) != (ns.length : Int)) = false := by rw [bne, d3]; rfl
    have HLN := Hid2.mk hLN
    cases ha : ls.all lpB with
    | false =>
      have HST := Hid2.mk (isBkI_loops (ns := ns) ha)
      simp only [ha] at HA
      clear ha hLN
      go_enter Tryd.func15, Tryd.ntmps15
      go_wp2_with (first | ((with_reducible apply wpM_box' M 25 (bkA g1 c1 g2 c2 ns.length ls.length)); rfl; exact ⟨rfl, rfl⟩; clear M; (try clear C); intro bb w9 h_bb M; have C := M.ruleAll; simp only [Go.Proofs.YtinjjaoikofkdaaDoor.ruleAll] at C) | (go_at_call 34; ((with_reducible refine (HA _ M.below).mono ?_); rintro e w1 ⟨rfl, hb⟩; have hsz := M.size; (try (have G9 := G.later hb; clear G; have G := G9; clear G9)); have M9 := M.later hb; clear M; (try clear C); have M := M9; clear M9; have C := M.ruleAll; simp only [Go.Proofs.YtinjjaoikofkdaaDoor.ruleAll] at C)))
      go_ret
      exact ⟨by rw [HST.out]; rfl, M.below⟩
    | true =>
      cases hla : ls.any (fun q => decide (7 < q.n)) with
      | true =>
        have HST := Hid2.mk (isBkI_large (ns := ns) hla)
        simp only [ha] at HA
        simp only [hla] at HL
        clear ha hla hLN
        go_enter Tryd.func15, Tryd.ntmps15
        go_wp2_with (first | ((with_reducible apply wpM_box' M 25 (bkA g1 c1 g2 c2 ns.length ls.length)); rfl; exact ⟨rfl, rfl⟩; clear M; (try clear C); intro bb w9 h_bb M; have C := M.ruleAll; simp only [Go.Proofs.YtinjjaoikofkdaaDoor.ruleAll] at C) | (go_at_call 34; ((with_reducible refine (HA _ M.below).mono ?_); rintro e w1 ⟨rfl, hb⟩; have hsz := M.size; (try (have G9 := G.later hb; clear G; have G := G9; clear G9)); have M9 := M.later hb; clear M; (try clear C); have M := M9; clear M9; have C := M.ruleAll; simp only [Go.Proofs.YtinjjaoikofkdaaDoor.ruleAll] at C)) | (go_at_call 35; ((with_reducible refine (HL _ M.below).mono ?_); rintro e w1 ⟨rfl, hb⟩; have hsz := M.size; (try (have G9 := G.later hb; clear G; have G := G9; clear G9)); have M9 := M.later hb; clear M; (try clear C); have M := M9; clear M9; have C := M.ruleAll; simp only [Go.Proofs.YtinjjaoikofkdaaDoor.ruleAll] at C)))
        go_ret
        exact ⟨by rw [HST.out]; rfl, M.below⟩
      | false =>
        have HALL := Hid2.mk (fun h5 => isBkI_all (ns := ns) (ls := ls) h20 hLN ha hla h5)
        have HOK := Hid2.mk (show ∀ q ∈ ls, okS q from fun q hq => lpB_ok (HBY.out q hq) (List.all_eq_true.1 ha q hq))
        simp only [ha] at HA
        simp only [hla] at HL
        clear ha hla hLN
        go_enter Tryd.func15, Tryd.ntmps15
        go_wp2_with (first | ((with_reducible apply wpM_box' M 25 (bkA g1 c1 g2 c2 ns.length ls.length)); rfl; exact ⟨rfl, rfl⟩; clear M; (try clear C); intro bb w9 h_bb M; have C := M.ruleAll; simp only [Go.Proofs.YtinjjaoikofkdaaDoor.ruleAll] at C) | (go_at_call 34; ((with_reducible refine (HA _ M.below).mono ?_); rintro e w1 ⟨rfl, hb⟩; have hsz := M.size; (try (have G9 := G.later hb; clear G; have G := G9; clear G9)); have M9 := M.later hb; clear M; (try clear C); have M := M9; clear M9; have C := M.ruleAll; simp only [Go.Proofs.YtinjjaoikofkdaaDoor.ruleAll] at C)) | (go_at_call 35; ((with_reducible refine (HL _ M.below).mono ?_); rintro e w1 ⟨rfl, hb⟩; have hsz := M.size; (try (have G9 := G.later hb; clear G; have G := G9; clear G9)); have M9 := M.later hb; clear M; (try clear C); have M := M9; clear M9; have C := M.ruleAll; simp only [Go.Proofs.YtinjjaoikofkdaaDoor.ruleAll] at C)))
        clear d1 d2 d3 d4 HA HL
        go_loopw [32] (fun i wr => ∃ k : Nat, k ≤ ns.length ∧ i = .int .i64 (k : Int) ∧ (∀ j, j < k → nameI ns j = true) ∧ Mm no w wr [.box bb (bkA g1 c1 g2 c2 ns.length ls.length) 25]) (fun i _ => ns.length - (intOf i).toNat)
        case atStart => exact ⟨0, by omega, rfl, fun j h => by omega, M⟩
        case round =>
          obtain ⟨k, hk, rfl, hl, M9⟩ := hrel
          clear M; (try clear C)
          have M := M9
          clear M9
          have C := M.ruleAll; simp only [Go.Proofs.YtinjjaoikofkdaaDoor.ruleAll] at C
          have HL := Hid2.mk hl
          clear hl
          by_cases hlt : k < ns.length
          · have hlt' : (k : Int) < (ns.length : Int) := by omega
            have hkc : (k : Int) ≤ (c1 : Int) := by omega
            have hkc' : ¬ ((c1 : Int) < (k : Int)) := by omega
            have hfail := fun h => @isBkI_name ns ls k hlt h
            have hnext : nameI ns k = true → ∀ j, j < k + 1 → nameI ns j = true := fun h j h1 => by
              rcases Nat.lt_or_eq_of_le (Nat.lt_succ_iff.1 h1) with h2 | rfl
              · exact HL.out j h2
              · exact h
            have hni : nameI ns k = (nameB ns[k] && !((ns.take k).any fun x => ns[k].toList == x.toList)) := by unfold nameI; rw [getD_at hlt]
            have hck : ∀ w1, Below w.heap.size w w1 → w1.cell? ⟨g1, k, none⟩ = some (.string ns[k]) := fun w1 hb => by rw [(F1.out w1 hb).at_ k hlt, nmF_at hlt]
            have hN := fun w1 => isName_any ns[k] w1 (HSZ.out _ (List.getElem_mem hlt))
            have hC := fun w1 (hb : Below w.heap.size w w1) => contains_any ns k hk (by omega) ns[k] w1 g1 c1 (F1.out w1 hb)
            generalize ns[k] = x at hni hck hN hC
            generalize nameB x = a1 at hni hN
            generalize ((ns.take k).any fun y => x.toList == y.toList) = a2 at hni hC
            have HNI := Hid2.mk hni
            have HFAIL := Hid2.mk hfail
            have HN := Hid2.mk hnext
            have hc0 := hck _ M.below
            clear hni hfail hnext hck
            cases a1 with
            | false =>
              go_wp2_with (first | (go_at_call 37; ((with_reducible refine (hN _).mono ?_); rintro e w1 ⟨rfl, hb⟩; have hsz := M.size; (try (have G9 := G.later hb; clear G; have G := G9; clear G9)); have M9 := M.later hb; clear M; (try clear C); have M := M9; clear M9; have C := M.ruleAll; simp only [Go.Proofs.YtinjjaoikofkdaaDoor.ruleAll] at C)))
              go_ret
              exact ⟨by rw [HFAIL.out (by rw [HNI.out]; rfl)]; rfl, M.below⟩
            | true =>
              cases a2 with
              | true =>
                go_wp2_with (first | (go_at_call 37; ((with_reducible refine (hN _).mono ?_); rintro e w1 ⟨rfl, hb⟩; have hsz := M.size; (try (have G9 := G.later hb; clear G; have G := G9; clear G9)); have M9 := M.later hb; clear M; (try clear C); have M := M9; clear M9; have C := M.ruleAll; simp only [Go.Proofs.YtinjjaoikofkdaaDoor.ruleAll] at C)) | (go_at_call 38; ((with_reducible refine (hC _ M.below).mono ?_); rintro e w1 ⟨rfl, hb⟩; have hsz := M.size; (try (have G9 := G.later hb; clear G; have G := G9; clear G9)); have M9 := M.later hb; clear M; (try clear C); have M := M9; clear M9; have C := M.ruleAll; simp only [Go.Proofs.YtinjjaoikofkdaaDoor.ruleAll] at C)))
                go_ret
                exact ⟨by rw [HFAIL.out (by rw [HNI.out]; rfl)]; rfl, M.below⟩
              | false =>
                go_wp2_with (first | (go_at_call 37; ((with_reducible refine (hN _).mono ?_); rintro e w1 ⟨rfl, hb⟩; have hsz := M.size; (try (have G9 := G.later hb; clear G; have G := G9; clear G9)); have M9 := M.later hb; clear M; (try clear C); have M := M9; clear M9; have C := M.ruleAll; simp only [Go.Proofs.YtinjjaoikofkdaaDoor.ruleAll] at C)) | (go_at_call 38; ((with_reducible refine (hC _ M.below).mono ?_); rintro e w1 ⟨rfl, hb⟩; have hsz := M.size; (try (have G9 := G.later hb; clear G; have G := G9; clear G9)); have M9 := M.later hb; clear M; (try clear C); have M := M9; clear M9; have C := M.ruleAll; simp only [Go.Proofs.YtinjjaoikofkdaaDoor.ruleAll] at C)))
                go_roundw
                case rel => exact ⟨k + 1, by omega, by go_num, HN.out (by rw [HNI.out]; rfl), M⟩
                case measure => simp [intOf]; omega
          · obtain rfl : k = ns.length := by omega
            have hge : ¬ ((ns.length : Int) < (ns.length : Int)) := by omega
            have HEQ := Hid2.mk (HALL.out HL.out)
            have HC := fun w1 (hb : Below w.heap.size w w1) => classesOf_any ls hm alkB w1 g2 c2 40 (enters_of (P := Tryd.prog) (f := 40) (by exact Tryd.func40) (by kernel_rfl) rfl) (fun q hq r hr w2 => alike_sq q r w2 (HOK.out q hq) (HOK.out r hr)) (F2.out w1 hb)
            have hcl : (fun j i => alkB (ls.getD j sq00) (ls.getD i sq00)) = alkAt ls := rfl
            rw [hcl] at HC
            generalize clsTo (alkAt ls) ls.length = cls at HEQ HC
            go_wp2
            apply wp_region_mmf2 M [0, 1, 4, 5, 6] 2 3 7 _ _ (StCl cls.length) (by kernel_rfl) (by kernel_rfl) rfl rfl rfl rfl rfl
            case ht => (repeat (first | exact wpTextG_nil | (apply wpTextG_cons; (intro g9 w2 hG; obtain ⟨Lg9, hSt9, G⟩ := hG; have M := G.suffix; have C := M.ruleAll; simp only [Go.Proofs.YtinjjaoikofkdaaDoor.ruleAll] at C; go_wp2; exact ⟨rfl, rfl, Lg9, hSt9, G⟩); rfl)))
            case hA =>
              intro Lg w2 h M
              obtain rfl : Lg = [] := h
              refine yield_walk (ops := #[]) rfl rfl (by simp [Act.put]) ?_
              simp only [List.nil_append] at M
              go_wp2_with (first | (go_at_call 39; ((with_reducible refine (HC _ M.below).mono ?_); rintro e w1 ⟨v, rfl, vs, hvl, M'⟩; have hsz := M.size; have M9 := M.later M'.below; clear M; (try clear C); have M := M9; clear M9; (try simp only [List.set_cons_zero, List.set_cons_succ] at M); have C := M.ruleAll; simp only [Go.Proofs.YtinjjaoikofkdaaDoor.ruleAll] at C; obtain ⟨pp, cap, rfl⟩ := own_form (M'.row 0 rfl))))
              exact ⟨[], ⟨pp, cap, rfl, rfl⟩, M⟩
            case hA2 =>
              intro v Lg w2 h M
              obtain ⟨pp, cap, rfl, rfl⟩ := h
              refine yield_walk (ops := #[]) rfl rfl (by simp [Act.put]) ?_
              go_wp2
              exact ⟨[], ⟨⟨pp, cap, rfl, rfl⟩, rfl⟩, M⟩
            clear M; (try clear C)
            intro v u9 Lg w2 h M
            obtain ⟨⟨pp, cap, rfl, rfl⟩, rfl⟩ := h
            simp only [List.drop_succ_cons, List.drop_zero, List.nil_append] at M ⊢
            go_wp2
            go_ret
            exact ⟨by rw [HEQ.out, decB]; rfl, M.below⟩
end Go.Proofs.YtinjjaoikofkdaaDoor

/- The law on valid books: its walk. -/
namespace Go.Proofs.YtinjjaoikofkdaaDoor
set_option linter.unusedSimpArgs false
set_option linter.unusedVariables false
open Go Go.RowKit



theorem bkv_size (p1 : Option Addr) (c1 : Nat) (p2 : Option Addr) (c2 n m : Nat) : (bkV p1 c1 p2 c2 n m).size = 2 := rfl
/-- What is known of a book that comes in and is not too large. -/
structure BkIn (ns : List ByteArray) (ls : List Sqr) : Prop where
  n : ns.length ≤ 1048576
  m : ls.length ≤ 1048576
  s : ∀ x ∈ ns, x.size ≤ 1048576
  b : ∀ q ∈ ls, Byt2 q.t
/-- What is known of a book in new memory. -/
structure BkHere (ns : List ByteArray) (ls : List Sqr) (w : World) (g1 g2 : Nat) : Prop where
  r1 : rds w g1 ns.length (nmF ns)
  r2 : rds w g2 (ls.length * 101) (fun j => (slC ls).getD j undef)
  ne : g1 ≠ g2
theorem BkHere.of {D : Nat → Prop} {w0 w : World} {L : List Ent} (M : Mm D w0 w L) (i j : Nat) (hij : i ≠ j) {ns : List ByteArray} {ls : List Sqr} {g1 g2 : Nat} {cs1 cs2 : Array Value} (h1 : L[i]? = some (.box g1 cs1 9)) (h2 : L[j]? = some (.box g2 cs2 36)) (hs1 : strC ns cs1) (hs2 : sqaC ls cs2) : BkHere ns ls w g1 g2 :=
  ⟨(M.box i h1).rds hs1.2, (M.box j h2).rds hs2.2, fun e => M.dist i j _ _ h1 h2 hij g1 rfl e.symm⟩
theorem BkHere.later {ns : List ByteArray} {ls : List Sqr} {w w' : World} {g1 g2 : Nat} (h : BkHere ns ls w g1 g2) (hb : Below w.heap.size w w') : BkHere ns ls w' g1 g2 := ⟨h.r1.later hb, h.r2.later hb, h.ne⟩
theorem eqBookA_any {ns : List ByteArray} {ls : List Sqr} (h : BkIn ns ls) (w : World) {g1 g2 g3 g4 : Nat} (h1 : BkHere ns ls w g1 g2) (h2 : BkHere ns ls w g3 g4) (c1 c2 c3 c4 : Nat) :
    Calls Tryd.prog 6 #[.agg (bkA g1 c1 g2 c2 ns.length ls.length), .agg (bkA g3 c3 g4 c4 ns.length ls.length)] w fun e w' => e = .returned (.bool true) ∧ Below w.heap.size w w' :=
  eqBook_any ns ls (by have := h.n; omega) (by have := h.m; omega) w _ _ _ _ c1 c2 c3 c4 h1.r1.rdq h1.r2.rdq h2.r1.rdq h2.r2.rdq
theorem isBookP_any {ns : List ByteArray} {ls : List Sqr} (h : BkIn ns ls) (w : World) {g1 g2 : Nat} (h1 : BkHere ns ls w g1 g2) (c1 c2 : Nat) (hc : ns.length ≤ c1) :
    Calls Tryd.prog 15 #[.agg (bkA g1 c1 g2 c2 ns.length ls.length)] w fun e w' => e = .returned (.bool (isBk ns ls)) ∧ Below w.heap.size w w' := by
  rw [← isBkI_eq ns ls h.b]
  exact isBookI_any ns ls h.n h.m h.s h.b w g1 c1 g2 c2 hc h1.r1 h1.r2
theorem l11IsP_any {ns : List ByteArray} {ls : List Sqr} (h : BkIn ns ls) (w : World) {g1 g2 : Nat} (h1 : BkHere ns ls w g1 g2) (c1 c2 : Nat) :
    Calls Tryd.prog 11 #[.agg (bkA g1 c1 g2 c2 ns.length ls.length)] w fun e w' => e = .returned (.bool (isBk ns ls)) ∧ Below w.heap.size w w' :=
  l11Is_any ns ls h.n h.m h.s h.b w g1 c1 g2 c2 h1.r1 h1.r2 h1.ne


/-- A book in new memory that floats. -/
def StBk (ns : List ByteArray) (ls : List Sqr) : List Value → List Ent → Prop
  | [], Lg => Lg = []
  | v :: _, Lg => ∃ g1 g2 cs1 cs2, v = .agg (bkA g1 ns.length g2 ls.length ns.length ls.length) ∧ strC ns cs1 ∧ sqaC ls cs2 ∧ Lg = [.box g1 cs1 9, .box g2 cs2 36]


end Go.Proofs.YtinjjaoikofkdaaDoor

/- The text of a square, on both sides: contracts. -/
namespace Go.Proofs.YtinjjaoikofkdaaDoor
set_option linter.unusedSimpArgs false
set_option linter.unusedVariables false
open Go Go.RowKit

/-- The bytes of a row as far as k; of the first k rows. -/
def rwT (t : Nat → Nat → Nat) (x : Nat) : Nat → List Nat
  | 0 => []
  | k + 1 => rwT t x k ++ [48 + t x k]
def sqT (n : Nat) (t : Nat → Nat → Nat) : Nat → List Nat
  | 0 => []
  | x + 1 => sqT n t x ++ (if x = 0 then [] else [47]) ++ rwT t x n
theorem rwT_len (t : Nat → Nat → Nat) (x : Nat) : ∀ k, (rwT t x k).length = k
  | 0 => rfl
  | k + 1 => by rw [rwT, List.length_append, rwT_len t x k]; rfl
theorem sqT_len (n : Nat) (t : Nat → Nat → Nat) : ∀ x, (sqT n t x).length ≤ x * (n + 1)
  | 0 => Nat.zero_le _
  | x + 1 => by
    have h := sqT_len n t x
    rw [sqT, List.length_append, List.length_append, rwT_len, Nat.add_mul, Nat.one_mul]
    split
    · simp only [List.length_nil]; omega
    · simp only [List.length_singleton]; omega
theorem rwT_byt {n : Nat} {t : Nat → Nat → Nat} (h : ∀ x y, x < n → y < n → t x y < 10) {x : Nat} (hx : x < n) : ∀ k, k ≤ n → Byts (rwT t x k)
  | 0, _ => fun _ h => by cases h
  | k + 1, hk => fun b hb => by
    rw [rwT, List.mem_append, List.mem_singleton] at hb
    rcases hb with hb | rfl
    · exact rwT_byt h hx k (by omega) b hb
    · have := h x k hx (by omega); omega
theorem sqT_byt {n : Nat} {t : Nat → Nat → Nat} (h : ∀ x y, x < n → y < n → t x y < 10) : ∀ k, k ≤ n → Byts (sqT n t k)
  | 0, _ => fun _ h => by cases h
  | k + 1, hk => fun b hb => by
    rw [sqT, List.mem_append, List.mem_append] at hb
    rcases hb with (hb | hb) | hb
    · exact sqT_byt h k (by omega) b hb
    · split at hb
      · cases hb
      · rw [List.mem_singleton.1 hb]; omega
    · exact rwT_byt h (by omega) n (Nat.le_refl n) b hb
theorem sqT_pos {n : Nat} (t : Nat → Nat → Nat) (hn : 0 < n) : 0 < (sqT n t n).length := by
  obtain ⟨m, rfl⟩ : ∃ m, n = m + 1 := ⟨n - 1, by omega⟩
  rw [sqT, List.length_append, rwT_len]; omega
def u8H (l : List Nat) : List Value := l.map fun (b : Nat) => .int .u8 (b : Int)
theorem u8H_app (l : List Nat) (x : Nat) : u8H (l ++ [x]) = u8H l ++ [.int .u8 (x : Int)] := by simp [u8H]
theorem u8H_len (l : List Nat) : (u8H l).length = l.length := by simp [u8H]
theorem und_slH : Tryd.prog.underlying 74 = some (.slice 5) := by kernel_rfl
theorem inf_elH : (Tryd.prog.info? 5).map (fun i => (i.zero, i.size, i.bytes)) = some (some (.int .u8 0), 1, 1) := by kernel_rfl
theorem bsl_H0 (w : World) : (Instr.buildSlice 74 0 [].toArray).run Tryd.prog w = .ok (.slice (some ⟨w.heap.size, 0, none⟩) 0 0) (w.alloc (.cells #[] 5)) := by kernel_rfl
theorem bsl_H1 (x : Int) (w : World) : (Instr.buildSlice 74 1 [(0, Value.int .u8 x)].toArray).run Tryd.prog w = .ok (.slice (some ⟨w.heap.size, 0, none⟩) 1 1) (w.alloc (.cells #[.int .u8 x] 5)) := by kernel_rfl
theorem flat_H1 (x : Int) : flat #[.int .u8 x] := by intro v hv; simp at hv; subst hv; rfl
/-- A row of bytes as a text. -/
theorem conv_row {w : World} {B g cap : Nat} {l : List Nat} (hb : Byts l) (h : w.ownsRow B 5 1 (.slice (some ⟨g, 0, none⟩) l.length cap) l.length (u8H l)) : (convert 74 9 (.slice (some ⟨g, 0, none⟩) l.length cap)).run Tryd.prog w = .ok (.string (str l)) w := by
  have h1 := run_convert_bytes_back (P := Tryd.prog) w 74 9 5 ⟨g, 0, none⟩ cap (l.map UInt8.ofNat) und_slH (by kernel_rfl) und_str fun j hj => by
    rw [List.length_map] at hj
    rw [add_none, Nat.zero_add, World.ownsRow.cellAt h j (by omega)]
    unfold u8H
    rw [List.getElem?_map, List.getElem?_eq_getElem hj, List.getElem_map]
    have := hb _ (List.getElem_mem hj)
    simp
    omega
  rw [List.length_map] at h1
  exact h1
end Go.Proofs.YtinjjaoikofkdaaDoor

/- The text of a book. Plain Lean. -/
namespace Go.Proofs.YtinjjaoikofkdaaDoor
set_option linter.unusedSimpArgs false
set_option linter.unusedVariables false
open Go Go.RowKit

/-- The bytes of a name of a book. -/
def nmB (ns : List ByteArray) (k : Nat) : List Nat := (ns.getD k ByteArray.empty).data.toList.map UInt8.toNat
theorem nmB_str (ns : List ByteArray) (k : Nat) : ns.getD k ByteArray.empty = str (nmB ns k) := by
  unfold str nmB
  rw [List.map_map]
  have : (UInt8.ofNat ∘ UInt8.toNat) = id := by funext x; simp
  rw [this, List.map_id]
theorem nmB_len (ns : List ByteArray) (k : Nat) : (nmB ns k).length = (ns.getD k ByteArray.empty).size := by
  unfold nmB
  rw [List.length_map, Array.length_toList]; rfl
/-- The bytes of the part of a book with number k; of the first k parts. -/
def wrdT (ns : List ByteArray) (ls : List Sqr) (k : Nat) : List Nat := nmB ns k ++ [61] ++ sqT (ls.getD k sq00).n.toNat (ls.getD k sq00).t (ls.getD k sq00).n.toNat
def bkT (ns : List ByteArray) (ls : List Sqr) : Nat → List Nat
  | 0 => []
  | k + 1 => bkT ns ls k ++ (if k = 0 then [] else [59]) ++ wrdT ns ls k
theorem joinTail_snoc (sep : List UInt8) (r : List (List UInt8)) (y : List UInt8) : Lib.joinTail sep (r ++ [y]) = Lib.joinTail sep r ++ (sep ++ y) := by
  unfold Lib.joinTail
  simp
theorem bkT_cons (ns : List ByteArray) (ls : List Sqr) : ∀ n, (bkT ns ls (n + 1)).map UInt8.ofNat = (wrdT ns ls 0).map UInt8.ofNat ++ Lib.joinTail [59] ((List.range n).map fun k => (wrdT ns ls (k + 1)).map UInt8.ofNat)
  | 0 => by
    show ([] ++ [] ++ wrdT ns ls 0).map UInt8.ofNat = _
    simp [Lib.joinTail]
  | n + 1 => by
    rw [bkT, List.map_append, List.map_append, bkT_cons ns ls n, if_neg (by omega), List.range_succ, List.map_append, List.map_singleton, List.map_singleton, joinTail_snoc]
    simp only [List.append_assoc]
    rfl
theorem bkT_join (ns : List ByteArray) (ls : List Sqr) (n : Nat) : Lib.join (((List.range n).map fun k => str (wrdT ns ls k)).map (·.data.toList)) [59] = (bkT ns ls n).map UInt8.ofNat := by
  have e : ((List.range n).map fun k => str (wrdT ns ls k)).map (·.data.toList) = (List.range n).map fun k => (wrdT ns ls k).map UInt8.ofNat := by
    rw [List.map_map]
    refine List.map_congr_left fun k _ => ?_
    simp [str]
  rw [e]
  cases n with
  | zero => rfl
  | succ n =>
    rw [List.range_succ_eq_map, List.map_cons, Lib.join_cons, List.map_map, bkT_cons]
    rfl
theorem wrdT_len {ns : List ByteArray} {ls : List Sqr} {k : Nat} (h1 : (ns.getD k ByteArray.empty).size ≤ 12) (h2 : (ls.getD k sq00).n ≤ 10) : (wrdT ns ls k).length ≤ 200 := by
  unfold wrdT
  have h3 := sqT_len (ls.getD k sq00).n.toNat (ls.getD k sq00).t (ls.getD k sq00).n.toNat
  have h4 : (ls.getD k sq00).n.toNat ≤ 10 := by omega
  have h5 := Nat.mul_le_mul h4 (Nat.add_le_add_right h4 1)
  rw [List.length_append, List.length_append, List.length_singleton, nmB_len]
  omega
theorem bkT_len {ns : List ByteArray} {ls : List Sqr} : ∀ {n : Nat}, (∀ k, k < n → (wrdT ns ls k).length ≤ 200) → (bkT ns ls n).length ≤ n * 201
  | 0, _ => Nat.zero_le _
  | n + 1, h => by
    have h1 := bkT_len (n := n) fun k hk => h k (by omega)
    have h2 := h n (by omega)
    rw [bkT, List.length_append, List.length_append]
    split
    · simp only [List.length_nil]; omega
    · simp only [List.length_singleton]; omega
/-- What a valid book has. -/
theorem isBk_get {ns : List ByteArray} {ls : List Sqr} (h : isBk ns ls = true) : ns.length ≤ 20 ∧ ls.length = ns.length ∧ ∀ k, k < ns.length → (ns.getD k ByteArray.empty).size ≤ 12 ∧ (ls.getD k sq00).n ≤ 7 ∧ IsSq (ls.getD k sq00).n (ls.getD k sq00).t := by
  unfold isBk at h
  simp only [Bool.and_eq_true, decide_eq_true_eq, List.all_eq_true, List.mem_range] at h
  obtain ⟨⟨⟨h1, h2⟩, h3⟩, _⟩ := h
  refine ⟨h1, h2, fun k hk => ?_⟩
  have h4 := h3 k hk
  unfold itemB nameB at h4
  simp only [Bool.and_eq_true, decide_eq_true_eq, Bool.not_eq_true', decide_eq_false_iff_not] at h4
  obtain ⟨⟨⟨⟨_, _, h5⟩, _⟩, h6⟩, h7⟩ := h4
  exact ⟨h5, by omega, (isLp_true.1 h6).sq⟩
/-- The text of a book and a code. -/
noncomputable def txtR (ns : List ByteArray) (ls : List Sqr) : ByteArray × Int := if isBk ns ls = true then (str (bkT ns ls ns.length), 0) else (⟨#[]⟩, 1)
end Go.Proofs.YtinjjaoikofkdaaDoor

/- The texts of a square: contracts. Printed by gen/h3.py. -/
namespace Go.Proofs.YtinjjaoikofkdaaDoor
set_option linter.unusedSimpArgs false
set_option linter.unusedVariables false
open Go Go.RowKit

set_option maxRecDepth 100000 in
set_option maxHeartbeats 4000000 in
theorem squareText_any (n : Nat) (t : Nat → Nat → Nat) (hn1 : 1 ≤ n) (hn : n ≤ 10) (ht : ∀ x y, x < n → y < n → t x y < 10) (w : World) :
    Calls Tryd.prog 33 #[.agg (sqs (n : Int) t)] w fun e w' => e = .returned (.string (str (sqT n t n))) ∧ Below w.heap.size w w' := by
  have M := Mm.start no w
  have so := sqs_order (n : Int) t
  have hn' : (n : Int) ≤ 10 := by omega
  have HLEN := Hid2.mk (show ∀ k, k ≤ 10 → (sqT n t k).length ≤ 110 from fun k hk => Nat.le_trans (sqT_len n t k) (Nat.mul_le_mul hk (show n + 1 ≤ 11 by omega)))
  have HBY := Hid2.mk (sqT_byt ht n (Nat.le_refl n))
  have HPOS := Hid2.mk (sqT_pos t hn1)
  have HT := Hid2.mk ht
  have HS := Hid2.mk (show ∀ k, sqT n t (k + 1) = sqT n t k ++ (if k = 0 then [] else [47]) ++ rwT t k n from fun _ => rfl)
  have H0 := Hid2.mk (show sqT n t 0 = [] from rfl)
  have HR := Hid2.mk (show ∀ k l, rwT t k (l + 1) = rwT t k l ++ [48 + t k l] from fun _ _ => rfl)
  have HRL := Hid2.mk (fun k l => rwT_len t k l)
  have HR0 := Hid2.mk (show ∀ k, rwT t k 0 = [] from fun _ => rfl)
  clear ht
  go_enter Tryd.func33, Tryd.ntmps33
  go_wp2_with (first | ((with_reducible apply wpM_box' M 36 (sqs (n : Int) t)); rfl; exact ⟨rfl, rfl⟩; clear M; (try clear C); intro bq w9 h_bq M; have C := M.ruleAll; simp only [Go.Proofs.YtinjjaoikofkdaaDoor.ruleAll] at C) | (((with_reducible apply wpM_bsl' M 74 0 5 ([]) (#[])); rfl; rfl; rfl; exact bsl_H0; clear M; (try clear C); intro bs w9 h_bs M; have C := M.ruleAll; simp only [Go.Proofs.YtinjjaoikofkdaaDoor.ruleAll] at C); have M9 := M.asRow 0 rfl w.heap.size 0 1 h_bs rfl (Nat.zero_le _); simp only [List.set_cons_zero] at M9; clear M; (try clear C); have M := M9; clear M9; have C := M.ruleAll; simp only [Go.Proofs.YtinjjaoikofkdaaDoor.ruleAll] at C) | ((with_reducible apply wpM_lda' M 1 36 0 (sqs (n : Int) t)); rfl; rfl; rfl; exact ⟨rfl, inf_sqs.trans (congrArg some (sqs_size ..).symm), _, und_sqs, rfl⟩; exact whole_of rfl) | (go_at_call 52; ((with_reducible refine (elements_any _ _ _ (by omega) (by omega)).mono ?_); rintro e w1 ⟨g1, cap_g1, rfl, hb, hg, hr⟩; have hsz := M.size; have M9 := M.gain hb (x := .rd g1 n (fun j => .int .u8 (j : Int))) hr (fun b h => by cases h; exact hg); clear M; (try clear C); have M := M9; clear M9; (try simp only [List.set_cons_zero, List.set_cons_succ] at M); have C := M.ruleAll; simp only [Go.Proofs.YtinjjaoikofkdaaDoor.ruleAll] at C; clear hb hg hr)))
  go_loopw [3, 12, 5, 24, 7] (fun o i _ _ _ wr => ∃ (k : Nat) (pp : Option Addr) (cap : Nat), k ≤ n ∧ i = .int .i64 (k : Int) ∧ o = .slice pp (sqT n t k).length cap ∧ Mm no w wr [.rd g1 n (fun j => .int .u8 (j : Int)), .row w.heap.size (.slice pp (sqT n t k).length cap) ((sqT n t k).length) (u8H (sqT n t k)) 5 1, .box bq (sqs (n : Int) t) 36]) (fun _ i _ _ _ _ => n - (intOf i).toNat)
  case atStart => exact ⟨0, some ⟨bs, 0, none⟩, 0, by omega, rfl, by rw [H0.out]; rfl, M.eq (by rw [H0.out]; rfl)⟩
  case round =>
    obtain ⟨k, pp, cap, hk, rfl, rfl, M9⟩ := hrel
    clear M; (try clear C)
    have M := M9
    clear M9
    by_cases hlt : k < n
    · have hlt' : (k : Int) < (n : Int) := by omega
      have hk10 : (k : Int) < 10 := by omega
      have hk10' : k < 10 := by omega
      have dlt : decide ((k : Int) < (n : Int)) = true := decide_eq_true hlt'
      have hlen := HLEN.out k (by omega)
      have HS0 := HS.out k
      generalize sqT n t k = A at *
      by_cases hk0 : k = 0
      · have HS1 := Hid2.mk (show sqT n t (k + 1) = A ++ rwT t k n by rw [HS0, if_pos hk0, List.append_nil])
        have hk0' : ¬ (0 : Int) < (k : Int) := by omega
        have dk0 : decide ((0 : Int) < (k : Int)) = false := decide_eq_false hk0'
        clear HS0 hk0
        have C := M.ruleAll; simp only [Go.Proofs.YtinjjaoikofkdaaDoor.ruleAll] at C
        go_wp2_with (first | ((with_reducible apply wpM_lda' M 2 36 0 (sqs (n : Int) t)); rfl; rfl; rfl; exact ⟨rfl, inf_sqs.trans (congrArg some (sqs_size ..).symm), _, und_sqs, rfl⟩; exact whole_of rfl) | (go_at_call 52; ((with_reducible refine (elements_any _ _ _ (by omega) (by omega)).mono ?_); rintro e w1 ⟨g2, cap_g2, rfl, hb, hg, hr⟩; have hsz := M.size; have M9 := M.gain hb (x := .rd g2 n (fun j => .int .u8 (j : Int))) hr (fun b h => by cases h; exact hg); clear M; (try clear C); have M := M9; clear M9; (try simp only [List.set_cons_zero, List.set_cons_succ] at M); have C := M.ruleAll; simp only [Go.Proofs.YtinjjaoikofkdaaDoor.ruleAll] at C; clear hb hg hr)))
        clear dlt dk0
        obtain ⟨Q, HQ⟩ : ∃ Q, Hid2 (Q = A) := ⟨A, Hid2.mk rfl⟩
        have HQL := Hid2.mk (show Q.length = A.length by rw [HQ.out])
        rw [← HQ.out] at HS1
        have hql : Q.length ≤ 112 := by rw [HQL.out]; omega
        go_loopw [3, 24, 7] (fun o i _ wr => ∃ (l : Nat) (pp : Option Addr) (cap : Nat), l ≤ n ∧ i = .int .i64 (l : Int) ∧ o = .slice pp (Q.length + l) cap ∧ Mm no w wr [.rd g2 n (fun j => .int .u8 (j : Int)), .rd g1 n (fun j => .int .u8 (j : Int)), .row w.heap.size (.slice pp (Q.length + l) cap) (Q.length + l) (u8H (Q ++ rwT t k l)) 5 1, .box bq (sqs (n : Int) t) 36]) (fun _ i _ _ => n - (intOf i).toNat)
        case atStart => exact ⟨0, pp, cap, by omega, rfl, by rw [HQL.out] <;> rfl, M.eq (by rw [HQL.out, HQ.out, HR0.out, List.append_nil]; rfl)⟩
        case round =>
          obtain ⟨l, pp, cap, hl, rfl, rfl, M9⟩ := hrel
          clear M; (try clear C)
          have M := M9
          clear M9
          by_cases hlt2 : l < n
          · have hlt2' : (l : Int) < (n : Int) := by omega
            have hl10 : (l : Int) < 10 := by omega
            have hl10' : l < 10 := by omega
            have c1 := sqs_get (n := (n : Int)) (t := t) hk10' hl10'
            have hz := HT.out k l hlt hlt2
            have HR1 := Hid2.mk (HR.out k l)
            generalize t k l = z at c1 hz HR1
            generalize rwT t k l = U at *
            have hz' : (z : Int) < 10 := by omega
            have C := M.ruleAll; simp only [Go.Proofs.YtinjjaoikofkdaaDoor.ruleAll] at C
            go_wp2_with (first | ((with_reducible apply wpM_bsl' M 74 1 5 ([(0, .int .u8 (48 + (z : Int)))]) (#[.int .u8 (48 + (z : Int))])); rfl; rfl; rfl; exact bsl_H1 _; clear M; (try clear C); intro bi w9 h_bi M; have C := M.ruleAll; simp only [Go.Proofs.YtinjjaoikofkdaaDoor.ruleAll] at C) | ((with_reducible apply wpM_app' M 74 3 0 (w.heap.size) (.slice pp (Q.length + l) cap) (Q.length + l) (u8H (Q ++ U)) 5 1 1); rfl; rfl; rfl; rfl; rfl; rfl; rfl; (first | exact .inl (Nat.le_refl _) | exact .inl (by assumption) | exact .inr (by assumption) | exact .inr HDv.out); (first | exact M.size | (have hq := M.size; omega)); exact und_slH; exact inf_elH; rfl; decide; decide; rfl; exact rfl; exact flat_H1 _; omega; clear M; (try clear C); intro v2 w9 far_v2 M; simp only [List.set_cons_zero, List.set_cons_succ, entBlk, entT, List.getElem?_cons_zero, List.getElem?_cons_succ] at M; obtain ⟨pp_v2, cap_v2, rfl⟩ := own_form (M.row 3 rfl); have C := M.ruleAll; simp only [Go.Proofs.YtinjjaoikofkdaaDoor.ruleAll] at C))
            go_roundw
            case rel => exact ⟨l + 1, pp_v2, cap_v2, by omega, by go_num, rfl, (M.drop 0).eq (by rw [HR1.out, ← List.append_assoc, u8H_app, Int.natCast_add]; rfl)⟩
            case measure => simp [intOf]; omega
          · obtain rfl : l = n := by omega
            have hge : ¬ ((l : Int) < (l : Int)) := by omega
            have C := M.ruleAll; simp only [Go.Proofs.YtinjjaoikofkdaaDoor.ruleAll] at C
            go_wp2
            go_roundw
            case rel => exact ⟨k + 1, pp, cap, by omega, by go_num, by rw [HS1.out, List.length_append, HRL.out], (M.drop 0).eq (by rw [HS1.out, List.length_append, HRL.out] <;> rfl)⟩
            case measure => simp [intOf]; omega

      · have HS1 := Hid2.mk (show sqT n t (k + 1) = (A ++ [47]) ++ rwT t k n by rw [HS0, if_neg hk0])
        have hk0' : (0 : Int) < (k : Int) := by omega
        have dk0 : decide ((0 : Int) < (k : Int)) = true := decide_eq_true hk0'
        clear HS0 hk0
        have C := M.ruleAll; simp only [Go.Proofs.YtinjjaoikofkdaaDoor.ruleAll] at C
        go_wp2_with (first | ((with_reducible apply wpM_bsl' M 74 1 5 ([(0, .int .u8 47)]) (#[.int .u8 47])); rfl; rfl; rfl; exact bsl_H1 _; clear M; (try clear C); intro bi w9 h_bi M; have C := M.ruleAll; simp only [Go.Proofs.YtinjjaoikofkdaaDoor.ruleAll] at C) | ((with_reducible apply wpM_app' M 74 2 0 (w.heap.size) (.slice pp A.length cap) (A.length) (u8H A) 5 1 1); rfl; rfl; rfl; rfl; rfl; rfl; rfl; (first | exact .inl (Nat.le_refl _) | exact .inl (by assumption) | exact .inr (by assumption) | exact .inr HDv.out); (first | exact M.size | (have hq := M.size; omega)); exact und_slH; exact inf_elH; rfl; decide; decide; rfl; exact rfl; exact flat_H1 _; omega; clear M; (try clear C); intro v1 w9 far_v1 M; simp only [List.set_cons_zero, List.set_cons_succ, entBlk, entT, List.getElem?_cons_zero, List.getElem?_cons_succ] at M; obtain ⟨pp_v1, cap_v1, rfl⟩ := own_form (M.row 2 rfl); have C := M.ruleAll; simp only [Go.Proofs.YtinjjaoikofkdaaDoor.ruleAll] at C) | ((with_reducible apply wpM_lda' M 3 36 0 (sqs (n : Int) t)); rfl; rfl; rfl; exact ⟨rfl, inf_sqs.trans (congrArg some (sqs_size ..).symm), _, und_sqs, rfl⟩; exact whole_of rfl) | (go_at_call 52; ((with_reducible refine (elements_any _ _ _ (by omega) (by omega)).mono ?_); rintro e w1 ⟨g2, cap_g2, rfl, hb, hg, hr⟩; have hsz := M.size; have M9 := M.gain hb (x := .rd g2 n (fun j => .int .u8 (j : Int))) hr (fun b h => by cases h; exact hg); clear M; (try clear C); have M := M9; clear M9; (try simp only [List.set_cons_zero, List.set_cons_succ] at M); have C := M.ruleAll; simp only [Go.Proofs.YtinjjaoikofkdaaDoor.ruleAll] at C; clear hb hg hr)))
        clear dlt dk0
        obtain ⟨Q, HQ⟩ : ∃ Q, Hid2 (Q = A ++ [47]) := ⟨_, Hid2.mk rfl⟩
        have HQL := Hid2.mk (show Q.length = A.length + 1 by rw [HQ.out, List.length_append, List.length_singleton])
        rw [← HQ.out] at HS1
        have hql : Q.length ≤ 112 := by rw [HQL.out]; omega
        go_loopw [3, 24, 7] (fun o i _ wr => ∃ (l : Nat) (pp : Option Addr) (cap : Nat), l ≤ n ∧ i = .int .i64 (l : Int) ∧ o = .slice pp (Q.length + l) cap ∧ Mm no w wr [.rd g2 n (fun j => .int .u8 (j : Int)), .rd g1 n (fun j => .int .u8 (j : Int)), .row w.heap.size (.slice pp (Q.length + l) cap) (Q.length + l) (u8H (Q ++ rwT t k l)) 5 1, .box bq (sqs (n : Int) t) 36]) (fun _ i _ _ => n - (intOf i).toNat)
        case atStart => exact ⟨0, pp_v1, cap_v1, by omega, rfl, by rw [HQL.out] <;> rfl, (M.sub [0, 2, 3, 4] (by decide)).eq (by rw [HQL.out, HQ.out, HR0.out, List.append_nil, u8H_app]; rfl)⟩
        case round =>
          obtain ⟨l, pp, cap, hl, rfl, rfl, M9⟩ := hrel
          clear M; (try clear C)
          have M := M9
          clear M9
          by_cases hlt2 : l < n
          · have hlt2' : (l : Int) < (n : Int) := by omega
            have hl10 : (l : Int) < 10 := by omega
            have hl10' : l < 10 := by omega
            have c1 := sqs_get (n := (n : Int)) (t := t) hk10' hl10'
            have hz := HT.out k l hlt hlt2
            have HR1 := Hid2.mk (HR.out k l)
            generalize t k l = z at c1 hz HR1
            generalize rwT t k l = U at *
            have hz' : (z : Int) < 10 := by omega
            have C := M.ruleAll; simp only [Go.Proofs.YtinjjaoikofkdaaDoor.ruleAll] at C
            go_wp2_with (first | ((with_reducible apply wpM_bsl' M 74 1 5 ([(0, .int .u8 (48 + (z : Int)))]) (#[.int .u8 (48 + (z : Int))])); rfl; rfl; rfl; exact bsl_H1 _; clear M; (try clear C); intro bi w9 h_bi M; have C := M.ruleAll; simp only [Go.Proofs.YtinjjaoikofkdaaDoor.ruleAll] at C) | ((with_reducible apply wpM_app' M 74 3 0 (w.heap.size) (.slice pp (Q.length + l) cap) (Q.length + l) (u8H (Q ++ U)) 5 1 1); rfl; rfl; rfl; rfl; rfl; rfl; rfl; (first | exact .inl (Nat.le_refl _) | exact .inl (by assumption) | exact .inr (by assumption) | exact .inr HDv.out); (first | exact M.size | (have hq := M.size; omega)); exact und_slH; exact inf_elH; rfl; decide; decide; rfl; exact rfl; exact flat_H1 _; omega; clear M; (try clear C); intro v2 w9 far_v2 M; simp only [List.set_cons_zero, List.set_cons_succ, entBlk, entT, List.getElem?_cons_zero, List.getElem?_cons_succ] at M; obtain ⟨pp_v2, cap_v2, rfl⟩ := own_form (M.row 3 rfl); have C := M.ruleAll; simp only [Go.Proofs.YtinjjaoikofkdaaDoor.ruleAll] at C))
            go_roundw
            case rel => exact ⟨l + 1, pp_v2, cap_v2, by omega, by go_num, rfl, (M.drop 0).eq (by rw [HR1.out, ← List.append_assoc, u8H_app, Int.natCast_add]; rfl)⟩
            case measure => simp [intOf]; omega
          · obtain rfl : l = n := by omega
            have hge : ¬ ((l : Int) < (l : Int)) := by omega
            have C := M.ruleAll; simp only [Go.Proofs.YtinjjaoikofkdaaDoor.ruleAll] at C
            go_wp2
            go_roundw
            case rel => exact ⟨k + 1, pp, cap, by omega, by go_num, by rw [HS1.out, List.length_append, HRL.out], (M.drop 0).eq (by rw [HS1.out, List.length_append, HRL.out] <;> rfl)⟩
            case measure => simp [intOf]; omega

    · obtain rfl : k = n := by omega
      have hge : ¬ ((k : Int) < (k : Int)) := by omega
      obtain ⟨g, cc, e, hB, _, _⟩ := own_rds (M.row 1 rfl) (by have := HPOS.out; omega)
      cases e
      have HV := conv_row HBY.out (M.row 1 rfl)
      obtain ⟨A, hA⟩ : ∃ A, A = sqT k t k := ⟨_, rfl⟩
      rw [← hA] at HV M ⊢
      have HA := Hid2.mk hA
      clear hA
      have C := M.ruleAll; simp only [Go.Proofs.YtinjjaoikofkdaaDoor.ruleAll] at C
      go_wp2
      go_ret
      exact ⟨by rw [← HA.out]; rfl, M.below⟩


end Go.Proofs.YtinjjaoikofkdaaDoor

/- The text of a book: strings.Join out of the shelf, the program's text. Contracts. -/
namespace Go.Proofs
open Go.Shelf
shelf_lay Lays.n156 Nm 156 at Tryd as Tryd.join
theorem Tryd.joinX : Builder.Extra Tryd.prog Tryd.join_ren where
  sizeBuilder := by kernel_rfl
  liesBuilder := by kernel_rfl
  t5 := by kernel_rfl
  a5 := fun _ => by kernel_rfl
  z5 := fun _ => by kernel_rfl
  v5 := fun _ => by kernel_rfl
  infoByte := by kernel_rfl
  cellsByte := by kernel_rfl
  sizeByte := by kernel_rfl
  neB5 := by decide
open Go.RowKit in
theorem Tryd.joinA (bk o c : Nat) (xs : List ByteArray) (sep : ByteArray) (w : World)
    (hcells : ∀ (j : Nat) x, xs[j]? = some x → w.cell? ⟨bk, o + j, none⟩ = some (.string x))
    (hbk : bk < w.heap.size) (hN : xs.length ≤ 140737488355328) (hcap : xs.length ≤ c)
    (hlen : (Lib.join (xs.map (·.data.toList)) sep.data.toList).length ≤ 140737488355328) :
    Calls Tryd.prog 41 #[.slice (some ⟨bk, o, none⟩) xs.length c, .string sep] w fun e w' => e = .returned (.string ⟨(Lib.join (xs.map (·.data.toList)) sep.data.toList).toArray⟩) ∧ Below w.heap.size w w' :=
  Any.strings_Join Tryd.join Tryd.joinX bk o c xs sep w hcells hbk hN hcap hlen
open Go.RowKit in
theorem Tryd.joinN (a : Option Addr) (c : Nat) (sep : ByteArray) (w : World) :
    Calls Tryd.prog 41 #[.slice a 0 c, .string sep] w fun e w' => e = .returned (.string ⟨#[]⟩) ∧ w' = w :=
  Any.strings_Join_none Tryd.join Tryd.joinX a c sep w
end Go.Proofs

namespace Go.Proofs.YtinjjaoikofkdaaDoor
set_option linter.unusedSimpArgs false
set_option linter.unusedVariables false
open Go Go.RowKit
/-- The first k of some texts as a row. -/
def txR (W : Nat → List Nat) (k : Nat) : List Value := (List.range k).map fun j => .string (str (W j))
theorem txR_succ (W : Nat → List Nat) (k : Nat) : txR W (k + 1) = txR W k ++ [.string (str (W k))] := by unfold txR; rw [List.range_succ, List.map_append]; rfl
/-- The parts of a book, joined. -/
theorem join_book (ns : List ByteArray) (ls : List Sqr) (n : Nat) (hn : n ≤ 20) (hl : ∀ k, k < n → (wrdT ns ls k).length ≤ 200) (B : Nat) (pp : Option Addr) (cap : Nat) (w : World) (h : w.ownsRow B 9 1 (.slice pp n cap) n (txR (wrdT ns ls) n)) :
    Calls Tryd.prog 41 #[.slice pp n cap, .string ⟨#[59]⟩] w fun e w' => e = .returned (.string (str (bkT ns ls n))) ∧ Below w.heap.size w w' := by
  rcases Nat.eq_zero_or_pos n with rfl | hp
  · refine (Tryd.joinN pp cap ⟨#[59]⟩ w).mono ?_
    rintro e w' ⟨rfl, rfl⟩
    exact ⟨rfl, Below.refl _ _⟩
  · obtain ⟨g, c, e, _, _, hr⟩ := own_rds h (by omega)
    obtain ⟨rfl, rfl⟩ : pp = some ⟨g, 0, none⟩ ∧ cap = c := by cases e; exact ⟨rfl, rfl⟩
    have hlen : ((List.range n).map fun k => str (wrdT ns ls k)).length = n := by simp
    have hj := bkT_join ns ls n
    have hbl := bkT_len hl
    have hc : n ≤ cap := by
      obtain ⟨_, h | ⟨g', cap', cur, e1, _, _, hn, hc, _⟩⟩ := h
      · cases h.1
      · cases e1; exact hn
    have := Tryd.joinA g 0 cap ((List.range n).map fun k => str (wrdT ns ls k)) ⟨#[59]⟩ w (fun j x hx => by
      have hjn : j < n := by have := (List.getElem?_eq_some_iff.1 hx).1; rwa [hlen] at this
      rw [Nat.zero_add, hr.at_ j (by omega)]
      rw [List.getElem?_map, List.getElem?_range hjn] at hx
      cases hx
      unfold txR
      rw [List.getD_eq_getElem?_getD, List.getElem?_map, List.getElem?_range hjn]
      rfl) hr.lt (by rw [hlen]; omega) (by rw [hlen]; omega) (by
      show (Lib.join _ [59]).length ≤ _
      rw [hj, List.length_map]; omega)
    rw [hlen] at this
    refine this.mono ?_
    rintro e w' ⟨rfl, hb⟩
    refine ⟨?_, hb⟩
    show Ending.returned (.string ⟨(Lib.join _ [59]).toArray⟩) = _
    rw [hj]
    rfl
/-- The text of a square of a book. -/
theorem squareTextI (n : Int) (t : Nat → Nat → Nat) (h : IsSq n t) (w : World) : Calls Tryd.prog 33 #[.agg (sqs n t)] w fun e w' => e = .returned (.string (str (sqT n.toNat t n.toNat))) ∧ Below w.heap.size w w' := by
  have h1 := h.lo
  have h2 := h.hi
  obtain ⟨N, rfl⟩ : ∃ N : Nat, n = (N : Int) := ⟨n.toNat, by omega⟩
  exact squareText_any N t (by omega) (by omega) (fun x y hx hy => by have := (Lat.of_sq h).lt x y hx hy; omega) w

theorem sqT_len2 {n : Int} (t : Nat → Nat → Nat) (h : n ≤ 10) : (sqT n.toNat t n.toNat).length ≤ 110 := by
  have h3 := sqT_len n.toNat t n.toNat
  have h4 : n.toNat ≤ 10 := by omega
  have h5 := Nat.mul_le_mul h4 (Nat.add_le_add_right h4 1)
  omega

set_option maxRecDepth 100000 in
set_option maxHeartbeats 2000000 in
theorem bookText_any {ns : List ByteArray} {ls : List Sqr} (h : BkIn ns ls) (hv : isBk ns ls = true) (w : World) {g1 g2 : Nat} (h1 : BkHere ns ls w g1 g2) (c1 c2 : Nat) :
    Calls Tryd.prog 16 #[.agg (bkA g1 c1 g2 c2 ns.length ls.length)] w fun e w' => e = .returned (.string (str (bkT ns ls ns.length))) ∧ Below w.heap.size w w' := by
  have M := Mm.start no w
  have k0 : (bkA g1 c1 g2 c2 ns.length ls.length)[0]? = some (.slice (some ⟨g1, 0, none⟩) ns.length c1) := rfl
  have k1 : (bkA g1 c1 g2 c2 ns.length ls.length)[1]? = some (.slice (some ⟨g2, 0, none⟩) ls.length c2) := rfl
  obtain ⟨hn, hm, hall⟩ := isBk_get hv
  have hn' : (ns.length : Int) ≤ 20 := by omega
  have hm' : (ls.length : Int) = ns.length := by omega
  have HALL := Hid2.mk hall
  have HWL := Hid2.mk (show ∀ k, k < ns.length → (wrdT ns ls k).length ≤ 200 from fun k hk => wrdT_len (hall k hk).1 (by have := (hall k hk).2.1; omega))
  have HM := Hid2.mk hm
  have HH := Hid2.mk (fun w1 (hb : Below w.heap.size w w1) => h1.later hb)
  have hml : (ls.length : Int) ≤ 20 := by omega
  clear h hv h1 hall hm hm'
  go_enter Tryd.func16, Tryd.ntmps16
  go_wp2_with (first | ((with_reducible apply wpM_box' M 25 (bkA g1 c1 g2 c2 ns.length ls.length)); rfl; exact ⟨rfl, rfl⟩; clear M; (try clear C); intro bb w9 h_bb M; have C := M.ruleAll; simp only [Go.Proofs.YtinjjaoikofkdaaDoor.ruleAll] at C) | (((with_reducible apply wpM_bsl' M 22 0 9 ([]) (#[])); rfl; rfl; rfl; exact bsl_J0; clear M; (try clear C); intro bs w9 h_bs M; have C := M.ruleAll; simp only [Go.Proofs.YtinjjaoikofkdaaDoor.ruleAll] at C); have M9 := M.asRow 0 rfl w.heap.size 0 1 h_bs rfl (Nat.zero_le _); simp only [List.set_cons_zero] at M9; clear M; (try clear C); have M := M9; clear M9; have C := M.ruleAll; simp only [Go.Proofs.YtinjjaoikofkdaaDoor.ruleAll] at C))
  go_loopw [3, 10, 4, 5] (fun o i _ _ wr => ∃ (k : Nat) (pp : Option Addr) (cap : Nat), k ≤ ns.length ∧ i = .int .i64 (k : Int) ∧ o = .slice pp k cap ∧ Mm no w wr [.row w.heap.size (.slice pp k cap) k (txR (wrdT ns ls) k) 9 1, .box bb (bkA g1 c1 g2 c2 ns.length ls.length) 25]) (fun _ i _ _ _ => ns.length - (intOf i).toNat)
  case atStart => exact ⟨0, some ⟨bs, 0, none⟩, 0, by omega, rfl, rfl, M⟩
  case round =>
    obtain ⟨k, pp, cap, hk, rfl, rfl, M9⟩ := hrel
    clear M; (try clear C)
    have M := M9
    clear M9
    by_cases hlt : k < ns.length
    · have hlt' : (k : Int) < (ns.length : Int) := by omega
      have hltm : k < ls.length := by rw [HM.out]; exact hlt
      have hltm' : (k : Int) < (ls.length : Int) := by omega
      obtain ⟨hs1, hs2, hs3⟩ := HALL.out k hlt
      have HN := fun w1 (hb : Below w.heap.size w w1) => (show w1.cell? ⟨g1, k, none⟩ = some (.string (str (nmB ns k))) from by
        rw [(HH.out w1 hb).r1.at_ k hlt, ← nmB_str]; rfl)
      have HQ : ∀ w1, Below w.heap.size w w1 → ∀ j v, (sqs (ls.getD k sq00).n (ls.getD k sq00).t)[j]? = some v → w1.cell? ⟨g2, k * 101 + j, none⟩ = some v := fun w1 hb => by
        rw [getD_at hltm]
        exact sq_cells (HH.out w1 hb).r2 hltm
      have hnl := nmB_len ns k
      have hql := sqT_len2 (ls.getD k sq00).t (show (ls.getD k sq00).n ≤ 10 by omega)
      have HS := Hid2.mk (fun w1 => squareTextI _ _ hs3 w1)
      have HW := Hid2.mk (txR_succ (wrdT ns ls) k)
      have hw : wrdT ns ls k = nmB ns k ++ [61] ++ sqT (ls.getD k sq00).n.toNat (ls.getD k sq00).t (ls.getD k sq00).n.toNat := rfl
      rw [hw] at HW
      clear hw hs3
      generalize txR (wrdT ns ls) k = R0 at HW M
      generalize hsq : sqT (ls.getD k sq00).n.toNat (ls.getD k sq00).t (ls.getD k sq00).n.toNat = sb at *
      clear hsq
      generalize ls.getD k sq00 = q at *
      generalize nmB ns k = nm at *
      have a1 : ∀ w, (Op.stringOp .add (str nm) (⟨#[61]⟩ : ByteArray)).run Tryd.prog w = .ok (.string (str (nm ++ [61]))) w := add_str nm [61] (by rw [List.length_singleton]; omega)
      have a2 := add_str (nm ++ [61]) sb (by rw [List.length_append, List.length_singleton]; omega)
      obtain ⟨wd, hwd⟩ : ∃ wd, wd = nm ++ [61] ++ sb := ⟨_, rfl⟩
      rw [← hwd] at a2 HW
      clear hwd
      have hc1 := HN _ M.below
      have HC := Hid2.mk HQ
      have HC1 := Hid2.mk HN
      clear HN HQ hnl hql hs1 hs2
      have C := M.ruleAll; simp only [Go.Proofs.YtinjjaoikofkdaaDoor.ruleAll] at C
      go_wp2_with (first | (refine wpList_load_part rfl 36 _ rfl (g2) (k * 101) rfl (sqs q.n q.t) _ und_sqs rfl inf_sqs (HC.out _ M.below) ?_) | (go_at_call 33; ((with_reducible refine (HS.out _).mono ?_); rintro e w1 ⟨rfl, hb⟩; have hsz := M.size; (try (have G9 := G.later hb; clear G; have G := G9; clear G9)); have M9 := M.later hb; clear M; (try clear C); have M := M9; clear M9; have C := M.ruleAll; simp only [Go.Proofs.YtinjjaoikofkdaaDoor.ruleAll] at C)) | ((with_reducible apply wpM_bsl' M 22 1 9 ([(0, .string (str wd))]) (#[.string (str wd)])); rfl; rfl; rfl; exact bsl_J1 _; clear M; (try clear C); intro bi w9 h_bi M; have C := M.ruleAll; simp only [Go.Proofs.YtinjjaoikofkdaaDoor.ruleAll] at C) | ((with_reducible apply wpM_app' M 22 1 0 (w.heap.size) (.slice pp k cap) (k) (R0) 9 1 16); rfl; rfl; rfl; rfl; rfl; rfl; rfl; (first | exact .inl (Nat.le_refl _) | exact .inl (by assumption) | exact .inr (by assumption) | exact .inr HDv.out); (first | exact M.size | (have hq := M.size; omega)); exact und_slJ; exact inf_elJ; rfl; decide; decide; rfl; exact rfl; exact flat_J1 _; omega; clear M; (try clear C); intro v2 w9 far_v2 M; simp only [List.set_cons_zero, List.set_cons_succ, entBlk, entT, List.getElem?_cons_zero, List.getElem?_cons_succ] at M; obtain ⟨pp_v2, cap_v2, rfl⟩ := own_form (M.row 1 rfl); have C := M.ruleAll; simp only [Go.Proofs.YtinjjaoikofkdaaDoor.ruleAll] at C))
      go_roundw
      case rel => exact ⟨k + 1, pp_v2, cap_v2, by omega, by go_num, rfl, (M.drop 0).eq (by rw [HW.out]; rfl)⟩
      case measure => simp [intOf]; omega
    · obtain rfl : k = ns.length := by omega
      have hge : ¬ ((ns.length : Int) < (ns.length : Int)) := by omega
      have HJ := Hid2.mk (join_book ns ls ns.length hn HWL.out w.heap.size pp cap)
      generalize hT : str (bkT ns ls ns.length) = T at HJ
      have HT := Hid2.mk hT
      clear hT
      have C := M.ruleAll; simp only [Go.Proofs.YtinjjaoikofkdaaDoor.ruleAll] at C
      go_wp2_with (first | (go_at_call 41; ((with_reducible refine (HJ.out _ (M.row 0 rfl)).mono ?_); rintro e w1 ⟨rfl, hb⟩; have hsz := M.size; (try (have G9 := G.later hb; clear G; have G := G9; clear G9)); have M9 := M.later hb; clear M; (try clear C); have M := M9; clear M9; have C := M.ruleAll; simp only [Go.Proofs.YtinjjaoikofkdaaDoor.ruleAll] at C)))
      go_ret
      exact ⟨by rw [HT.out]; rfl, M.below⟩


end Go.Proofs.YtinjjaoikofkdaaDoor

/- Texts cut into pieces; the squares of texts; plain. -/
namespace Go.Proofs.YtinjjaoikofkdaaDoor
set_option linter.unusedSimpArgs false
set_option linter.unusedVariables false
open Go Go.RowKit

/-! ### Pieces -/
def pstep (c : Nat) (s : List (List Nat) × List Nat) (x : Nat) : List (List Nat) × List Nat := if x = c then (s.1 ++ [s.2], []) else (s.1, s.2 ++ [x])
/-- The pieces that are complete, and the one under way. -/
def pst (c : Nat) (l : List Nat) : List (List Nat) × List Nat := l.foldl (pstep c) ([], [])
/-- The pieces of a text between the bytes c. -/
def pcs (c : Nat) (l : List Nat) : List (List Nat) := (pst c l).1 ++ [(pst c l).2]
theorem pst_snoc (c : Nat) (l : List Nat) (x : Nat) : pst c (l ++ [x]) = pstep c (pst c l) x := by unfold pst; rw [List.foldl_append]; rfl
theorem pcs_len (c : Nat) (l : List Nat) : (pcs c l).length = (pst c l).1.length + 1 := by unfold pcs; rw [List.length_append]; rfl
theorem pst_len (c : Nat) : ∀ (l : List Nat) (s : List (List Nat) × List Nat), (l.foldl (pstep c) s).1.length ≤ s.1.length + l.length
  | [], s => Nat.le_refl _
  | x :: l, s => by
    rw [List.foldl_cons]
    have h := pst_len c l (pstep c s x)
    have h2 : (pstep c s x).1.length ≤ s.1.length + 1 := by
      unfold pstep
      split
      · simp
      · simp
    rw [List.length_cons]
    omega
theorem pcs_le (c : Nat) (l : List Nat) : (pcs c l).length ≤ l.length + 1 := by
  rw [pcs_len]
  have h := pst_len c l ([], [])
  have e : pst c l = l.foldl (pstep c) ([], []) := rfl
  rw [e]
  simp only [List.length_nil, Nat.zero_add] at h
  omega
theorem pst_front (c : Nat) : ∀ (l : List Nat) (A A' : List (List Nat)) (b : List Nat), l.foldl (pstep c) (A ++ A', b) = (A ++ (l.foldl (pstep c) (A', b)).1, (l.foldl (pstep c) (A', b)).2)
  | [], A, A', b => rfl
  | x :: l, A, A', b => by
    rw [List.foldl_cons, List.foldl_cons]
    by_cases h : x = c
    · have e1 : pstep c (A ++ A', b) x = (A ++ (A' ++ [b]), []) := by unfold pstep; rw [if_pos h, List.append_assoc]
      have e2 : pstep c (A', b) x = (A' ++ [b], []) := by unfold pstep; rw [if_pos h]
      rw [e1, e2, pst_front c l]
    · have e1 : pstep c (A ++ A', b) x = (A ++ A', b ++ [x]) := by unfold pstep; rw [if_neg h]
      have e2 : pstep c (A', b) x = (A', b ++ [x]) := by unfold pstep; rw [if_neg h]
      rw [e1, e2, pst_front c l]
theorem pst_miss (c : Nat) : ∀ (l : List Nat) (A : List (List Nat)) (b : List Nat), c ∉ l → l.foldl (pstep c) (A, b) = (A, b ++ l)
  | [], A, b, _ => by rw [List.append_nil]; rfl
  | x :: l, A, b, h => by
    have h1 : x ≠ c := fun e => h (by rw [e]; exact List.mem_cons_self ..)
    rw [List.foldl_cons]
    have e1 : pstep c (A, b) x = (A, b ++ [x]) := by unfold pstep; rw [if_neg h1]
    rw [e1, pst_miss c l A _ fun e => h (List.mem_cons_of_mem _ e), List.append_assoc]
    rfl
theorem pcs_miss {c : Nat} {l : List Nat} (h : c ∉ l) : pcs c l = [l] := by
  unfold pcs pst
  rw [pst_miss c l [] [] h]
  simp
theorem pcs_hit {c : Nat} {a b : List Nat} (h : c ∉ a) : pcs c (a ++ c :: b) = a :: pcs c b := by
  unfold pcs pst
  rw [List.foldl_append, pst_miss c a [] [] h, List.foldl_cons]
  have e1 : pstep c ([], [] ++ a) c = ([a] ++ [], []) := by unfold pstep; rw [if_pos rfl]; simp
  rw [e1, pst_front]
  simp
/-- The pieces put together. -/
def jn (c : Nat) (P : Nat → List Nat) : Nat → List Nat
  | 0 => []
  | k + 1 => jn c P k ++ (if k = 0 then [] else [c]) ++ P k
theorem jn_congr {c : Nat} {P Q : Nat → List Nat} : ∀ {k : Nat}, (∀ i, i < k → P i = Q i) → jn c P k = jn c Q k
  | 0, _ => rfl
  | k + 1, h => by rw [jn, jn, jn_congr fun i hi => h i (by omega), h k (by omega)]
theorem pst_jn (c : Nat) (P : Nat → List Nat) : ∀ k, (∀ i, i < k + 1 → c ∉ P i) → pst c (jn c P (k + 1)) = ((List.range k).map P, P k)
  | 0, h => by
    have e : jn c P 1 = P 0 := by simp [jn]
    unfold pst
    rw [e, pst_miss c (P 0) [] [] (h 0 (by omega))]
    simp
  | k + 1, h => by
    have ih := pst_jn c P k fun i hi => h i (by omega)
    rw [jn, if_neg (by omega)]
    unfold pst at ih ⊢
    rw [List.foldl_append, List.foldl_append, ih]
    have e : List.foldl (pstep c) ((List.range k).map P, P k) [c] = ((List.range k).map P ++ [P k], []) := by
      show pstep c _ c = _
      unfold pstep; rw [if_pos rfl]
    rw [e, pst_miss c (P (k + 1)) _ _ (h (k + 1) (by omega)), List.range_succ, List.map_append]
    simp
theorem pcs_jn {c : Nat} {P : Nat → List Nat} {n : Nat} (hn : 0 < n) (h : ∀ i, i < n → c ∉ P i) : pcs c (jn c P n) = (List.range n).map P := by
  obtain ⟨k, rfl⟩ : ∃ k, n = k + 1 := ⟨n - 1, by omega⟩
  unfold pcs
  rw [pst_jn c P k h, List.range_succ, List.map_append]
  rfl
theorem jn_snoc (c : Nat) (A : List (List Nat)) (b : List Nat) : jn c (fun i => (A ++ [b]).getD i []) (A.length + 1) = jn c (fun i => A.getD i []) A.length ++ (if A.length = 0 then [] else [c]) ++ b := by
  rw [jn]
  congr 1
  · congr 1
    refine jn_congr fun i hi => ?_
    rw [List.getD_eq_getElem?_getD, List.getD_eq_getElem?_getD, List.getElem?_append_left hi]
  · rw [List.getD_eq_getElem?_getD, List.getElem?_append_right (Nat.le_refl _), Nat.sub_self]; rfl
/-- A text is its pieces put together. -/
theorem jn_pcs (c : Nat) (l : List Nat) : jn c (fun i => (pcs c l).getD i []) (pcs c l).length = l := by
  have key : ∀ (l : List Nat) (A : List (List Nat)) (b : List Nat), jn c (fun i => ((l.foldl (pstep c) (A, b)).1 ++ [(l.foldl (pstep c) (A, b)).2]).getD i []) ((l.foldl (pstep c) (A, b)).1.length + 1) = jn c (fun i => (A ++ [b]).getD i []) (A.length + 1) ++ l := by
    intro l
    induction l with
    | nil => intro A b; rw [List.append_nil]; rfl
    | cons x l ih =>
      intro A b
      rw [List.foldl_cons]
      by_cases h : x = c
      · have e1 : pstep c (A, b) x = (A ++ [b], []) := by unfold pstep; rw [if_pos h]
        rw [e1, ih, jn_snoc c (A ++ [b]) [], List.append_nil, if_neg (by simp), h, List.length_append]
        simp
      · have e1 : pstep c (A, b) x = (A, b ++ [x]) := by unfold pstep; rw [if_neg h]
        rw [e1, ih, jn_snoc, jn_snoc]
        simp
  have h := key l [] []
  rw [pcs_len]
  have e : pst c l = l.foldl (pstep c) ([], []) := rfl
  unfold pcs
  rw [e, h]
  simp [jn]

/-! ### Squares of texts -/
theorem sqT_jn (n : Nat) (t : Nat → Nat → Nat) : ∀ k, sqT n t k = jn 47 (fun x => rwT t x n) k
  | 0 => rfl
  | k + 1 => by rw [sqT, jn, sqT_jn n t k]
theorem bkT_jn (ns : List ByteArray) (ls : List Sqr) : ∀ k, bkT ns ls k = jn 59 (wrdT ns ls) k
  | 0 => rfl
  | k + 1 => by rw [bkT, jn, bkT_jn ns ls k]
theorem rwT_mem {t : Nat → Nat → Nat} {x b : Nat} : ∀ {k : Nat}, b ∈ rwT t x k → 48 ≤ b
  | 0, h => by cases h
  | k + 1, h => by
    rw [rwT, List.mem_append, List.mem_singleton] at h
    rcases h with h | h
    · exact rwT_mem h
    · omega
theorem rwT_get {t : Nat → Nat → Nat} {x : Nat} : ∀ {k y : Nat}, y < k → (rwT t x k)[y]? = some (48 + t x y)
  | k + 1, y, h => by
    rw [rwT]
    by_cases e : y = k
    · subst e
      rw [List.getElem?_append_right (by rw [rwT_len]; exact Nat.le_refl _), rwT_len, Nat.sub_self]; rfl
    · rw [List.getElem?_append_left (by rw [rwT_len]; omega), rwT_get (by omega)]
theorem pcs_sqT {n : Nat} (t : Nat → Nat → Nat) (hn : 0 < n) : pcs 47 (sqT n t n) = (List.range n).map fun x => rwT t x n := by
  rw [sqT_jn]
  exact pcs_jn hn fun i _ h => by have := rwT_mem h; omega
/-- A text is that of a square. -/
structure Rd (l : List Nat) (q : Sqr) : Prop where
  sq : IsSq q.n q.t
  txt : l = sqT q.n.toNat q.t q.n.toNat
theorem Rd.pos {l : List Nat} {q : Sqr} (h : Rd l q) : ∃ n : Nat, q.n = n ∧ 1 ≤ n ∧ n ≤ 10 := ⟨q.n.toNat, by have := h.sq.lo; omega, by have := h.sq.lo; omega, by have := h.sq.hi; omega⟩
theorem Rd.rows {l : List Nat} {q : Sqr} (h : Rd l q) : pcs 47 l = (List.range q.n.toNat).map fun x => rwT q.t x q.n.toNat := by
  have hp := h.sq.lo
  conv => lhs; rw [h.txt]
  exact pcs_sqT q.t (by omega)
theorem Rd.uniq {l : List Nat} {q r : Sqr} (h : Rd l q) (k : Rd l r) : sqs q.n q.t = sqs r.n r.t := by
  have e := h.rows.symm.trans k.rows
  have el := congrArg List.length e
  simp only [List.length_map, List.length_range] at el
  obtain ⟨n, hn, n1, n2⟩ := h.pos
  obtain ⟨m, hm, m1, m2⟩ := k.pos
  obtain rfl : n = m := by omega
  refine sqs_ext (by rw [hn, hm]) fun x y hx hy => ?_
  by_cases hc : x < n ∧ y < n
  · have e1 : ((List.range q.n.toNat).map fun x => rwT q.t x q.n.toNat)[x]? = some (rwT q.t x q.n.toNat) := by rw [List.getElem?_map, List.getElem?_range (by omega)]; rfl
    have e2 : ((List.range r.n.toNat).map fun x => rwT r.t x r.n.toNat)[x]? = some (rwT r.t x r.n.toNat) := by rw [List.getElem?_map, List.getElem?_range (by omega)]; rfl
    rw [e, e2] at e1
    have e3 := Option.some.inj e1
    have g1 := rwT_get (t := q.t) (x := x) (k := q.n.toNat) (y := y) (by omega)
    have g2 := rwT_get (t := r.t) (x := x) (k := r.n.toNat) (y := y) (by omega)
    rw [← e3, g2] at g1
    have := Option.some.inj g1
    omega
  · have z1 : q.t x y = 0 := by
      by_cases hxn : x < n
      · exact (h.sq.rows.row x hx (by rw [hn]; omega)).zero y hy (by rw [hn]; omega)
      · exact h.sq.rows.zero x y hx hy (by rw [hn]; omega)
    have z2 : r.t x y = 0 := by
      by_cases hxn : x < n
      · exact (k.sq.rows.row x hx (by rw [hm]; omega)).zero y hy (by rw [hm]; omega)
      · exact k.sq.rows.zero x y hx hy (by rw [hm]; omega)
    rw [z1, z2]
noncomputable def rdB (l : List Nat) : Bool := @decide (∃ q, Rd l q) (Classical.propDecidable _)
noncomputable def rdQ (l : List Nat) : Sqr := @dite _ (∃ q, Rd l q) (Classical.propDecidable _) (fun h => Classical.choose h) fun _ => sq00
theorem rdB_yes {l : List Nat} {q : Sqr} (h : Rd l q) : rdB l = true := by unfold rdB; exact @decide_eq_true _ (Classical.propDecidable _) ⟨q, h⟩
theorem rdB_no {l : List Nat} (h : ∀ q, ¬ Rd l q) : rdB l = false := by unfold rdB; exact @decide_eq_false _ (Classical.propDecidable _) fun ⟨q, hq⟩ => h q hq
theorem rdQ_of {l : List Nat} (h : rdB l = true) : Rd l (rdQ l) := by
  unfold rdB at h
  have h1 := @of_decide_eq_true _ (Classical.propDecidable _) h
  unfold rdQ
  rw [dif_pos h1]
  exact Classical.choose_spec h1
theorem rdQ_eq {l : List Nat} {q : Sqr} (h : Rd l q) : sqs (rdQ l).n (rdQ l).t = sqs q.n q.t := (rdQ_of (rdB_yes h)).uniq h
/-- The table that rows tell. -/
def tbR (L : List (List Nat)) (n : Nat) : Nat → Nat → Nat := fun x y => if x < n ∧ y < n then (L.getD x []).getD y 0 - 48 else 0
theorem rd_rows {l : List Nat} {n : Nat} {t : Nat → Nat → Nat} (hs : IsSq (n : Int) t) (h : pcs 47 l = (List.range n).map fun x => rwT t x n) : Rd l ⟨(n : Int), t⟩ := by
  refine ⟨hs, ?_⟩
  have e := jn_pcs 47 l
  rw [h, List.length_map, List.length_range] at e
  rw [← e]
  simp only [Int.toNat_natCast]
  rw [sqT_jn]
  refine jn_congr fun i hi => ?_
  rw [List.getD_eq_getElem?_getD, List.getElem?_map, List.getElem?_range hi]
  rfl
/-- What is known when all rows of a text have the right length and digits alone. -/
theorem rows_full {l : List Nat} {n : Nat} (hl : (pcs 47 l).length = n) (hr : ∀ x, x < n → ((pcs 47 l).getD x []).length = n) (hd : ∀ x y, x < n → y < n → 48 ≤ ((pcs 47 l).getD x []).getD y 0) : pcs 47 l = (List.range n).map fun x => rwT (tbR (pcs 47 l) n) x n := by
  refine List.ext_getElem? fun x => ?_
  by_cases hx : x < n
  · rw [List.getElem?_map, List.getElem?_range hx]
    have e1 : (pcs 47 l)[x]? = some ((pcs 47 l).getD x []) := by rw [List.getD_eq_getElem?_getD, List.getElem?_eq_getElem (by omega)]; rfl
    rw [e1]
    refine congrArg some (List.ext_getElem? fun y => ?_)
    by_cases hy : y < n
    · have hlen := hr x hx
      have hdd := hd x y hx hy
      rw [rwT_get hy]
      have e2 : ((pcs 47 l).getD x [])[y]? = some (((pcs 47 l).getD x []).getD y 0) := by rw [List.getD_eq_getElem?_getD (l := (pcs 47 l).getD x []), List.getElem?_eq_getElem (by omega)]; rfl
      rw [e2]
      unfold tbR
      rw [if_pos ⟨hx, hy⟩]
      congr 1; omega
    · rw [List.getElem?_eq_none (by rw [hr x hx]; omega), List.getElem?_eq_none (by rw [rwT_len]; omega)]
  · rw [List.getElem?_eq_none (by omega), List.getElem?_eq_none (by rw [List.length_map, List.length_range]; omega)]
theorem Rd.full {l : List Nat} {q : Sqr} (h : Rd l q) : (pcs 47 l).length = q.n.toNat ∧ (∀ x, x < q.n.toNat → ((pcs 47 l).getD x []).length = q.n.toNat) ∧ (∀ x y, x < q.n.toNat → y < q.n.toNat → ((pcs 47 l).getD x []).getD y 0 = 48 + q.t x y) := by
  have e := h.rows
  have hg : ∀ x, x < q.n.toNat → (pcs 47 l).getD x [] = rwT q.t x q.n.toNat := fun x hx => by
    rw [e, List.getD_eq_getElem?_getD, List.getElem?_map, List.getElem?_range hx]; rfl
  refine ⟨by rw [e]; simp, fun x hx => by rw [hg x hx, rwT_len], fun x y hx hy => ?_⟩
  rw [hg x hx, List.getD_eq_getElem?_getD, rwT_get hy]; rfl
theorem Rd.dig {l : List Nat} {q : Sqr} (h : Rd l q) {x y : Nat} (hx : x < q.n.toNat) (hy : y < q.n.toNat) : q.t x y < 10 := by
  obtain ⟨n, hn, n1, n2⟩ := h.pos
  have := (Lat.of_sq (N := n) (by rw [← hn]; exact h.sq)).lt x y (by omega) (by omega)
  omega
theorem IsPm.congrJ {n : Int} {p p' : Nat → Nat} (h : IsPm n p) (e : ∀ i, i < 10 → p i = p' i) : IsPm n p' :=
  ⟨h.lo, h.hi, fun i hi hn => by rw [← e i hi]; exact h.zero i hi hn, fun i hi hn => by rw [← e i hi]; exact h.lt i hi hn, fun i j hi hj hn => by rw [← e i hi, ← e j (by omega)]; exact h.inj i j hi hj hn⟩
theorem IsRw.congrJ {n : Int} {t t' : Nat → Nat → Nat} (h : IsRw n t) (e : ∀ x y, x < 10 → y < 10 → t x y = t' x y) : IsRw n t' :=
  ⟨fun x hx hn => (h.row x hx hn).congrJ fun i hi => e x i hx hi, fun x y hx hy hn => by rw [← e x y hx hy]; exact h.zero x y hx hy hn⟩
theorem IsSq.congrJ {n : Int} {t t' : Nat → Nat → Nat} (h : IsSq n t) (e : ∀ x y, x < 10 → y < 10 → t x y = t' x y) : IsSq n t' :=
  ⟨h.lo, h.hi, h.rows.congrJ e, h.cols.congrJ fun x y hx hy => e y x hy hx⟩
/-- A square of the rows' table: the text is that of a square just if this is one. -/
theorem rd_tbR {l : List Nat} {n : Nat} (h10 : n ≤ 10) (hl : (pcs 47 l).length = n) (hr : ∀ x, x < n → ((pcs 47 l).getD x []).length = n) (hd : ∀ x y, x < n → y < n → 48 ≤ ((pcs 47 l).getD x []).getD y 0) : rdB l = isSq (n : Int) (tbR (pcs 47 l) n) ∧ (rdB l = true → sqs (n : Int) (tbR (pcs 47 l) n) = sqs (rdQ l).n (rdQ l).t) := by
  have hf := rows_full hl hr hd
  cases hs : isSq (n : Int) (tbR (pcs 47 l) n) with
  | true =>
    have R := rd_rows (isSq_true.1 hs) hf
    exact ⟨rdB_yes R, fun _ => (rdQ_eq R).symm⟩
  | false =>
    have hno : ∀ q, ¬ Rd l q := fun q R => by
      obtain ⟨m, hm, m1, m2⟩ := R.pos
      obtain ⟨f1, f2, f3⟩ := R.full
      have hmn : q.n.toNat = n := by omega
      have e : sqs q.n q.t = sqs (n : Int) (tbR (pcs 47 l) n) := sqs_ext (by omega) fun x y hx hy => by
        unfold tbR
        by_cases hc : x < n ∧ y < n
        · rw [if_pos hc, f3 x y (by omega) (by omega)]; omega
        · rw [if_neg hc]
          by_cases hxn : x < n
          · exact (R.sq.rows.row x hx (by omega)).zero y hy (by omega)
          · exact R.sq.rows.zero x y hx hy (by omega)
      have ht : ∀ x y, x < 10 → y < 10 → q.t x y = tbR (pcs 47 l) n x y := fun x y hx hy => by
        have h1 := sqs_get (n := q.n) (t := q.t) hx hy
        have h2 := sqs_get (n := (n : Int)) (t := tbR (pcs 47 l) n) hx hy
        rw [e, h2] at h1
        have := Option.some.inj h1
        simp only [Value.int.injEq, true_and] at this
        omega
      have hsq : IsSq (n : Int) (tbR (pcs 47 l) n) := by
        have hqn : q.n = (n : Int) := by omega
        have s := R.sq
        rw [hqn] at s
        exact IsSq.congrJ s ht
      rw [isSq_true.2 hsq] at hs; cases hs
    exact ⟨rdB_no hno, fun h => by rw [rdB_no hno] at h; cases h⟩
end Go.Proofs.YtinjjaoikofkdaaDoor

/- Marks: texts of numbers; lists of texts marked and held; contracts. -/
namespace Go.Proofs.YtinjjaoikofkdaaDoor
set_option linter.unusedSimpArgs false
set_option linter.unusedVariables false
open Go Go.RowKit

theorem wrapM (x : Int) (h1 : -9223372036854775808 ≤ x) (h2 : x ≤ 9223372036854775807) : wrap64 x = x := by unfold wrap64; omega
theorem und_slM : Tryd.prog.underlying 22 = some (.slice 9) := by kernel_rfl
theorem bsl_uM (x : Int) (w : World) : (Instr.buildSlice 74 1 [(0, Value.int .u8 x)].toArray).run Tryd.prog w = .ok (.slice (some ⟨w.heap.size, 0, none⟩) 1 1) (w.alloc (.cells #[.int .u8 x] 5)) := by kernel_rfl

set_option maxRecDepth 100000 in
set_option maxHeartbeats 1000000 in
theorem markText_any (k : Nat) (hk : k ≤ 4611686018427387904) (w : World) : Calls Tryd.prog 43 #[.int .i64 (k : Int)] w fun e w' => e = .returned (.string (str (mkT k))) ∧ Below w.heap.size w w' := by
  have M := Mm.start no w
  by_cases h0 : k = 0
  · subst h0
    go_enter Tryd.func43, Tryd.ntmps43
    go_wp2
    go_ret
    exact ⟨rfl, M.below⟩
  · have hT : mkT k = 109 :: digs k := if_neg h0
    have HT := Hid2.mk hT
    generalize mkT k = res at HT ⊢
    have h1 : ¬ ((k : Int) ≤ 0) := by omega
    have hdl := digs_len 20 k (by omega)
    clear hT
    go_enter Tryd.func43, Tryd.ntmps43
    go_wp2
    go_loopw [0, 3] (fun i s wr => ∃ (j : Nat) (out : List Nat), j ≤ k ∧ i = .int .i64 (j : Int) ∧ s = .string (str out) ∧ digs k = digs j ++ out ∧ Mm no w wr []) (fun i _ _ => (intOf i).toNat)
    case atStart => exact ⟨k, [], Nat.le_refl _, rfl, rfl, by simp, M⟩
    case round =>
      obtain ⟨j, out, hj, rfl, rfl, hd, M9⟩ := hrel
      clear M
      have M := M9
      clear M9
      have hol : out.length ≤ 20 := by
        have := congrArg List.length hd
        rw [List.length_append] at this
        omega
      have HD := Hid2.mk hd
      clear hd
      by_cases hlt : 0 < j
      · have hlt' : (0 : Int) < (j : Int) := by omega
        have HDJ := Hid2.mk (digs_pos hlt)
        have r3 : ((48 + j % 10 : Nat) : Int) = 48 + (j : Int) % 10 := by omega
        have ha := add_str [48 + j % 10] out (by simp only [List.length_singleton]; omega)
        have HV := Hid2.mk (show ∀ (w1 : World) (g cap : Nat), w1.cell? ⟨g, 0, none⟩ = some (.int .u8 (48 + (j : Int) % 10)) → (convert 74 9 (.slice (some ⟨g, 0, none⟩) 1 cap)).run Tryd.prog w1 = .ok (.string (str [48 + j % 10])) w1 from fun w1 g cap h => @conv_str w1 (48 + j % 10) g cap (by omega) (by rw [r3]; exact h))
        have HJ := Hid2.mk (show ((j / 10 : Nat) : Int) = (j : Int) / 10 from by omega)
        have hm10 : (j : Int) % 10 < 10 := Int.emod_lt_of_pos _ (by decide)
        have hm0 : 0 ≤ (j : Int) % 10 := Int.emod_nonneg _ (by decide)
        have hd10 : j / 10 < j := Nat.div_lt_self hlt (by decide)
        have HS := Hid2.mk (show [48 + j % 10] ++ out = (48 + j % 10) :: out from rfl)
        clear r3
        generalize str [48 + j % 10] = sd at HV ha
        go_wp2_with (first | (((with_reducible apply wpM_bsl' M 74 1 5 ([(0, .int .u8 (48 + (j : Int) % 10))]) (#[.int .u8 (48 + (j : Int) % 10)])); rfl; rfl; rfl; exact bsl_uM _; clear M; (try clear C); intro b w9 h_b M; have C := M.ruleAll; simp only [Go.Proofs.YtinjjaoikofkdaaDoor.ruleAll] at C); have hv := HV.out _ b 1 ((M.box 0 rfl).cell _ _ rfl)))
        go_roundw
        case rel => exact ⟨j / 10, [48 + j % 10] ++ out, by omega, by rw [HJ.out], rfl, by rw [HD.out, HDJ.out, List.append_assoc], M.drop 0⟩
        case measure => simp [intOf]; omega
      · obtain rfl : j = 0 := by omega
        have hk : digs k = out := by rw [HD.out, digs_0]; rfl
        have hr : res = 109 :: out := by rw [HT.out, hk]
        subst hr
        have ha : ∀ w, (Op.stringOp .add (⟨#[109]⟩ : ByteArray) (str out)).run Tryd.prog w = .ok (.string (str (109 :: out))) w := add_str [109] out (by simp only [List.length_singleton]; omega)
        generalize hsr : str (109 :: out) = sr at ha
        have HSR := Hid2.mk hsr
        clear HD HT hk hdl hsr
        go_wp2
        go_ret
        exact ⟨by rw [HSR.out]; rfl, M.below⟩

theorem inf_elM : (Tryd.prog.info? 9).map (·.size) = some 1 := by kernel_rfl
/-- Marks of k, k + 1, .. as cells. -/
def mkS (k j : Nat) : Value := .string (str (mkT (k + j)))

set_option maxRecDepth 100000 in
set_option maxHeartbeats 1000000 in
theorem markStringS_any (n g cap : Nat) (cs : Array Value) (hcs : cs.size = n) (hn : n ≤ 1048576) (k : Nat) (hk : k ≤ 1048577) (w : World) (h : blk w g cs 9) :
    Calls Tryd.prog 19 #[.slice (some ⟨g, 0, none⟩) n cap, .int .i64 (k : Int)] w fun e w' => e = .returned (.int .i64 ((k + n : Nat) : Int)) ∧ ∃ cs', cs'.size = n ∧ (∀ j, j < n → cs'[j]? = some (mkS k j)) ∧ Mm (fun b => b = g) w w' [.box g cs' 9] := by
  have M := ((Mm.start no w).only (fun b => b = g)).add (x := .box g cs 9) h fun _ h => by cases h
  have HM := Hid2.mk (fun j (hj : j ≤ n) w1 => markText_any (k + j) (by omega) w1)
  clear h
  have C := M.ruleAll; simp only [Go.Proofs.YtinjjaoikofkdaaDoor.ruleAll] at C
  go_enter Tryd.func19, Tryd.ntmps19
  go_wp2
  go_loopw [5, 1] (fun i q wr => ∃ j : Nat, j ≤ n ∧ i = .int .i64 (j : Int) ∧ q = .int .i64 ((k + j : Nat) : Int) ∧ ∃ cs' : Array Value, cs'.size = n ∧ (∀ i, i < j → cs'[i]? = some (mkS k i)) ∧ Mm (fun b => b = g) w wr [.box g cs' 9]) (fun i _ _ => n - (intOf i).toNat)
  case atStart => exact ⟨0, by omega, rfl, by simp, cs, hcs, fun i h => by omega, M⟩
  case round =>
    obtain ⟨j, hj, rfl, rfl, cs', hcs', hl, M9⟩ := hrel
    clear M; (try clear C)
    have M := M9
    clear M9
    have C := M.ruleAll; simp only [Go.Proofs.YtinjjaoikofkdaaDoor.ruleAll] at C
    have HL := Hid2.mk hl
    clear hl
    by_cases hlt : j < n
    · have hlt' : (j : Int) < (n : Int) := by omega
      have HT := HM.out j hj
      have HMS := Hid2.mk (show mkS k j = .string (str (mkT (k + j))) from rfl)
      generalize str (mkT (k + j)) = s at HT HMS
      have HKJ := Hid2.mk (show ((k + j : Nat) : Int) + 1 = ((k + (j + 1) : Nat) : Int) from by omega)
      have hkb : ((k + j : Nat) : Int) ≤ 4194304 := by omega
      have hkb0 : (0 : Int) ≤ ((k + j : Nat) : Int) := by omega
      generalize ((k + j : Nat) : Int) = q at HT HKJ hkb hkb0
      go_wp2_with (first | (go_at_call 43; ((with_reducible refine (HT _).mono ?_); rintro e w5 ⟨rfl, hb⟩; have hsz := M.size; (try (have G9 := G.later hb; clear G; have G := G9; clear G9)); have M9 := M.later hb; clear M; (try clear C); have M := M9; clear M9; have C := M.ruleAll; simp only [Go.Proofs.YtinjjaoikofkdaaDoor.ruleAll] at C)) | ((with_reducible apply wpM_st' M 0 9 (j) (cs'.setIfInBounds j (.string s))); rfl; rfl; rfl; (first | exact .inl (by assumption) | exact .inr rfl | exact .inr (by assumption)); exact ⟨rfl, rfl, by kernel_rfl⟩; (exact Nat.lt_of_lt_of_eq (by omega) (hcs').symm); exact rfl; clear M; (try clear C); intro w9 M; simp only [List.set_cons_zero, List.set_cons_succ, entBlk, entT, List.getElem?_cons_zero, List.getElem?_cons_succ] at M; have C := M.ruleAll; simp only [Go.Proofs.YtinjjaoikofkdaaDoor.ruleAll] at C))
      go_roundw
      case rel => exact ⟨j + 1, by omega, by go_num, by rw [HKJ.out], _, by rw [Array.size_setIfInBounds]; exact hcs', fun i hi => by
        rw [Array.getElem?_setIfInBounds]
        split
        · rename_i e; subst e; rw [if_pos (by omega), HMS.out]
        · exact HL.out i (by omega), M⟩
      case measure => simp [intOf]; omega
    · obtain rfl : j = n := by omega
      have hge : ¬ ((j : Int) < (j : Int)) := by omega
      go_wp2
      go_ret
      exact ⟨rfl, cs', hcs', HL.out, M⟩
end Go.Proofs.YtinjjaoikofkdaaDoor

/- The loop of a name, for the program and for the reference: contracts. -/
namespace Go.Proofs.YtinjjaoikofkdaaDoor
set_option linter.unusedSimpArgs false
set_option linter.unusedVariables false
open Go Go.RowKit

/-- The place of a name in a book, and a code. -/
noncomputable def namedR (ns : List ByteArray) (ls : List Sqr) (s : ByteArray) : Int × Int :=
  if isBk ns ls = true then (if nameB s = true then (if placeOf (fun x => x.toList == s.toList) ns < 0 then (0, 4) else (placeOf (fun x => x.toList == s.toList) ns, 0)) else (0, 2)) else (0, 1)
theorem namedR_1 {ns : List ByteArray} {ls : List Sqr} {s : ByteArray} (h : isBk ns ls = false) : namedR ns ls s = (0, 1) := by unfold namedR; rw [if_neg (by rw [h]; simp)]
theorem namedR_2 {ns : List ByteArray} {ls : List Sqr} {s : ByteArray} (h : isBk ns ls = true) (h2 : nameB s = false) : namedR ns ls s = (0, 2) := by unfold namedR; rw [if_pos h, if_neg (by rw [h2]; simp)]
theorem namedR_4 {ns : List ByteArray} {ls : List Sqr} {s : ByteArray} (h : isBk ns ls = true) (h2 : nameB s = true) (h3 : placeOf (fun x => x.toList == s.toList) ns < 0) : namedR ns ls s = (0, 4) := by unfold namedR; rw [if_pos h, if_pos h2, if_pos h3]
theorem namedR_0 {ns : List ByteArray} {ls : List Sqr} {s : ByteArray} (h : isBk ns ls = true) (h2 : nameB s = true) (h3 : ¬ placeOf (fun x => x.toList == s.toList) ns < 0) : namedR ns ls s = (placeOf (fun x => x.toList == s.toList) ns, 0) := by unfold namedR; rw [if_pos h, if_pos h2, if_neg h3]
theorem placeOf_lt {α : Type} (p : α → Bool) (l : List α) (h : ¬ placeOf p l < 0) : ∃ k : Nat, k < l.length ∧ placeOf p l = (k : Int) := by
  unfold placeOf at h ⊢
  cases hf : l.findIdx? p with
  | none => rw [hf] at h; exact absurd (by decide) h
  | some k => exact ⟨k, (List.findIdx?_eq_some_iff_getElem.1 hf).1, rfl⟩
theorem isBk_len {ns : List ByteArray} {ls : List Sqr} (h : isBk ns ls = true) : ls.length = ns.length := by
  unfold isBk at h
  simp only [Bool.and_eq_true, decide_eq_true_eq] at h
  exact h.1.1.2
/-- What a place in a valid book is. -/
theorem namedR_ok {ns : List ByteArray} {ls : List Sqr} {s : ByteArray} : ((namedR ns ls s).2 ≠ 0 ∧ (namedR ns ls s).1 = 0) ∨ ((namedR ns ls s).2 = 0 ∧ ∃ k : Nat, k < ns.length ∧ k < ls.length ∧ (namedR ns ls s).1 = (k : Int)) := by
  cases h : isBk ns ls with
  | false => rw [namedR_1 h]; exact .inl ⟨by decide, rfl⟩
  | true =>
    cases h2 : nameB s with
    | false => rw [namedR_2 h h2]; exact .inl ⟨by decide, rfl⟩
    | true =>
      by_cases h3 : placeOf (fun x : ByteArray => x.toList == s.toList) ns < 0
      · rw [namedR_4 h h2 h3]; exact .inl ⟨by decide, rfl⟩
      · obtain ⟨k, hk, e⟩ := placeOf_lt _ _ h3
        rw [namedR_0 h h2 h3]
        exact .inr ⟨rfl, k, hk, by rw [isBk_len h]; exact hk, e⟩



end Go.Proofs.YtinjjaoikofkdaaDoor

/- Marks on a new book: contracts. -/
namespace Go.Proofs.YtinjjaoikofkdaaDoor
set_option linter.unusedSimpArgs false
set_option linter.unusedVariables false
open Go Go.RowKit

section
variable {P : Program} {D : Nat → Prop} {w0 w : World} {L : List Ent} {ops : Array Oper} {rest : List Oper} {o : Oper} {a : Act} {Q : Exit → Act → World → Prop}
/-- One cell of a row of structs is written. -/
theorem wpM_rstN (M : Mm D w0 w L) (i : Nat) {B g n cap e size : Nat} {xs : List Value} (hi : L[i]? = some (.row B (.slice (some ⟨g, 0, none⟩) n cap) n xs e size)) (hB : w0.heap.size ≤ B ∨ D g) (hw : Region.wanted o (yielded ops a.tmps) = true) (ty : TypeId) (x y : Operand) (ho : o.op = .store ty x y)
    (j : Nat) (hx : a.eval x = .pointer (some ⟨g, j, none⟩)) (v : Value) (hy : a.eval y = v) (hv : oneV v = true) (hs : (P.info? ty).map (·.size) = some 1) (hj : j < n * size)
    (h : ∀ w', Mm D w0 w' (L.set i (.row B (.slice (some ⟨g, 0, none⟩) n cap) n (xs.set j v) e size)) → wpList P ops Q rest (a.put o.dst undef) w') : wpList P ops Q (o :: rest) a w := by
  refine wpList_wanted hw ?_
  have hB' := M.row i hi
  have hlen : xs.length = n * size := hB'.1
  have hcell : w.cell? ⟨g, j, none⟩ = some xs[j] := by rw [World.ownsRow.cellAt hB' j (by omega), List.getElem?_eq_getElem]
  have hfree := World.ownsRow.frozenAt hB' j
  cases hq : P.info? ty with
  | none => simp [hq] at hs
  | some q =>
    have hs' : q.size = 1 := by simpa [hq] using hs
    have hst : (storeVar ty ⟨g, j, none⟩ v).run P w = .ok () (w.setCell ⟨g, j, none⟩ v) := by
      have hc : v.cells = #[v] := by cases v <;> simp_all [Value.cells, oneV]
      have step : (store ((⟨g, j, none⟩ : Addr).add 0) v).run P w = .ok () (w.setCell ⟨g, j, none⟩ v) := by
        rw [add_none, Nat.add_zero]
        cases v <;> simp_all [store, Sem.run, oneV]
      simp [storeVar, sizeOf, typeInfo, hq, hs', hc, storeCells, step]
    unfold Oper.wp execOp
    simp only [ho, hx, hy, Instr.storeAt, Instr.sureAddr, Sem.run_bind, Sem.run_pure, Result.andThen_ok, hst]
    exact h _ (M.rowset i hi hB j v)
theorem wpM_rstN' (M : Mm D w0 w L) (i ty B g n cap e size : Nat) (xs : List Value) (j : Nat) (v : Value) (ho : isStore o.op ty = true) (hi : L[i]? = some (.row B (.slice (some ⟨g, 0, none⟩) n cap) n xs e size)) (hx : a.eval (addrOf o.op) = .pointer (some ⟨g, j, none⟩)) (hy : a.eval (valOf o.op) = v)
    (H : Region.wanted o (yielded ops a.tmps) = true ∧ oneV v = true ∧ (P.info? ty).map (·.size) = some 1) (hB : w0.heap.size ≤ B ∨ D g) (hj : j < n * size)
    (h : ∀ w', Mm D w0 w' (L.set i (.row B (.slice (some ⟨g, 0, none⟩) n cap) n (xs.set j v) e size)) → wpList P ops Q rest (a.put o.dst undef) w') : wpList P ops Q (o :: rest) a w :=
  wpM_rstN M i hi hB H.1 ty _ _ (isStore_spec ho) j hx v hy H.2.1 H.2.2 hj h
end

def StHM (s : ByteArray) : List Value → List Ent → Prop
  | [], Lg => Lg = []
  | v :: _, Lg => v = .string s ∧ Lg = []
/-- Marks of a list of texts; of a list of squares (their orders). -/
def MkdS (k n : Nat) (xs : List Value) : Prop := xs.length = n ∧ ∀ j, j < n → xs[j]? = some (mkS k j)
def MkdQ (k n : Nat) (xs : List Value) : Prop := xs.length = n * 101 ∧ ∀ j, j < n → xs[j * 101]? = some (.int .i64 ((k + j : Nat) : Int))

set_option maxRecDepth 100000 in
set_option maxHeartbeats 1000000 in
theorem markStrR_any (B : Nat) (v : Value) (n : Nat) (xs : List Value) (k : Nat) (hn : n ≤ 1048576) (hk : k ≤ 1048577) (w : World) (h : w.ownsRow B 9 1 v n xs) :
    Calls Tryd.prog 19 #[v, .int .i64 (k : Int)] w fun e w' => e = .returned (.int .i64 ((k + n : Nat) : Int)) ∧ ∃ ys, MkdS k n ys ∧ Mm (fun b => v.ownBlock = some b) w w' [.row B v n ys 9 1] := by
  have hlen : xs.length = n := by have := h.1; omega
  have M := ((Mm.start no w).only (fun b => v.ownBlock = some b)).add (x := .row B v n xs 9 1) h fun _ h => by cases h
  have HM := Hid2.mk (fun j (hj : j ≤ n) w1 => markText_any (k + j) (by omega) w1)
  obtain ⟨pp, cap, rfl⟩ := own_form h
  clear h
  go_enter Tryd.func19, Tryd.ntmps19
  go_wp2
  go_loopw [5, 1] (fun i q wr => ∃ j : Nat, j ≤ n ∧ i = .int .i64 (j : Int) ∧ q = .int .i64 ((k + j : Nat) : Int) ∧ ∃ cur : List Value, cur.length = n ∧ (∀ t, t < j → cur[t]? = some (mkS k t)) ∧ Mm (fun b => (Value.slice pp n cap).ownBlock = some b) w wr [.row B (.slice pp n cap) n cur 9 1]) (fun i _ _ => n - (intOf i).toNat)
  case atStart => exact ⟨0, by omega, rfl, by simp, xs, hlen, fun t h => by omega, M⟩
  case round =>
    obtain ⟨j, hj, rfl, rfl, cur, hcl, hcur, M9⟩ := hrel
    clear M; (try clear C)
    have M := M9
    clear M9
    have HCU := Hid2.mk hcur
    clear hcur
    by_cases hlt : j < n
    · have hlt' : (j : Int) < (n : Int) := by omega
      obtain ⟨g, cap', he, _, _, _⟩ := own_rds (M.row 0 rfl) (by omega)
      cases he
      have HT := HM.out j hj
      have HMS := Hid2.mk (show mkS k j = .string (str (mkT (k + j))) from rfl)
      generalize str (mkT (k + j)) = s at HT HMS
      have HKJ := Hid2.mk (show ((k + j : Nat) : Int) + 1 = ((k + (j + 1) : Nat) : Int) from by omega)
      have hkb : ((k + j : Nat) : Int) ≤ 4194304 := by omega
      have hkb0 : (0 : Int) ≤ ((k + j : Nat) : Int) := by omega
      generalize ((k + j : Nat) : Int) = q at HT HKJ hkb hkb0
      have C := M.ruleAll; simp only [Go.Proofs.YtinjjaoikofkdaaDoor.ruleAll] at C
      go_wp2_with (first | (go_at_call 43; ((with_reducible refine (HT _).mono ?_); rintro e w5 ⟨rfl, hb⟩; have hsz := M.size; (try (have G9 := G.later hb; clear G; have G := G9; clear G9)); have M9 := M.later hb; clear M; (try clear C); have M := M9; clear M9; have C := M.ruleAll; simp only [Go.Proofs.YtinjjaoikofkdaaDoor.ruleAll] at C)) | ((with_reducible apply wpM_rstN' M 0 9 B g n cap 9 1 cur j (.string s)); rfl; rfl; rfl; rfl; exact ⟨rfl, rfl, by kernel_rfl⟩; exact .inr rfl; omega; (clear M; (try clear C); intro w9 M)))
      go_roundw
      case rel =>
        refine ⟨j + 1, by omega, by go_num, by rw [HKJ.out], cur.set j (.string s), by rw [List.length_set]; exact hcl, fun t ht => ?_, M⟩
        rw [List.getElem?_set]
        split
        · rename_i e; subst e; rw [if_pos (by omega), HMS.out]
        · exact HCU.out t (by omega)
      case measure => simp [intOf]; omega
    · obtain rfl : j = n := by omega
      have hge : ¬ ((j : Int) < (j : Int)) := by omega
      go_wp2
      go_ret
      exact ⟨rfl, cur, ⟨hcl, HCU.out⟩, M⟩

set_option maxRecDepth 100000 in
set_option maxHeartbeats 1000000 in
theorem heldStr_any (p : Option Addr) (n cap : Nat) (k : Nat) (hn : n ≤ 1048576) (hk : k ≤ 1048577) (w : World) (h : rdq w p n (mkS k)) :
    Calls Tryd.prog 21 #[.slice p n cap, .int .i64 (k : Int)] w fun e w' => e = .returned (.int .i64 ((k + n : Nat) : Int)) ∧ Below w.heap.size w w' := by
  have M := Mm.start no w
  have F1 := Hid2.mk (fun w1 (hb : Below w.heap.size w w1) => h.later hb)
  have HM := Hid2.mk (fun j (hj : j ≤ n) w1 => markText_any (k + j) (by omega) w1)
  clear h
  go_enter Tryd.func21, Tryd.ntmps21
  go_wp2
  go_loopw [5, 1] (fun i q wr => ∃ j : Nat, j ≤ n ∧ i = .int .i64 (j : Int) ∧ q = .int .i64 ((k + j : Nat) : Int) ∧ Mm no w wr []) (fun i _ _ => n - (intOf i).toNat)
  case atStart => exact ⟨0, by omega, rfl, by simp, M⟩
  case round =>
    obtain ⟨j, hj, rfl, rfl, M9⟩ := hrel
    clear M
    have M := M9
    clear M9
    by_cases hlt : j < n
    · have hlt' : (j : Int) < (n : Int) := by omega
      obtain ⟨g, rfl, hr⟩ := F1.out _ M.below (by omega)
      have HCL := Hid2.mk (show ∀ w1, Below w.heap.size w w1 → w1.cell? ⟨g, j, none⟩ = some (.string (str (mkT (k + j)))) from fun w1 hb => by
        obtain ⟨g', e, hr'⟩ := F1.out w1 hb (by omega)
        cases e
        exact hr'.at_ j hlt)
      have hcell := HCL.out _ M.below
      have HT := HM.out j hj
      generalize str (mkT (k + j)) = s at HT HCL hcell
      have hss : (s.toList == s.toList) = true := by simp
      have HKJ := Hid2.mk (show ((k + j : Nat) : Int) + 1 = ((k + (j + 1) : Nat) : Int) from by omega)
      have hkb : ((k + j : Nat) : Int) ≤ 4194304 := by omega
      have hkb0 : (0 : Int) ≤ ((k + j : Nat) : Int) := by omega
      generalize ((k + j : Nat) : Int) = q at HT HKJ hkb hkb0
      clear hr
      clear hcell
      go_wp2
      apply wp_region_mmf1 M [0, 1, 2, 3, 4] 5 6 _ (StHM s) (by kernel_rfl) (by kernel_rfl) rfl rfl rfl
      case ht => (repeat (first | exact wpTextG_nil | (apply wpTextG_cons; (intro g9 w2 hG; obtain ⟨Lg9, hSt9, G⟩ := hG; have M := G.suffix; have hcell := HCL.out _ M.below; go_wp2; exact ⟨rfl, rfl, Lg9, hSt9, G⟩); rfl)))
      case hA =>
        intro Lg w2 h M
        obtain rfl : Lg = [] := h
        refine yield_walk (ops := #[]) rfl rfl (by simp [Act.put]) ?_
        simp only [List.nil_append] at M
        go_wp2_with (first | (go_at_call 43; ((with_reducible refine (HT _).mono ?_); rintro e w5 ⟨rfl, hb⟩; have hsz := M.size; (try (have G9 := G.later hb; clear G; have G := G9; clear G9)); have M9 := M.later hb; clear M; (try clear C); have M := M9; clear M9; have C := M.ruleAll; simp only [Go.Proofs.YtinjjaoikofkdaaDoor.ruleAll] at C)))
        exact ⟨[], ⟨rfl, rfl⟩, M⟩
      clear M; (try clear C)
      intro v Lg w2 h M
      obtain ⟨rfl, rfl⟩ := h
      simp only [List.drop_succ_cons, List.drop_zero, List.nil_append] at M ⊢
      go_wp2
      go_roundw
      case rel => exact ⟨j + 1, by omega, by go_num, by rw [HKJ.out], M⟩
      case measure => simp [intOf]; omega
    · obtain rfl : j = n := by omega
      have hge : ¬ ((j : Int) < (j : Int)) := by omega
      go_wp2
      go_ret
      exact ⟨rfl, M.below⟩

set_option maxRecDepth 100000 in
set_option maxHeartbeats 1000000 in
theorem markSqR_any (B : Nat) (v : Value) (n : Nat) (xs : List Value) (k : Nat) (hn : n ≤ 1048576) (hk : k ≤ 2097153) (w : World) (h : w.ownsRow B 36 101 v n xs) :
    Calls Tryd.prog 20 #[v, .int .i64 (k : Int)] w fun e w' => e = .returned (.int .i64 ((k + n : Nat) : Int)) ∧ ∃ ys, MkdQ k n ys ∧ Mm (fun b => v.ownBlock = some b) w w' [.row B v n ys 36 101] := by
  have hlen : xs.length = n * 101 := h.1
  have M := ((Mm.start no w).only (fun b => v.ownBlock = some b)).add (x := .row B v n xs 36 101) h fun _ h => by cases h
  obtain ⟨pp, cap, rfl⟩ := own_form h
  clear h
  go_enter Tryd.func20, Tryd.ntmps20
  go_wp2
  go_loopw [5, 1] (fun i q wr => ∃ j : Nat, j ≤ n ∧ i = .int .i64 (j : Int) ∧ q = .int .i64 ((k + j : Nat) : Int) ∧ ∃ cur : List Value, cur.length = n * 101 ∧ (∀ t, t < j → cur[t * 101]? = some (.int .i64 ((k + t : Nat) : Int))) ∧ Mm (fun b => (Value.slice pp n cap).ownBlock = some b) w wr [.row B (.slice pp n cap) n cur 36 101]) (fun i _ _ => n - (intOf i).toNat)
  case atStart => exact ⟨0, by omega, rfl, by simp, xs, hlen, fun t h => by omega, M⟩
  case round =>
    obtain ⟨j, hj, rfl, rfl, cur, hcl, hcur, M9⟩ := hrel
    clear M; (try clear C)
    have M := M9
    clear M9
    have HCU := Hid2.mk hcur
    clear hcur
    by_cases hlt : j < n
    · have hlt' : (j : Int) < (n : Int) := by omega
      obtain ⟨g, cap', he, _, _, _⟩ := own_rds (M.row 0 rfl) (by omega)
      cases he
      have HKJ := Hid2.mk (show ((k + j : Nat) : Int) + 1 = ((k + (j + 1) : Nat) : Int) from by omega)
      have hkb : ((k + j : Nat) : Int) ≤ 4194304 := by omega
      have hkb0 : (0 : Int) ≤ ((k + j : Nat) : Int) := by omega
      obtain ⟨q, hq⟩ : ∃ q : Int, q = ((k + j : Nat) : Int) := ⟨_, rfl⟩
      rw [← hq] at HKJ hkb hkb0 ⊢
      have HQV := Hid2.mk hq
      clear hq
      have C := M.ruleAll; simp only [Go.Proofs.YtinjjaoikofkdaaDoor.ruleAll] at C
      go_wp2_with (first | ((with_reducible apply wpM_rstN' M 0 2 B g n cap 36 101 cur (j * 101) (.int .i64 q)); rfl; rfl; rfl; rfl; exact ⟨rfl, rfl, by kernel_rfl⟩; exact .inr rfl; omega; (clear M; (try clear C); intro w9 M)))
      go_roundw
      case rel =>
        refine ⟨j + 1, by omega, by go_num, by rw [HKJ.out], cur.set (j * 101) (.int .i64 q), by rw [List.length_set]; exact hcl, fun t ht => ?_, M⟩
        rw [List.getElem?_set]
        split
        · rename_i e
          obtain rfl : j = t := by omega
          rw [if_pos (by omega), HQV.out]
        · exact HCU.out t (by omega)
      case measure => simp [intOf]; omega
    · obtain rfl : j = n := by omega
      have hge : ¬ ((j : Int) < (j : Int)) := by omega
      go_wp2
      go_ret
      exact ⟨rfl, cur, ⟨hcl, HCU.out⟩, M⟩

set_option maxRecDepth 100000 in
set_option maxHeartbeats 1000000 in
theorem heldSq_any (p : Option Addr) (n cap : Nat) (k : Nat) (hn : n ≤ 1048576) (hk : k ≤ 2097153) (w : World) (f : Nat → Value) (h : rdq w p (n * 101) f) (hf : ∀ j, j < n → f (j * 101) = .int .i64 ((k + j : Nat) : Int)) :
    Calls Tryd.prog 22 #[.slice p n cap, .int .i64 (k : Int)] w fun e w' => e = .returned (.int .i64 ((k + n : Nat) : Int)) ∧ Below w.heap.size w w' := by
  have M := Mm.start no w
  have F1 := Hid2.mk (fun w1 (hb : Below w.heap.size w w1) => h.later hb)
  have HF := Hid2.mk hf
  clear h hf
  go_enter Tryd.func22, Tryd.ntmps22
  go_wp2
  go_loopw [5, 1] (fun i q wr => ∃ j : Nat, j ≤ n ∧ i = .int .i64 (j : Int) ∧ q = .int .i64 ((k + j : Nat) : Int) ∧ Mm no w wr []) (fun i _ _ => n - (intOf i).toNat)
  case atStart => exact ⟨0, by omega, rfl, by simp, M⟩
  case round =>
    obtain ⟨j, hj, rfl, rfl, M9⟩ := hrel
    clear M
    have M := M9
    clear M9
    by_cases hlt : j < n
    · have hlt' : (j : Int) < (n : Int) := by omega
      obtain ⟨g, rfl, hr⟩ := F1.out _ M.below (by omega)
      have hcell := hr.at_ (j * 101) (by omega)
      rw [HF.out j hlt] at hcell
      have HKJ := Hid2.mk (show ((k + j : Nat) : Int) + 1 = ((k + (j + 1) : Nat) : Int) from by omega)
      have hkb : ((k + j : Nat) : Int) ≤ 4194304 := by omega
      have hkb0 : (0 : Int) ≤ ((k + j : Nat) : Int) := by omega
      generalize ((k + j : Nat) : Int) = q at hcell HKJ hkb hkb0
      have hqq : (q == q) = true := by simp
      clear hr
      go_wp2
      go_roundw
      case rel => exact ⟨j + 1, by omega, by go_num, by rw [HKJ.out], M⟩
      case measure => simp [intOf]; omega
    · obtain rfl : j = n := by omega
      have hge : ¬ ((j : Int) < (j : Int)) := by omega
      go_wp2
      go_ret
      exact ⟨rfl, M.below⟩

end Go.Proofs.YtinjjaoikofkdaaDoor

/- A new book: marks on it, what is read of it, the post of a function that hands one back. Contracts. -/
namespace Go.Proofs.YtinjjaoikofkdaaDoor
set_option linter.unusedSimpArgs false
set_option linter.unusedVariables false
open Go Go.RowKit

theorem own_ge {w : World} {B e size n : Nat} {v : Value} {xs : List Value} (h : w.ownsRow B e size v n xs) {b : Nat} (hb : v.ownBlock = some b) : B ≤ b := by
  rcases h.2 with ⟨h, _⟩ | ⟨g, cap, cur, rfl, hB, _⟩
  · rw [h] at hb; cases hb
  · cases hb; exact hB
/-- A call that writes into the first entries. -/
theorem Mm.callD {D D0 : Nat → Prop} {w0 w w' : World} {X Y X' : List Ent} (M : Mm D0 w0 w (X ++ Y)) (M' : Mm D w w' X') (hD : ∀ b, D b → ∃ x ∈ X, x.place b) (hX : ∀ x ∈ X', ∀ b, x.place b → (∃ y ∈ X, y.place b) ∨ w.heap.size ≤ b) (h0 : ∀ b, b < w0.heap.size → D b → D0 b) : Mm D0 w0 w' (X' ++ Y) := by
  have hp := List.pairwise_append.1 M.pair
  have hy : ∀ y ∈ Y, y.holds w := fun y h => M.mem (List.mem_append_right X h)
  refine .of_pair (M.kept.trans M'.kept h0) (fun x hx => ?_) (List.pairwise_append.2 ⟨M'.pair, hp.2.1, fun x hx y hy2 b h1 h2 => ?_⟩)
  · rcases List.mem_append.1 hx with h1 | h1
    · exact M'.mem h1
    · refine Ent.holds_of (x := x) (hy x h1) M'.kept fun b hb hd => ?_
      obtain ⟨z, hz, hzb⟩ := hD b hd
      exact hp.2.2 z hz x h1 b hzb hb
  · rcases hX x hx b h1 with ⟨z, hz, hzb⟩ | h
    · exact hp.2.2 z hz y hy2 b hzb h2
    · have := Ent.lt (hy y hy2) h2
      omega

/-- Both rows of a book may be written. -/
def BkD (v1 v2 : Value) : Nat → Prop := fun b => v1.ownBlock = some b ∨ v2.ownBlock = some b
set_option maxRecDepth 100000 in
set_option maxHeartbeats 1000000 in
theorem markBook_any (B n m c1 c2 : Nat) (pp1 pp2 : Option Addr) (xs1 xs2 : List Value) (k : Nat) (hn : n ≤ 1048576) (hm : m ≤ 1048576) (hk : k ≤ 1048577) (w : World) (M0 : Mm no w w [.row B (.slice pp1 n c1) n xs1 9 1, .row B (.slice pp2 m c2) m xs2 36 101]) :
    Calls Tryd.prog 7 #[.agg (bkV pp1 c1 pp2 c2 n m), .int .i64 (k : Int)] w fun e w' => e = .returned (.int .i64 ((k + n + m : Nat) : Int)) ∧ ∃ ys1 ys2, MkdS k n ys1 ∧ MkdQ (k + n) m ys2 ∧ Mm (BkD (.slice pp1 n c1) (.slice pp2 m c2)) w w' [.row B (.slice pp1 n c1) n ys1 9 1, .row B (.slice pp2 m c2) m ys2 36 101] := by
  have M := M0.only (BkD (.slice pp1 n c1) (.slice pp2 m c2))
  have k0 : (bkV pp1 c1 pp2 c2 n m)[0]? = some (.slice pp1 n c1) := rfl
  have k1 : (bkV pp1 c1 pp2 c2 n m)[1]? = some (.slice pp2 m c2) := rfl
  have H1 := Hid2.mk (fun w1 h => markStrR_any B (.slice pp1 n c1) n xs1 k hn hk w1 h)
  have H2 := Hid2.mk (fun w1 h => markSqR_any B (.slice pp2 m c2) m xs2 (k + n) hm (by omega) w1 h)
  clear M0
  go_enter Tryd.func7, Tryd.ntmps7
  go_wp2_with (first | ((with_reducible apply wpM_box' M 25 (bkV pp1 c1 pp2 c2 n m)); rfl; exact ⟨rfl, rfl⟩; clear M; (try clear C); intro bb w9 h_bb M; have C := M.ruleAll; simp only [Go.Proofs.YtinjjaoikofkdaaDoor.ruleAll] at C) | (go_at_call 19; fail))
  refine (H1.out _ (M.row 1 rfl)).mono ?_
  rintro e w1 ⟨rfl, ys1, hy1, M'⟩
  have M9 := Mm.callD (X := [.row B (.slice pp1 n c1) n xs1 9 1]) (Y := [.box bb (bkV pp1 c1 pp2 c2 n m) 25, .row B (.slice pp2 m c2) m xs2 36 101]) (M.sub [1, 0, 2] (by decide)) M' (fun b h => ⟨_, List.mem_singleton.2 rfl, h⟩) (fun x hx b h => by rw [List.mem_singleton.1 hx] at h; exact .inl ⟨_, List.mem_singleton.2 rfl, h⟩) (fun b _ h => .inl h)
  simp only [List.cons_append, List.nil_append] at M9
  clear M; (try clear C)
  have M := M9
  clear M9 M'
  have HY1 := Hid2.mk hy1
  clear hy1
  have C := M.ruleAll; simp only [Go.Proofs.YtinjjaoikofkdaaDoor.ruleAll] at C
  go_wp2_with (first | (go_at_call 20; fail))
  refine (H2.out _ (M.row 2 rfl)).mono ?_
  rintro e w2 ⟨rfl, ys2, hy2, M'⟩
  have M9 := Mm.callD (X := [.row B (.slice pp2 m c2) m xs2 36 101]) (Y := [.box bb (bkV pp1 c1 pp2 c2 n m) 25, .row B (.slice pp1 n c1) n ys1 9 1]) (M.sub [2, 1, 0] (by decide)) M' (fun b h => ⟨_, List.mem_singleton.2 rfl, h⟩) (fun x hx b h => by rw [List.mem_singleton.1 hx] at h; exact .inl ⟨_, List.mem_singleton.2 rfl, h⟩) (fun b _ h => .inr h)
  simp only [List.cons_append, List.nil_append] at M9
  clear M; (try clear C)
  have M := M9
  clear M9 M'
  have HY2 := Hid2.mk hy2
  clear hy2
  have C := M.ruleAll; simp only [Go.Proofs.YtinjjaoikofkdaaDoor.ruleAll] at C
  go_wp2
  go_ret
  exact ⟨rfl, ys1, ys2, HY1.out, HY2.out, M.sub [2, 0] (by decide)⟩

set_option maxRecDepth 100000 in
set_option maxHeartbeats 1000000 in
theorem heldBook_any (n m c1 c2 : Nat) (p1 p2 : Option Addr) (k : Nat) (hn : n ≤ 1048576) (hm : m ≤ 1048576) (hk : k ≤ 1048577) (w : World) (f : Nat → Value) (h1 : rdq w p1 n (mkS k)) (h2 : rdq w p2 (m * 101) f) (hf : ∀ j, j < m → f (j * 101) = .int .i64 ((k + n + j : Nat) : Int)) :
    Calls Tryd.prog 8 #[.agg (bkV p1 c1 p2 c2 n m), .int .i64 (k : Int)] w fun e w' => e = .returned (.int .i64 ((k + n + m : Nat) : Int)) ∧ Below w.heap.size w w' := by
  have M := Mm.start no w
  have k0 : (bkV p1 c1 p2 c2 n m)[0]? = some (.slice p1 n c1) := rfl
  have k1 : (bkV p1 c1 p2 c2 n m)[1]? = some (.slice p2 m c2) := rfl
  have H1 := Hid2.mk (fun w1 (hb : Below w.heap.size w w1) => heldStr_any p1 n c1 k hn hk w1 (h1.later hb))
  have H2 := Hid2.mk (fun w1 (hb : Below w.heap.size w w1) => heldSq_any p2 m c2 (k + n) hm (by omega) w1 f (h2.later hb) hf)
  have hp1 : ¬ ((k + n : Nat) : Int) < 0 := by omega
  have hp2 : ¬ ((k + n + m : Nat) : Int) < 0 := by omega
  generalize ((k + n + m : Nat) : Int) = q2 at *
  generalize ((k + n : Nat) : Int) = q1 at *
  clear h1 h2 hf
  go_enter Tryd.func8, Tryd.ntmps8
  go_wp2_with (first | ((with_reducible apply wpM_box' M 25 (bkV p1 c1 p2 c2 n m)); rfl; exact ⟨rfl, rfl⟩; clear M; (try clear C); intro bb w9 h_bb M; have C := M.ruleAll; simp only [Go.Proofs.YtinjjaoikofkdaaDoor.ruleAll] at C) | (go_at_call 21; ((with_reducible refine (H1.out _ M.below).mono ?_); rintro e w1 ⟨rfl, hb⟩; have hsz := M.size; (try (have G9 := G.later hb; clear G; have G := G9; clear G9)); have M9 := M.later hb; clear M; (try clear C); have M := M9; clear M9; have C := M.ruleAll; simp only [Go.Proofs.YtinjjaoikofkdaaDoor.ruleAll] at C)) | (go_at_call 22; ((with_reducible refine (H2.out _ M.below).mono ?_); rintro e w1 ⟨rfl, hb⟩; have hsz := M.size; (try (have G9 := G.later hb; clear G; have G := G9; clear G9)); have M9 := M.later hb; clear M; (try clear C); have M := M9; clear M9; have C := M.ruleAll; simp only [Go.Proofs.YtinjjaoikofkdaaDoor.ruleAll] at C)))
  go_ret
  exact ⟨rfl, M.below⟩

/-- A row of names. -/
def nmR (ns : List ByteArray) : List Value := ns.map .string
/-- A function hands back a new book and a code. -/
def BkNew (ns : List ByteArray) (ls : List Sqr) (code : Int) (w : World) (e : Ending) (w' : World) : Prop :=
  ∃ pp1 c1 pp2 c2, e = .returned (.tuple #[.agg (bkV pp1 c1 pp2 c2 ns.length ls.length), .int .i64 code]) ∧ Mm no w w' [.row w.heap.size (.slice pp1 ns.length c1) ns.length (nmR ns) 9 1, .row w.heap.size (.slice pp2 ls.length c2) ls.length (slC ls) 36 101]
theorem nmR_rdq {w : World} {B c : Nat} {p : Option Addr} {ns : List ByteArray} (h : w.ownsRow B 9 1 (.slice p ns.length c) ns.length (nmR ns)) : rdq w p ns.length (nmF ns) := fun hn => by
  obtain ⟨g, e, hr⟩ := rdq_of_own h (by omega)
  refine ⟨g, e, hr.lt, fun j hj => ?_⟩
  rw [hr.at_ j (by omega), List.getD_eq_getElem?_getD]
  unfold nmR
  rw [List.getElem?_map, List.getElem?_eq_getElem hj, nmF_at hj]
  rfl
theorem mkdS_rdq {w : World} {B c n k : Nat} {p : Option Addr} {ys : List Value} (hy : MkdS k n ys) (h : w.ownsRow B 9 1 (.slice p n c) n ys) : rdq w p n (mkS k) := fun hn => by
  obtain ⟨g, e, hr⟩ := rdq_of_own h (by omega)
  refine ⟨g, e, hr.lt, fun j hj => ?_⟩
  rw [hr.at_ j (by omega), List.getD_eq_getElem?_getD, hy.2 j hj]
  rfl
end Go.Proofs.YtinjjaoikofkdaaDoor

/- Append of rows of structs that are read; slices.Clone of names and of squares. Printed by gen/h9.py. -/
namespace Go.Proofs.YtinjjaoikofkdaaDoor
set_option linter.unusedSimpArgs false
set_option linter.unusedVariables false
open Go Go.RowKit

section
variable {P : Program} {D : Nat → Prop} {w0 w : World} {L : List Ent} {ops : Array Oper} {rest : List Oper} {o : Oper} {a : Act} {Q : Exit → Act → World → Prop}
theorem wpM_appN (M : Mm D w0 w L) (t i : Nat) (B : Nat) (v : Value) (n : Nat) (xs : List Value) (e size bytes : Nat) (ad : Addr) (m c : Nat) (news : List Value) (ho : isApp o.op t = true) (hi : L[i]? = some (.row B v n xs e size)) (hs : a.eval (appS o.op) = v) (hx : a.eval (appX o.op) = .slice (some ad) m c)
    (hgd : o.guard = none) (hB : w0.heap.size ≤ B ∨ ∀ k, v.ownBlock = some k → D k) (hBw : B ≤ w.heap.size) (hl : news.length = m * size) (hnews : ∀ j u, news[j]? = some u → w.cell? (ad.add j) = some u) (h1 : ∀ u ∈ news, u.oneCell' = true) {z : Value} (ht : P.underlying t = some (.slice e)) (hinfo : (P.info? e).map (fun i => (i.zero, i.size, i.bytes)) = some (some z, size, bytes))
    (hzs : z.cells.size = size) (hsz : 0 < size) (h63 : n + m ≤ maxLen) (hbytes : (n + m) * bytes ≤ 140737488355328)
    (h : ∀ v' w', Far v' v w0.heap.size → Mm D w0 w' (L.set i (.row B v' (n + m) (xs ++ news) e size)) → wpList P ops Q rest (a.put o.dst v') w') : wpList P ops Q (o :: rest) a w := by
  obtain ⟨i0, hi0, hzz⟩ := Option.map_eq_some_iff.1 hinfo
  simp only [Prod.mk.injEq] at hzz
  obtain ⟨hz0, hz1, hz2⟩ := hzz
  refine wpList_append_own_at w hgd (appS o.op) (appX o.op) t (isApp_spec ho) B e i0 z size bytes ht hi0 hz0 hz1 hz2 hzs hsz v n xs hs (M.row i hi) ad m c news hx hl hnews h1 h63 hbytes hBw fun v' w' h2 h3 _ h5 => h v' w' ?_ (M.longer i hi hB h3 h2 ?_)
  · rcases h5 with h | h
    · exact .inl h
    · exact .inr ⟨_, h, M.size⟩
  · rcases h5 with h | h
    · exact .inl h
    · exact .inr ⟨_, h, Nat.le_refl _⟩
end
theorem und_sqH : Tryd.prog.underlying 23 = some (.slice 36) := by kernel_rfl
theorem inf_sqH : (Tryd.prog.info? 36).map (fun i => (i.zero, i.size, i.bytes)) = some (some (.agg (sqs 0 fun _ _ => 0)), 101, 112) := by kernel_rfl
theorem bsl_Q0 (w : World) : (Instr.buildSlice 23 0 [].toArray).run Tryd.prog w = .ok (.slice (some ⟨w.heap.size, 0, none⟩) 0 0) (w.alloc (.cells #[] 36)) := by kernel_rfl
theorem bsl_Q1 (q : Sqr) (w : World) : (Instr.buildSlice 23 1 [(0, Value.agg (sqs q.n q.t))].toArray).run Tryd.prog w = .ok (.slice (some ⟨w.heap.size, 0, none⟩) 1 1) (w.alloc (.cells (sqs q.n q.t) 36)) := by kernel_rfl
theorem cloneS_any_one (l : List ByteArray) : ∀ u ∈ nmR l, u.oneCell' = true := fun u hu => by
  obtain ⟨x, _, rfl⟩ := List.mem_map.1 hu
  rfl
theorem cloneQ_any_one (l : List Sqr) : ∀ u ∈ slC l, u.oneCell' = true := fun u hu => by
  obtain ⟨x, _, h⟩ := List.mem_flatMap.1 hu
  have := flat_sqs x.n x.t u h
  cases u <;> first | rfl | cases this

theorem eql_nilJ (a : Option Addr) (l c : Nat) (w : World) : (binOp .eql 22 (.slice a l c) (.slice none 0 0)).run Tryd.prog w = .ok (.bool a.isNone) w := by
  simp [binOp, run_equal_slice_nil w 22 9 a l c und_slJ]

theorem eql_nilQ (a : Option Addr) (l c : Nat) (w : World) : (binOp .eql 23 (.slice a l c) (.slice none 0 0)).run Tryd.prog w = .ok (.bool a.isNone) w := by
  simp [binOp, run_equal_slice_nil w 23 36 a l c und_sqH]

end Go.Proofs.YtinjjaoikofkdaaDoor

/- DropLoop of the reference: contract. -/
namespace Go.Proofs.YtinjjaoikofkdaaDoor
set_option linter.unusedSimpArgs false
set_option linter.unusedVariables false
open Go Go.RowKit

/-- The first k members without the one with number p. -/
def drT {α : Type} (l : List α) (p k : Nat) : List α := (l.take k).eraseIdx p
theorem drT_next {α : Type} {l : List α} {p k : Nat} (hk : k < l.length) (h : k ≠ p) : drT l p (k + 1) = drT l p k ++ [l[k]] := by
  unfold drT
  rw [List.take_succ_eq_append_getElem hk]
  rcases Nat.lt_or_gt_of_ne h with h1 | h1
  · rw [List.eraseIdx_of_length_le (by simp; omega), List.eraseIdx_of_length_le (by simp; omega)]
  · rw [List.eraseIdx_append_of_lt_length (by simp; omega)]
theorem drT_at {α : Type} {l : List α} {k : Nat} (hk : k < l.length) : drT l k (k + 1) = drT l k k := by
  unfold drT
  rw [List.take_succ_eq_append_getElem hk, List.eraseIdx_append_of_length_le (by simp; omega), List.eraseIdx_of_length_le (l := l.take k) (by simp; omega)]
  simp [Nat.min_eq_left (Nat.le_of_lt hk)]
theorem drT_len {α : Type} (l : List α) (p k : Nat) : (drT l p k).length ≤ k := by
  unfold drT
  have := List.length_eraseIdx_le (l.take k) p
  have := List.length_take_le k l
  omega
theorem nmR_snoc (l : List ByteArray) (x : ByteArray) : nmR (l ++ [x]) = nmR l ++ [.string x] := by simp [nmR]
theorem slC_snocH (l : List Sqr) (q : Sqr) : slC (l ++ [q]) = slC l ++ (sqs q.n q.t).toList := by simp [slC, rowC, sqC]
theorem flat_bkv (p1 : Option Addr) (c1 : Nat) (p2 : Option Addr) (c2 n m : Nat) : flat (bkV p1 c1 p2 c2 n m) := fun u hu => by
  simp only [bkV, List.mem_cons, List.not_mem_nil, or_false] at hu
  rcases hu with rfl | rfl <;> rfl
theorem build_bkH (w : World) : (Instr.build 25 #[]).run Tryd.prog w = .ok (.agg (bkV none 0 none 0 0 0)) w := by kernel_rfl
theorem zero_bkH (w : World) : (zeroValue 25).run Tryd.prog w = .ok (.agg (bkV none 0 none 0 0 0)) w := by kernel_rfl
theorem namedR_len {ns : List ByteArray} {ls : List Sqr} {s : ByteArray} (h : (namedR ns ls s).2 = 0) : ls.length = ns.length := by
  cases hb : isBk ns ls with
  | false => rw [namedR_1 hb] at h; exact absurd h (by decide)
  | true => exact isBk_len hb
/-- The book without a loop, and a code. -/
noncomputable def dropN (ns : List ByteArray) (ls : List Sqr) (s : ByteArray) : List ByteArray := if (namedR ns ls s).2 = 0 then ns.eraseIdx (namedR ns ls s).1.toNat else []
noncomputable def dropL (ns : List ByteArray) (ls : List Sqr) (s : ByteArray) : List Sqr := if (namedR ns ls s).2 = 0 then ls.eraseIdx (namedR ns ls s).1.toNat else []


theorem newRows {w w' : World} {v1 v2 : Value} {n1 n2 : Nat} {xs1 xs2 : List Value} {e1 s1 e2 s2 : Nat} (M : Mm no w w' [.row w.heap.size v1 n1 xs1 e1 s1, .row w.heap.size v2 n2 xs2 e2 s2]) : ∀ x ∈ [Ent.row w.heap.size v1 n1 xs1 e1 s1, .row w.heap.size v2 n2 xs2 e2 s2], ∀ b, x.place b → w.heap.size ≤ b := fun x hx b hb => by
  simp only [List.mem_cons, List.not_mem_nil, or_false] at hx
  rcases hx with rfl | rfl
  · exact own_ge (M.row 0 rfl) hb
  · exact own_ge (M.row 1 rfl) hb
theorem slR_rdq {w : World} {B c : Nat} {p : Option Addr} {ls : List Sqr} (h : w.ownsRow B 36 101 (.slice p ls.length c) ls.length (slC ls)) : rdq w p (ls.length * 101) (fun j => (slC ls).getD j undef) := rdq_of_own h
theorem heldBook1_any (n m c1 c2 : Nat) (p1 p2 : Option Addr) (hn : n ≤ 1048576) (hm : m ≤ 1048576) (w : World) (f : Nat → Value) (h1 : rdq w p1 n (mkS 1)) (h2 : rdq w p2 (m * 101) f) (hf : ∀ j, j < m → f (j * 101) = .int .i64 ((1 + n + j : Nat) : Int)) :
    Calls Tryd.prog 8 #[.agg (bkV p1 c1 p2 c2 n m), .int .i64 1] w fun e w' => e = .returned (.int .i64 ((1 + n + m : Nat) : Int)) ∧ Below w.heap.size w w' := heldBook_any n m c1 c2 p1 p2 1 hn hm (by omega) w f h1 h2 hf

/-- The rows of a book are marked. -/
theorem Mm.markd {w0 w w' : World} {Y : List Ent} {B n m c1 c2 : Nat} {p1 p2 : Option Addr} {xs1 xs2 ys1 ys2 : List Value} {e1 e2 s2 : Nat} (M : Mm no w0 w (.row B (.slice p1 n c1) n xs1 e1 1 :: .row B (.slice p2 m c2) m xs2 e2 s2 :: Y)) (hB : w0.heap.size ≤ B)
    (M' : Mm (BkD (.slice p1 n c1) (.slice p2 m c2)) w w' [.row B (.slice p1 n c1) n ys1 e1 1, .row B (.slice p2 m c2) m ys2 e2 s2]) : Mm no w0 w' (.row B (.slice p1 n c1) n ys1 e1 1 :: .row B (.slice p2 m c2) m ys2 e2 s2 :: Y) := by
  have h1 := M.row 0 rfl
  have h2 := M.row 1 rfl
  refine Mm.callD (X := [.row B (.slice p1 n c1) n xs1 e1 1, .row B (.slice p2 m c2) m xs2 e2 s2]) (X' := [.row B (.slice p1 n c1) n ys1 e1 1, .row B (.slice p2 m c2) m ys2 e2 s2]) M M' (fun b h => ?_) (fun x hx b h => .inl ?_) (fun b hb h => ?_)
  · rcases h with h | h
    · exact ⟨_, List.mem_cons_self .., h⟩
    · exact ⟨_, List.mem_cons_of_mem _ (List.mem_cons_self ..), h⟩
  · simp only [List.mem_cons, List.not_mem_nil, or_false] at hx
    rcases hx with rfl | rfl
    · exact ⟨_, List.mem_cons_self .., h⟩
    · exact ⟨_, List.mem_cons_of_mem _ (List.mem_cons_self ..), h⟩
  · rcases h with h | h
    · have := own_ge h1 h; omega
    · have := own_ge h2 h; omega
end Go.Proofs.YtinjjaoikofkdaaDoor

/- A text cut at a byte, for the reference: contract. -/
namespace Go.Proofs.YtinjjaoikofkdaaDoor
set_option linter.unusedSimpArgs false
set_option linter.unusedVariables false
open Go Go.RowKit

theorem str_extract (l : List Nat) {a k : Nat} : (str l).extract a k = str ((l.take k).drop a) := by
  show (ByteArray.mk (l.map UInt8.ofNat).toArray).extract a k = ByteArray.mk (((l.take k).drop a).map UInt8.ofNat).toArray
  rw [ByteArray.extract_mk, List.map_drop, List.map_take, List.drop_take]
theorem sl_str (l : List Nat) {a k : Nat} (h1 : a ≤ k) (h2 : k ≤ l.length) (w : World) : (Instr.slice 9 (.string (str l)) (some (.int .i64 (a : Int))) (some (.int .i64 (k : Int))) none).run Tryd.prog w = .ok (.string (str ((l.take k).drop a))) w := by
  rw [run_slice_string w 9 (str l) .i64 .i64 (a : Int) (k : Int) und_str (by omega) (by omega) (by rw [str_size]; omega), ← str_extract]
  rfl
/-- Texts as cells. -/
def txL (L : List (List Nat)) : List Value := L.map fun p => .string (str p)
theorem txL_snoc (L : List (List Nat)) (p : List Nat) : txL (L ++ [p]) = txL L ++ [.string (str p)] := by simp [txL]
def SpPost (L : List (List Nat)) (w : World) (e : Ending) (w' : World) : Prop := ∃ p d, e = .returned (.slice p L.length d) ∧ Mm no w w' [.row w.heap.size (.slice p L.length d) L.length (txL L) 9 1]
theorem rowBaseP {D : Nat → Prop} {w0 w : World} {L : List Ent} {b : Nat} {e : Nat} (M : Mm D w0 w (.box b #[] e :: L)) (h : w0.heap.size ≤ b) : Mm D w0 w (.row w0.heap.size (.slice (some ⟨b, 0, none⟩) 0 0) 0 [] e 1 :: L) := M.asRow 0 rfl w0.heap.size 0 1 h rfl (Nat.zero_le _)

set_option maxRecDepth 100000 in
set_option maxHeartbeats 2000000 in
theorem l01Split_any (l : List Nat) (hb : Byts l) (hl : l.length ≤ 1048576) (c : Nat) (hc : c < 256) (w : World) :
    Calls Tryd.prog 9 #[.string (str l), .int .u8 (c : Int)] w (SpPost (pcs c l) w) := by
  have M := Mm.start no w
  have hsz := str_size l
  have HX := Hid2.mk (fun k (hk : k < l.length) w1 => ix_str hb k hk w1)
  have HS := Hid2.mk (fun a k (h1 : a ≤ k) (h2 : k ≤ l.length) w1 => sl_str l h1 h2 w1)
  have hc' : (c : Int) < 256 := by omega
  generalize hs : str l = s at *
  have HSS := Hid2.mk hs
  clear hb hs
  go_enter Tryd.func9, Tryd.ntmps9
  go_wp2_with (first | (((with_reducible apply wpM_bsl' M 22 0 9 ([]) (#[])); rfl; rfl; rfl; exact bsl_J0; clear M; (try clear C); intro bo w9 h_bo M; have C := M.ruleAll; simp only [Go.Proofs.YtinjjaoikofkdaaDoor.ruleAll] at C); have M9 := rowBaseP M h_bo; clear M; (try clear C); have M := M9; clear M9; have C := M.ruleAll; simp only [Go.Proofs.YtinjjaoikofkdaaDoor.ruleAll] at C))
  go_loopw [7, 5, 6] (fun i v at_ wr => ∃ (k a : Nat) (A : List (List Nat)) (pp : Option Addr) (d : Nat), k ≤ l.length ∧ a ≤ k ∧ i = .int .i64 (k : Int) ∧ at_ = .int .i64 (a : Int) ∧ v = .slice pp A.length d ∧ A.length ≤ k ∧ pst c (l.take k) = (A, (l.take k).drop a) ∧ Mm no w wr [.row w.heap.size (.slice pp A.length d) A.length (txL A) 9 1]) (fun i _ _ _ => l.length - (intOf i).toNat)
  case atStart => exact ⟨0, 0, [], some ⟨bo, 0, none⟩, 0, by omega, by omega, rfl, rfl, rfl, Nat.le_refl _, rfl, M⟩
  case round =>
    obtain ⟨k, a, A, pp, dd, hk, ha, rfl, rfl, rfl, hAk, hp, M9⟩ := hrel
    clear M; (try clear C)
    have M := M9
    clear M9
    have HP := Hid2.mk hp
    clear hp
    by_cases hlt : k < l.length
    · have hlt' : (k : Int) < (l.length : Int) := by omega
      have hix := HX.out k hlt
      have hg : l.getD k 0 = l[k] := by rw [List.getD_eq_getElem?_getD, List.getElem?_eq_getElem hlt]; rfl
      have ht : l.take (k + 1) = l.take k ++ [l[k]] := List.take_succ_eq_append_getElem hlt
      rw [hg] at hix
      have hstep : pst c (l.take (k + 1)) = pstep c (A, (l.take k).drop a) l[k] := by rw [ht, pst_snoc, HP.out]
      have hdr : (l.take (k + 1)).drop a = (l.take k).drop a ++ [l[k]] := by rw [ht, List.drop_append_of_le_length (by rw [List.length_take, Nat.min_eq_left (by omega)]; exact ha)]
      by_cases hx : l[k] = c
      · have hxe : ((l[k] : Int) == (c : Int)) = true := by rw [hx]; simp
        have HST := Hid2.mk (show pst c (l.take (k + 1)) = (A ++ [(l.take k).drop a], (l.take (k + 1)).drop (k + 1)) by
          rw [hstep]; unfold pstep; rw [if_pos hx]
          rw [List.drop_of_length_le (List.length_take_le ..)])
        have hsl := HS.out a k ha hk
        have hex : s.extract a k = str ((l.take k).drop a) := by rw [← HSS.out]; exact str_extract l
        generalize (l.take k).drop a = cur at hsl HST hex
        generalize l[k] = x at hix hxe
        clear hg ht hstep hdr hx HX HS
        have C := M.ruleAll; simp only [Go.Proofs.YtinjjaoikofkdaaDoor.ruleAll] at C
        go_wp2_with (first | ((with_reducible apply wpM_bsl' M 22 1 9 ([(0, .string (str cur))]) (#[.string (str cur)])); rfl; rfl; rfl; exact bsl_J1 _; clear M; (try clear C); intro bx w9 h_bx M; have C := M.ruleAll; simp only [Go.Proofs.YtinjjaoikofkdaaDoor.ruleAll] at C) | ((with_reducible apply wpM_app' M 22 1 0 (w.heap.size) (.slice pp A.length dd) (A.length) (txL A) 9 1 16); rfl; rfl; rfl; rfl; rfl; rfl; rfl; (first | exact .inl (Nat.le_refl _) | exact .inl (by assumption) | exact .inr (by assumption) | exact .inr HDv.out); (first | exact M.size | (have hq := M.size; omega)); exact und_slJ; exact inf_elJ; rfl; decide; decide; rfl; exact rfl; exact flat_J1 _; omega; clear M; (try clear C); intro v3 w9 far_v3 M; simp only [List.set_cons_zero, List.set_cons_succ, entBlk, entT, List.getElem?_cons_zero, List.getElem?_cons_succ] at M; obtain ⟨pp_v3, cap_v3, rfl⟩ := own_form (M.row 1 rfl); have C := M.ruleAll; simp only [Go.Proofs.YtinjjaoikofkdaaDoor.ruleAll] at C))
        go_roundw
        case rel => exact ⟨k + 1, k + 1, A ++ [cur], pp_v3, cap_v3, by omega, by omega, by go_num, by go_num, by rw [List.length_append]; rfl, by rw [List.length_append]; simp only [List.length_cons, List.length_nil]; omega, HST.out, by
          rw [txL_snoc, List.length_append]
          exact (M.sub [1] (by decide)).eq rfl⟩
        case measure => simp [intOf]; omega
      · have hxe : ((l[k] : Int) == (c : Int)) = false := by rw [beq_eq_false_iff_ne]; omega
        have HST := Hid2.mk (show pst c (l.take (k + 1)) = (A, (l.take (k + 1)).drop a) by rw [hstep, hdr]; unfold pstep; rw [if_neg hx])
        generalize l[k] = x at hix hxe
        clear hg ht hstep hdr hx HX HS
        have C := M.ruleAll; simp only [Go.Proofs.YtinjjaoikofkdaaDoor.ruleAll] at C
        go_wp2
        go_roundw
        case rel => exact ⟨k + 1, a, A, pp, dd, by omega, by omega, by go_num, rfl, rfl, by omega, HST.out, M⟩
        case measure => simp [intOf]; omega
    · obtain rfl : k = l.length := by omega
      have hge : ¬ ((l.length : Int) < (l.length : Int)) := by omega
      have hp := HP.out
      rw [List.take_length] at hp
      have HR := Hid2.mk (show pcs c l = A ++ [l.drop a] by unfold pcs; rw [hp])
      have hsl0 := HS.out a l.length ha (Nat.le_refl _)
      rw [List.take_length] at hsl0
      have hex : s.extract a l.length = str (l.drop a) := by
        rw [← HSS.out, str_extract, List.take_length]
      generalize hcur : l.drop a = cur at hsl0 HR hex
      have hsl : ∀ w1, (Instr.slice 9 (.string s) (some (.int .i64 (a : Int))) none none).run Tryd.prog w1 = .ok (.string (str cur)) w1 := fun w1 => by
        rw [run_slice_string_l w1 9 s und_str .i64 (a : Int) (by omega) (by omega), ← HSS.out, ← hcur]
        have e := str_extract l (a := a) (k := l.length)
        rw [List.take_length] at e
        rw [str_size, ← e]
        rfl
      clear hp hsl0 hcur HX HS
      have C := M.ruleAll; simp only [Go.Proofs.YtinjjaoikofkdaaDoor.ruleAll] at C
      go_wp2_with (first | ((with_reducible apply wpM_bsl' M 22 1 9 ([(0, .string (str cur))]) (#[.string (str cur)])); rfl; rfl; rfl; exact bsl_J1 _; clear M; (try clear C); intro bx w9 h_bx M; have C := M.ruleAll; simp only [Go.Proofs.YtinjjaoikofkdaaDoor.ruleAll] at C) | ((with_reducible apply wpM_app' M 22 1 0 (w.heap.size) (.slice pp A.length dd) (A.length) (txL A) 9 1 16); rfl; rfl; rfl; rfl; rfl; rfl; rfl; (first | exact .inl (Nat.le_refl _) | exact .inl (by assumption) | exact .inr (by assumption) | exact .inr HDv.out); (first | exact M.size | (have hq := M.size; omega)); exact und_slJ; exact inf_elJ; rfl; decide; decide; rfl; exact rfl; exact flat_J1 _; omega; clear M; (try clear C); intro v3 w9 far_v3 M; simp only [List.set_cons_zero, List.set_cons_succ, entBlk, entT, List.getElem?_cons_zero, List.getElem?_cons_succ] at M; obtain ⟨pp_v3, cap_v3, rfl⟩ := own_form (M.row 1 rfl); have C := M.ruleAll; simp only [Go.Proofs.YtinjjaoikofkdaaDoor.ruleAll] at C))
      go_ret
      unfold SpPost
      rw [HR.out, txL_snoc, List.length_append]
      exact ⟨pp_v3, cap_v3, rfl, (M.sub [1] (by decide)).eq rfl⟩
end Go.Proofs.YtinjjaoikofkdaaDoor

/- Rows that calls hand back, and rows that are read. -/
namespace Go.Proofs.YtinjjaoikofkdaaDoor
set_option linter.unusedSimpArgs false
set_option linter.unusedVariables false
open Go Go.RowKit

theorem ownsRow_weak {w : World} {B B' e size : Nat} {v : Value} {n : Nat} {xs : List Value} (h : w.ownsRow B e size v n xs) (hB : B' ≤ B) : w.ownsRow B' e size v n xs := by
  refine ⟨h.1, ?_⟩
  rcases h.2 with h | ⟨g, cap, cur, h1, h2, h3⟩
  · exact .inl h
  · exact .inr ⟨g, cap, cur, h1, by omega, h3⟩
theorem place_row {w : World} {B : Nat} {v : Value} {n : Nat} {xs : List Value} {e size : Nat} (h : w.ownsRow B e size v n xs) : ∀ b, (Ent.row B v n xs e size).place b → B ≤ b := fun b hb => (World.ownsRow.lt h b hb).1
/-- A call hands back a row in new memory. -/
theorem Mm.joinRow {D : Nat → Prop} {w0 w w' : World} {L : List Ent} {v : Value} {n : Nat} {xs : List Value} {e size : Nat} (M : Mm D w0 w L) (M' : Mm no w w' [.row w.heap.size v n xs e size]) : Mm D w0 w' (.row w0.heap.size v n xs e size :: L) := by
  have h := M'.row 0 rfl
  exact M.gain M'.below (x := .row w0.heap.size v n xs e size) (ownsRow_weak h M.size) fun b hb => place_row h b hb
/-- A call hands back a row in new memory and writes to a block that is known. -/
theorem Mm.callw {D : Nat → Prop} {w0 w w' : World} {L : List Ent} {v : Value} {n : Nat} {xs : List Value} {e size b t : Nat} {cs cs' : Array Value} (M : Mm D w0 w L) (i : Nat) (hi : L[i]? = some (.box b cs t)) (hb : w0.heap.size ≤ b ∨ D b)
    (M' : Mm (fun k => k = b) w w' [.row w.heap.size v n xs e size, .box b cs' t]) : Mm D w0 w' (.row w0.heap.size v n xs e size :: L.set i (.box b cs' t)) := by
  have h := M'.row 0 rfl
  refine (M.wrote i hi hb M'.kept.grown (M'.box 1 rfl)).add (x := .row w0.heap.size v n xs e size) (ownsRow_weak h M.size) fun y hy c h1 h2 => ?_
  have hlo := place_row h c h1
  have hlt : c < w.heap.size := by
    rcases List.mem_or_eq_of_mem_set hy with h3 | h3
    · exact Ent.lt (M.mem h3) h2
    · subst h3
      cases h2
      exact (M.box i hi).lt
  omega
/-- A row that is not empty is read from now on. -/
theorem Mm.rowRd {D : Nat → Prop} {w0 w : World} {L : List Ent} (M : Mm D w0 w L) (i : Nat) {B n e : Nat} {v : Value} {xs : List Value} (hi : L[i]? = some (.row B v n xs e 1)) (hn : 0 < n) (f : Nat → Value) (hf : ∀ j, j < n → xs.getD j undef = f j) :
    ∃ g cap, v = .slice (some ⟨g, 0, none⟩) n cap ∧ Mm D w0 w (L.set i (.rd g n f)) := by
  obtain ⟨g, cap, rfl, _, ho, hr⟩ := own_rds (M.row i hi) (by omega)
  rw [Nat.mul_one] at hr
  refine ⟨g, cap, rfl, M.set i hi (.refl no w) (fun _ h => h.elim) (fun _ _ h => h.elim) (y := .rd g n f) (show rds w g n f from ⟨hr.lt, fun j hj => by rw [hr.at_ j hj, hf j hj]⟩) fun k h => .inl ?_⟩
  cases h; exact ho
def i64F (l : List Nat) : Nat → Value := fun j => .int .i64 (l.getD j 0 : Nat)
theorem i64F_at {l : List Nat} {i x : Nat} (h : l[i]? = some x) : i64F l i = .int .i64 (x : Int) := by unfold i64F; rw [List.getD_eq_getElem?_getD, h]; rfl
end Go.Proofs.YtinjjaoikofkdaaDoor

