/- Normal subloops: those closed under the inner maps are the classes of 0 of congruences. Plain Lean. -/
import Derived.Test.YteonahoboligdaaDoorG3
namespace Go.Proofs.YteonahoboligdaaDoor
set_option linter.unusedSimpArgs false
set_option linter.unusedVariables false

/-- A loop, in natural numbers. -/
structure Loo (n : Nat) (t : Nat → Nat → Nat) : Prop where
  sq : IsSq (n : Int) t
  zl : ∀ x, x < n → t 0 x = x
  zr : ∀ x, x < n → t x 0 = x
theorem Loo.of_lp {n : Nat} {t : Nat → Nat → Nat} (h : IsLp (n : Int) t) : Loo n t := by
  have := h.sq.hi
  exact ⟨h.sq, fun x hx => h.left x (by omega) (by omega), fun x hx => h.right x (by omega) (by omega)⟩
/-- Right division. -/
noncomputable def rq (t : Nat → Nat → Nat) (z y : Nat) : Nat := lq (fun x y => t y x) y z
/-- The inner maps. -/
noncomputable def tmI (t : Nat → Nat → Nat) (x z : Nat) : Nat := rq t (t x z) x
noncomputable def lmI (t : Nat → Nat → Nat) (x y z : Nat) : Nat := lq t (t y x) (t y (t x z))
noncomputable def rmI (t : Nat → Nat → Nat) (x y z : Nat) : Nat := rq t (t (t z x) y) (t x y)
/-- A set that is closed under the operations and under the inner maps. -/
structure Nrm (n : Nat) (t : Nat → Nat → Nat) (S : Nat → Prop) : Prop where
  clo : Clo t S
  tm : ∀ x z, x < n → z < n → S z → S (tmI t x z)
  lm : ∀ x y z, x < n → y < n → z < n → S z → S (lmI t x y z)
  rm : ∀ x y z, x < n → y < n → z < n → S z → S (rmI t x y z)
/-- The least congruence in which some elements are with 0. -/
inductive Cng (n : Nat) (t : Nat → Nat → Nat) (m : Nat) : Nat → Nat → Prop
  | base (i) : m.testBit i = true → Cng n t m 0 i
  | refl (x) : x < n → Cng n t m x x
  | symm {x y} : Cng n t m x y → Cng n t m y x
  | trans {x y z} : Cng n t m x y → Cng n t m y z → Cng n t m x z
  | mulR {x y} (i) : i < n → Cng n t m x y → Cng n t m (t x i) (t y i)
  | mulL {x y} (i) : i < n → Cng n t m x y → Cng n t m (t i x) (t i y)
section
variable {n : Nat} {t : Nat → Nat → Nat} (hl : Loo n t)
include hl
theorem Loo.pos : 0 < n := by have := hl.sq.lo; omega
theorem Loo.lt {x y : Nat} (hx : x < n) (hy : y < n) : t x y < n := by
  have := hl.sq.hi
  have := (hl.sq.rows.row x (by omega) (by omega)).lt y (by omega) (by omega); omega
theorem Loo.left {x y z : Nat} (hx : x < n) (hy : y < n) (hz : z < n) (e : t x y = t x z) : y = z := by
  have h1 := lq_row hl.sq (x := x) (y := y) (by omega) (by omega)
  have h2 := lq_row hl.sq (x := x) (y := z) (by omega) (by omega)
  rw [e, h2] at h1; exact h1.symm
theorem Loo.right {x y z : Nat} (hx : x < n) (hy : y < n) (hz : z < n) (e : t y x = t z x) : y = z := by
  have h1 := lq_row hl.sq.turn (x := x) (y := y) (by omega) (by omega)
  have h2 := lq_row hl.sq.turn (x := x) (y := z) (by omega) (by omega)
  have h3 : lq (fun x y => t y x) x (t y x) = y := h1
  rw [e] at h3
  exact h3.symm.trans h2
theorem Loo.lq {x z : Nat} (hx : x < n) (hz : z < n) : lq t x z < n ∧ t x (lq t x z) = z := by
  have := lq_lt hl.sq (x := x) (z := z) (by omega) (by omega)
  exact ⟨by omega, this.2.1⟩
theorem Loo.rq {x z : Nat} (hx : x < n) (hz : z < n) : rq t z x < n ∧ t (rq t z x) x = z := by
  have := lq_lt hl.sq.turn (x := x) (z := z) (by omega) (by omega)
  exact ⟨by have := this.1; unfold Go.Proofs.YteonahoboligdaaDoor.rq; omega, this.2.1⟩
theorem Loo.rowPm {x : Nat} (hx : x < n) : Pm n (t x) := ⟨fun _ h => hl.lt hx h, fun _ _ hi hj e => hl.left hx hi hj e⟩
theorem Loo.colPm {x : Nat} (hx : x < n) : Pm n (fun y => t y x) := ⟨fun _ h => hl.lt h hx, fun _ _ hi hj e => hl.right hx hi hj e⟩
/-- What the inner maps are. -/
theorem tmI_is {x z : Nat} (hx : x < n) (hz : z < n) : tmI t x z < n ∧ t (tmI t x z) x = t x z := hl.rq hx (hl.lt hx hz)
theorem lmI_is {x y z : Nat} (hx : x < n) (hy : y < n) (hz : z < n) : lmI t x y z < n ∧ t (t y x) (lmI t x y z) = t y (t x z) := hl.lq (hl.lt hy hx) (hl.lt hy (hl.lt hx hz))
theorem rmI_is {x y z : Nat} (hx : x < n) (hy : y < n) (hz : z < n) : rmI t x y z < n ∧ t (rmI t x y z) (t x y) = t (t z x) y := hl.rq (hl.lt hx hy) (hl.lt (hl.lt hz hx) hy)
theorem tmI_pm {x : Nat} (hx : x < n) : Pm n (tmI t x) := ⟨fun z hz => (tmI_is hl hx hz).1, fun z u hz hu e => by
  have h1 := (tmI_is hl hx hz).2
  rw [e, (tmI_is hl hx hu).2] at h1
  exact (hl.left hx hu hz h1).symm⟩
theorem lmI_pm {x y : Nat} (hx : x < n) (hy : y < n) : Pm n (lmI t x y) := ⟨fun z hz => (lmI_is hl hx hy hz).1, fun z u hz hu e => by
  have h1 := (lmI_is hl hx hy hz).2
  rw [e, (lmI_is hl hx hy hu).2] at h1
  exact (hl.left hx hu hz (hl.left hy (hl.lt hx hu) (hl.lt hx hz) h1)).symm⟩
omit hl in
/-- What a permutation keeps, it leads to all of it. -/
theorem pm_onto {f : Nat → Nat} (hf : Pm n f) {S : Nat → Prop} (h : ∀ z, z < n → S z → S (f z)) {r : Nat} (hr : r < n) (hS : S r) : ∃ w, w < n ∧ S w ∧ f w = r := by
  obtain ⟨L, h1, -, h3⟩ := it_back hf hr
  have key : ∀ i, S (it f i r) := fun i => by
    induction i with
    | zero => exact hS
    | succ i ih => exact h _ (it_lt hf hr i) ih
  refine ⟨it f (L - 1) r, it_lt hf hr _, key _, ?_⟩
  have e : L = (L - 1) + 1 := by omega
  rw [e] at h3; exact h3
theorem Cng.lt {m : Nat} (hm : ∀ i, m.testBit i = true → i < n) {x y : Nat} (h : Cng n t m x y) : x < n ∧ y < n := by
  induction h with
  | base i h => exact ⟨hl.pos, hm i h⟩
  | refl x h => exact ⟨h, h⟩
  | symm _ ih => exact ⟨ih.2, ih.1⟩
  | trans _ _ h1 h2 => exact ⟨h1.1, h2.2⟩
  | mulR i hi _ ih => exact ⟨hl.lt ih.1 hi, hl.lt ih.2 hi⟩
  | mulL i hi _ ih => exact ⟨hl.lt hi ih.1, hl.lt hi ih.2⟩
omit hl in
/-- A permutation that keeps a congruence, keeps it backwards. -/
theorem cng_back {f : Nat → Nat} (hf : Pm n f) {C : Nat → Nat → Prop} (h : ∀ x y, x < n → y < n → C x y → C (f x) (f y)) {x y : Nat} (hx : x < n) (hy : y < n) (hc : C (f x) (f y)) : C x y := by
  obtain ⟨L, hL1, -, hL⟩ := it_back hf hx
  obtain ⟨K, hK1, -, hK⟩ := it_back hf hy
  have key : ∀ i, C (it f (i + 1) x) (it f (i + 1) y) := fun i => by
    induction i with
    | zero => exact hc
    | succ i ih => exact h _ _ (it_lt hf hx _) (it_lt hf hy _) ih
  have e1 : it f (K * L) x = x := it_mul hL K
  have e2 : it f (L * K) y = y := it_mul hK L
  rw [Nat.mul_comm] at e2
  have hp : 1 ≤ K * L := Nat.mul_pos hK1 hL1
  have h2 := key (K * L - 1)
  rw [Nat.sub_add_cancel hp, e1, e2] at h2
  exact h2
theorem Cng.canR {m : Nat} {x y i : Nat} (hx : x < n) (hy : y < n) (hi : i < n) (h : Cng n t m (t x i) (t y i)) : Cng n t m x y :=
  cng_back (f := fun y => t y i) (hl.colPm hi) (fun _ _ _ _ h => h.mulR i hi) hx hy h
theorem Cng.canL {m : Nat} {x y i : Nat} (hx : x < n) (hy : y < n) (hi : i < n) (h : Cng n t m (t i x) (t i y)) : Cng n t m x y :=
  cng_back (hl.rowPm hi) (fun _ _ _ _ h => h.mulL i hi) hx hy h
/-- The class of 0 is closed. -/
theorem cng_nrm {m : Nat} (hm : ∀ i, m.testBit i = true → i < n) : Nrm n t (Cng n t m 0) := by
  have h0 := hl.pos
  have L : ∀ {x y}, Cng n t m x y → x < n ∧ y < n := fun h => Cng.lt hl hm h
  refine ⟨⟨.refl 0 h0, fun b x y hb hx hy => ?_⟩, fun x z hx hz h => ?_, fun x y z hx hy hz h => ?_, fun x y z hx hy hz h => ?_⟩
  · have hxn := (L hx).2
    have hyn := (L hy).2
    unfold apB
    split
    · have h1 := hx.mulR y hyn
      rw [hl.zl y hyn] at h1
      exact hy.trans h1
    · split
      · obtain ⟨hu, e⟩ := hl.rq (x := y) (z := x) hyn hxn
        have h1 := hy.mulL _ hu
        rw [e, hl.zr _ hu] at h1
        exact hx.trans h1.symm
      · obtain ⟨hu, e⟩ := hl.lq (x := x) (z := y) hxn hyn
        have h1 := hx.mulR _ hu
        rw [e, hl.zl _ hu] at h1
        exact hy.trans h1.symm
  · obtain ⟨hu, e⟩ := tmI_is hl hx hz
    have h1 := h.mulL x hx
    rw [← e, hl.zr x hx] at h1
    refine Cng.canR hl h0 hu hx ?_
    rw [hl.zl x hx]; exact h1
  · obtain ⟨hu, e⟩ := lmI_is hl hx hy hz
    have h1 := (h.mulL x hx).mulL y hy
    rw [← e, hl.zr x hx] at h1
    refine Cng.canL hl h0 hu (hl.lt hy hx) ?_
    rw [hl.zr _ (hl.lt hy hx)]; exact h1
  · obtain ⟨hu, e⟩ := rmI_is hl hx hy hz
    have h1 := (h.mulR x hx).mulR y hy
    rw [← e, hl.zl x hx] at h1
    refine Cng.canR hl h0 hu (hl.lt hx hy) ?_
    rw [hl.zl _ (hl.lt hx hy)]; exact h1
/-- The congruence stays within the cosets of a closed set. -/
theorem nrm_cng {m : Nat} (hm : ∀ i, m.testBit i = true → i < n) {S : Nat → Prop} (hS : Nrm n t S) (hb : ∀ i, m.testBit i = true → S i) {x y : Nat} (h : Cng n t m x y) : ∃ s, s < n ∧ S s ∧ y = t x s := by
  have h0 := hl.pos
  induction h with
  | base i h => exact ⟨i, hm i h, hb i h, (hl.zl i (hm i h)).symm⟩
  | refl x h => exact ⟨0, h0, hS.clo.zero, (hl.zr x h).symm⟩
  | @symm x y hc ih =>
    obtain ⟨s, hs, hSs, rfl⟩ := ih
    have hx := (Cng.lt hl hm hc).1
    obtain ⟨hz, e⟩ := hl.lq hs h0
    have hSz : S (lq t s 0) := hS.clo.op 92 s 0 rfl hSs hS.clo.zero
    obtain ⟨hu, e2⟩ := lmI_is hl hs hx hz
    refine ⟨lmI t s x (lq t s 0), hu, hS.lm s x _ hs hx hz hSz, ?_⟩
    rw [e2, e, hl.zr x hx]
  | @trans x y z hc hd ih1 ih2 =>
    obtain ⟨s, hs, hSs, rfl⟩ := ih1
    obtain ⟨r, hr, hSr, rfl⟩ := ih2
    have hx := (Cng.lt hl hm hc).1
    obtain ⟨w, hw, hSw, rfl⟩ := pm_onto (lmI_pm hl hs hx) (fun z hz h => hS.lm s x z hs hx hz h) hr hSr
    exact ⟨t s w, hl.lt hs hw, hS.clo.op 42 s w rfl hSs hSw, (lmI_is hl hs hx hw).2⟩
  | @mulR x y i hi hc ih =>
    obtain ⟨s, hs, hSs, rfl⟩ := ih
    have hx := (Cng.lt hl hm hc).1
    obtain ⟨h1, e1⟩ := tmI_is hl hx hs
    obtain ⟨h2, e2⟩ := rmI_is hl hx hi h1
    obtain ⟨w, hw, hSw, e3⟩ := pm_onto (tmI_pm hl (hl.lt hx hi)) (fun z hz h => hS.tm _ z (hl.lt hx hi) hz h) h2 (hS.rm x i _ hx hi h1 (hS.tm x s hx hs hSs))
    refine ⟨w, hw, hSw, ?_⟩
    rw [← (tmI_is hl (hl.lt hx hi) hw).2, e3, e2, e1]
  | @mulL x y i hi hc ih =>
    obtain ⟨s, hs, hSs, rfl⟩ := ih
    have hx := (Cng.lt hl hm hc).1
    exact ⟨lmI t x i s, (lmI_is hl hx hi hs).1, hS.lm x i s hx hi hs hSs, (lmI_is hl hx hi hs).2.symm⟩
end

/-- What is in all normal subloops with some elements. -/
def NorP (n : Nat) (t : Nat → Nat → Nat) (m z : Nat) : Prop := ∀ S : Nat → Prop, Nrm n t S → (∀ i, m.testBit i = true → S i) → S z
theorem nor_nrm (n : Nat) (t : Nat → Nat → Nat) (m : Nat) : Nrm n t (NorP n t m) where
  clo := ⟨fun S hS _ => hS.clo.zero, fun b x y hb hx hy S hS hm => hS.clo.op b x y hb (hx S hS hm) (hy S hS hm)⟩
  tm x z hx hz h := fun S hS hm => hS.tm x z hx hz (h S hS hm)
  lm x y z hx hy hz h := fun S hS hm => hS.lm x y z hx hy hz (h S hS hm)
  rm x y z hx hy hz h := fun S hS hm => hS.rm x y z hx hy hz (h S hS hm)
theorem nrm_all {n : Nat} {t : Nat → Nat → Nat} (hl : Loo n t) : Nrm n t (· < n) :=
  ⟨clo_all hl.sq, fun _ _ hx hz _ => (tmI_is hl hx hz).1, fun _ _ _ hx hy hz _ => (lmI_is hl hx hy hz).1, fun _ _ _ hx hy hz _ => (rmI_is hl hx hy hz).1⟩
noncomputable def norM (n : Nat) (t : Nat → Nat → Nat) (m : Nat) : Nat := mkP (NorP n t m) 10
theorem norM_lt (n : Nat) (t : Nat → Nat → Nat) (m : Nat) : norM n t m < 1024 := mkP_lt _ 10
def NrmM (n : Nat) (t : Nat → Nat → Nat) (m : Nat) : Prop := Nrm n t fun i => m.testBit i = true
section
variable {n : Nat} {t : Nat → Nat → Nat} (hl : Loo n t) {m : Nat} (hm : ∀ i, m.testBit i = true → i < n)
include hl hm
theorem nor_lt {z : Nat} (h : NorP n t m z) : z < n := h (· < n) (nrm_all hl) hm
theorem norM_bit (z : Nat) : (norM n t m).testBit z = true ↔ NorP n t m z := by
  unfold norM
  rw [mkP_bit]
  exact ⟨fun h => h.2, fun h => ⟨by have := nor_lt hl hm h; have := hl.sq.hi; omega, h⟩⟩
theorem norM_n {z : Nat} (h : (norM n t m).testBit z = true) : z < n := nor_lt hl hm ((norM_bit hl hm z).1 h)
theorem norM_nrm : NrmM n t (norM n t m) where
  clo := ⟨(norM_bit hl hm 0).2 (nor_nrm n t m).clo.zero, fun b x y hb hx hy => (norM_bit hl hm _).2 ((nor_nrm n t m).clo.op b x y hb ((norM_bit hl hm x).1 hx) ((norM_bit hl hm y).1 hy))⟩
  tm x z hx hz h := (norM_bit hl hm _).2 ((nor_nrm n t m).tm x z hx hz ((norM_bit hl hm z).1 h))
  lm x y z hx hy hz h := (norM_bit hl hm _).2 ((nor_nrm n t m).lm x y z hx hy hz ((norM_bit hl hm z).1 h))
  rm x y z hx hy hz h := (norM_bit hl hm _).2 ((nor_nrm n t m).rm x y z hx hy hz ((norM_bit hl hm z).1 h))
theorem norM_least {k : Nat} (hk : NrmM n t k) (h : SubM m k) : SubM (norM n t m) k := fun i hi => (norM_bit hl hm i).1 hi _ hk h
theorem norM_sub : SubM m (norM n t m) := fun i hi => (norM_bit hl hm i).2 fun _ _ h => h i hi
theorem norM_self : norM n t m = m ↔ NrmM n t m :=
  ⟨fun h => by have := norM_nrm hl hm; rwa [h] at this, fun h => (norM_least hl hm h (SubM.refl m)).anti (norM_sub hl hm)⟩
/-- The class of 0 is the normal closure. -/
theorem nor_cng (z : Nat) : NorP n t m z ↔ Cng n t m 0 z := by
  constructor
  · exact fun h => h _ (cng_nrm hl hm) fun i hi => .base i hi
  · intro h S hS hb
    obtain ⟨s, hs, hSs, rfl⟩ := nrm_cng hl hm hS hb h
    rw [hl.zl s hs]; exact hSs
theorem norM_cng (z : Nat) : (norM n t m).testBit z = true ↔ Cng n t m 0 z := (norM_bit hl hm z).trans (nor_cng hl hm z)
end
end Go.Proofs.YteonahoboligdaaDoor
