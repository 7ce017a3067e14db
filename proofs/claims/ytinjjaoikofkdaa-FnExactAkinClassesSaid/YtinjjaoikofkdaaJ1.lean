/- Canonical loops and isotopes, plain: two squares are isotopic exactly if the least tables of their loops are equal. -/
import Derived.Test.YtinjjaoikofkdaaC22
import Derived.Test.YtinjjaoikofkdaaM8
namespace Go.Proofs.Ytinjjaoikofkdaa
set_option linter.unusedSimpArgs false
set_option linter.unusedVariables false
open Go Go.RowKit

/-! ### The order of tables -/
def LexP (f g : Nat → Nat) : Prop := ∃ j, j < 10 ∧ (∀ m, m < j → f m = g m) ∧ f j < g j
theorem lexB_iff (f g : Nat → Nat) : ∀ n i, lexB f g n i = true ↔ ∃ j, i ≤ j ∧ j < i + n ∧ (∀ m, i ≤ m → m < j → f m = g m) ∧ f j < g j
  | 0, i => by
    constructor
    · intro h; simp [lexB] at h
    · rintro ⟨j, h1, h2, _⟩; omega
  | n + 1, i => by
    rw [lexB_succ]
    by_cases e : f i = g i
    · rw [if_pos e, lexB_iff f g n (i + 1)]
      constructor
      · rintro ⟨j, h1, h2, h3, h4⟩
        refine ⟨j, by omega, by omega, fun m hm hj => ?_, h4⟩
        rcases Nat.eq_or_lt_of_le hm with rfl | h
        · exact e
        · exact h3 m h hj
      · rintro ⟨j, h1, h2, h3, h4⟩
        refine ⟨j, ?_, by omega, fun m hm hj => h3 m (by omega) hj, h4⟩
        rcases Nat.eq_or_lt_of_le h1 with rfl | h
        · omega
        · exact h
    · rw [if_neg e]
      constructor
      · intro h
        exact ⟨i, by omega, by omega, fun m hm hj => absurd hm (by omega), of_decide_eq_true h⟩
      · rintro ⟨j, h1, h2, h3, h4⟩
        rcases Nat.eq_or_lt_of_le h1 with rfl | h
        · exact decide_eq_true h4
        · exact absurd (h3 i (Nat.le_refl _) h) e
theorem lexB_P {f g : Nat → Nat} : lexB f g 10 0 = true ↔ LexP f g := by
  rw [lexB_iff]
  constructor
  · rintro ⟨j, _, h2, h3, h4⟩; exact ⟨j, by omega, fun m hm => h3 m (Nat.zero_le _) hm, h4⟩
  · rintro ⟨j, h2, h3, h4⟩; exact ⟨j, Nat.zero_le _, by omega, fun m _ hm => h3 m hm, h4⟩
theorem LexP.irr {f : Nat → Nat} : ¬ LexP f f := fun ⟨_, _, _, h⟩ => by omega
theorem LexP.trans {f g h : Nat → Nat} : LexP f g → LexP g h → LexP f h := by
  rintro ⟨j, h1, h2, h3⟩ ⟨k, k1, k2, k3⟩
  rcases Nat.lt_trichotomy j k with e | e | e
  · exact ⟨j, h1, fun m hm => (h2 m hm).trans (k2 m (by omega)), by rw [← k2 j e]; exact h3⟩
  · subst e; exact ⟨j, h1, fun m hm => (h2 m hm).trans (k2 m hm), by omega⟩
  · exact ⟨k, k1, fun m hm => (h2 m (by omega)).trans (k2 m hm), by rw [h2 k e]; exact k3⟩
theorem LexP.tri {f g : Nat → Nat} (h1 : ¬ LexP f g) (h2 : ¬ LexP g f) : ∀ i, i < 10 → f i = g i := by
  have : ∀ k i, i < k → i < 10 → f i = g i := by
    intro k
    induction k with
    | zero => intro i h; omega
    | succ k ih =>
      intro i hi hi10
      rcases Nat.lt_trichotomy (f i) (g i) with e | e | e
      · exact absurd ⟨i, hi10, fun m hm => ih m (by omega) (by omega), e⟩ h1
      · exact e
      · exact absurd ⟨i, hi10, fun m hm => (ih m (by omega) (by omega)).symm, e⟩ h2
  exact fun i hi => this 10 i hi hi
theorem LexP.congr {f g f' g' : Nat → Nat} (hf : ∀ i, i < 10 → f i = f' i) (hg : ∀ i, i < 10 → g i = g' i) : LexP f g → LexP f' g' := by
  rintro ⟨j, h1, h2, h3⟩
  exact ⟨j, h1, fun m hm => by rw [← hf m (by omega), ← hg m (by omega)]; exact h2 m hm, by rw [← hf j h1, ← hg j h1]; exact h3⟩
/-- The reference's comparison of tables: row by row, from row i on, for n rows. -/
def lowB (s t : Nat → Nat → Nat) : Nat → Nat → Bool
  | 0, _ => false
  | n + 1, i => if eqb (s i) (t i) = true then lowB s t n (i + 1) else lexB (s i) (t i) 10 0
theorem lowB_succ (s t : Nat → Nat → Nat) (n i : Nat) : lowB s t (n + 1) i = if eqb (s i) (t i) = true then lowB s t n (i + 1) else lexB (s i) (t i) 10 0 := rfl
def LowP (s t : Nat → Nat → Nat) : Prop := ∃ x, x < 10 ∧ (∀ m, m < x → ∀ i, i < 10 → s m i = t m i) ∧ LexP (s x) (t x)
theorem eqb_iff {f g : Nat → Nat} : eqb f g = true ↔ ∀ i, i < 10 → f i = g i := by
  unfold eqb
  rw [decide_eq_true_iff]
  exact ⟨fun h i hi => h i (List.mem_range.2 hi), fun h i hi => h i (List.mem_range.1 hi)⟩
theorem lowB_iff (s t : Nat → Nat → Nat) : ∀ n i, lowB s t n i = true ↔ ∃ j, i ≤ j ∧ j < i + n ∧ (∀ m, i ≤ m → m < j → ∀ c, c < 10 → s m c = t m c) ∧ LexP (s j) (t j)
  | 0, i => by
    constructor
    · intro h; simp [lowB] at h
    · rintro ⟨j, h1, h2, _⟩; omega
  | n + 1, i => by
    rw [lowB_succ]
    by_cases e : eqb (s i) (t i) = true
    · rw [if_pos e, lowB_iff s t n (i + 1)]
      constructor
      · rintro ⟨j, h1, h2, h3, h4⟩
        refine ⟨j, by omega, by omega, fun m hm hj => ?_, h4⟩
        rcases Nat.eq_or_lt_of_le hm with rfl | h
        · exact eqb_iff.1 e
        · exact h3 m h hj
      · rintro ⟨j, h1, h2, h3, h4⟩
        refine ⟨j, ?_, by omega, fun m hm hj => h3 m (by omega) hj, h4⟩
        rcases Nat.eq_or_lt_of_le h1 with rfl | h
        · exact absurd (h4.congr (eqb_iff.1 e) fun _ _ => rfl) LexP.irr
        · exact h
    · rw [if_neg e, lexB_P]
      constructor
      · intro h
        exact ⟨i, by omega, by omega, fun m hm hj => absurd hm (by omega), h⟩
      · rintro ⟨j, h1, h2, h3, h4⟩
        rcases Nat.eq_or_lt_of_le h1 with rfl | h
        · exact h4
        · exact absurd (eqb_iff.2 (h3 i (Nat.le_refl _) h)) e
theorem lowB_P {s t : Nat → Nat → Nat} : lowB s t 10 0 = true ↔ LowP s t := by
  rw [lowB_iff]
  constructor
  · rintro ⟨j, _, h2, h3, h4⟩; exact ⟨j, by omega, fun m hm => h3 m (Nat.zero_le _) hm, h4⟩
  · rintro ⟨j, h2, h3, h4⟩; exact ⟨j, Nat.zero_le _, by omega, fun m _ hm => h3 m hm, h4⟩
/-- Equal tables. -/
def EqT (s t : Nat → Nat → Nat) : Prop := ∀ x, x < 10 → ∀ y, y < 10 → s x y = t x y
theorem EqT.symm {s t : Nat → Nat → Nat} (h : EqT s t) : EqT t s := fun x hx y hy => (h x hx y hy).symm
theorem EqT.trans {s t u : Nat → Nat → Nat} (h : EqT s t) (k : EqT t u) : EqT s u := fun x hx y hy => (h x hx y hy).trans (k x hx y hy)
theorem LowP.irr {s : Nat → Nat → Nat} : ¬ LowP s s := fun ⟨_, _, _, h⟩ => LexP.irr h
theorem LowP.trans {s t u : Nat → Nat → Nat} : LowP s t → LowP t u → LowP s u := by
  rintro ⟨j, h1, h2, h3⟩ ⟨k, k1, k2, k3⟩
  rcases Nat.lt_trichotomy j k with e | e | e
  · exact ⟨j, h1, fun m hm i hi => (h2 m hm i hi).trans (k2 m (by omega) i hi), h3.congr (fun _ _ => rfl) (k2 j e)⟩
  · subst e; exact ⟨j, h1, fun m hm i hi => (h2 m hm i hi).trans (k2 m hm i hi), h3.trans k3⟩
  · exact ⟨k, k1, fun m hm i hi => (h2 m (by omega) i hi).trans (k2 m hm i hi), k3.congr (fun i hi => (h2 k e i hi).symm) fun _ _ => rfl⟩
theorem LowP.tri {s t : Nat → Nat → Nat} (h1 : ¬ LowP s t) (h2 : ¬ LowP t s) : EqT s t := by
  have : ∀ k x, x < k → x < 10 → ∀ y, y < 10 → s x y = t x y := by
    intro k
    induction k with
    | zero => intro i h; omega
    | succ k ih =>
      intro x hx hx10
      exact LexP.tri (fun h => h1 ⟨x, hx10, fun m hm => ih m (by omega) (by omega), h⟩) (fun h => h2 ⟨x, hx10, fun m hm i hi => (ih m (by omega) (by omega) i hi).symm, h⟩)
  exact fun x hx => this 10 x hx hx
theorem LowP.congr {s t s' t' : Nat → Nat → Nat} (hs : EqT s s') (ht : EqT t t') : LowP s t → LowP s' t' := by
  rintro ⟨j, h1, h2, h3⟩
  exact ⟨j, h1, fun m hm i hi => by rw [← hs m (by omega) i hi, ← ht m (by omega) i hi]; exact h2 m hm i hi, h3.congr (hs j h1) (ht j h1)⟩
theorem LowP.not {s c m : Nat → Nat → Nat} (h1 : ¬ LowP s c) (h2 : ¬ LowP c m) : ¬ LowP s m := fun h => by
  by_cases e : LowP m c
  · exact h1 (h.trans e)
  · exact h1 (h.congr (fun _ _ _ _ => rfl) (LowP.tri h2 e).symm)
/-- The least of a table and of those of a list. -/
def lowStep (b x : Nat → Nat → Nat) : Nat → Nat → Nat := if lowB x b 10 0 = true then x else b
def lowest (b : Nat → Nat → Nat) (l : List (Nat → Nat → Nat)) : Nat → Nat → Nat := l.foldl lowStep b
theorem lowStep_of (b x : Nat → Nat → Nat) : (lowStep b x = b ∨ lowStep b x = x) ∧ ¬ LowP b (lowStep b x) ∧ ¬ LowP x (lowStep b x) := by
  unfold lowStep
  by_cases h : lowB x b 10 0 = true
  · rw [if_pos h]
    exact ⟨.inr rfl, fun h2 => LowP.irr (h2.trans (lowB_P.1 h)), LowP.irr⟩
  · rw [if_neg h]
    exact ⟨.inl rfl, LowP.irr, fun h2 => h (lowB_P.2 h2)⟩
theorem lowest_of : ∀ (l : List (Nat → Nat → Nat)) (b : Nat → Nat → Nat), (lowest b l = b ∨ lowest b l ∈ l) ∧ ¬ LowP b (lowest b l) ∧ ∀ x ∈ l, ¬ LowP x (lowest b l)
  | [], b => ⟨.inl rfl, LowP.irr, fun x hx => by cases hx⟩
  | y :: l, b => by
    have hs := lowStep_of b y
    have ih := lowest_of l (lowStep b y)
    have e : lowest b (y :: l) = lowest (lowStep b y) l := rfl
    rw [e]
    refine ⟨?_, LowP.not hs.2.1 ih.2.1, fun x hx => ?_⟩
    · rcases ih.1 with h | h
      · rw [h]
        rcases hs.1 with h2 | h2
        · exact .inl h2
        · rw [h2]; exact .inr (List.mem_cons_self ..)
      · exact .inr (List.mem_cons_of_mem _ h)
    · rcases List.mem_cons.1 hx with rfl | hx
      · exact LowP.not hs.2.2 ih.2.1
      · exact ih.2.2 x hx

/-! ### All permutations that keep what comes first -/
/-- p with the numbers at k and at i exchanged. -/
def swp (p : Nat → Nat) (k i : Nat) : Nat → Nat := fun j => if j = i then p k else if j = k then p i else p j
def lvs : Nat → Nat → (Nat → Nat) → List (Nat → Nat)
  | 0, _, p => [p]
  | d + 1, k, p => (List.range (d + 1)).flatMap fun i => lvs d (k + 1) (swp p k (k + i))
theorem swp_pm {N k i : Nat} {p : Nat → Nat} (hp : Pm N p) (hk : k < N) (hi : i < N) : Pm N (swp p k i) where
  lt j hj := by
    unfold swp
    split
    · exact hp.lt _ hk
    · split
      · exact hp.lt _ hi
      · exact hp.lt _ hj
  inj a b ha hb h := by
    unfold swp at h
    repeat' split at h
    all_goals first | omega | (have := hp.inj _ _ ‹_› ‹_› h; omega) | (have := hp.inj _ _ hk hi h; omega) | (have := hp.inj _ _ hi hk h; omega) | (have := hp.inj _ _ hk hb h; omega) | (have := hp.inj _ _ ha hk h; omega) | (have := hp.inj _ _ hi hb h; omega) | (have := hp.inj _ _ ha hi h; omega) | (have := hp.inj _ _ ha hb h; omega)
theorem lvs_pm {N : Nat} : ∀ (d k : Nat) (p : Nat → Nat), k + d = N → Pm N p → ∀ r ∈ lvs d k p, Pm N r ∧ ∀ j, j < k → r j = p j
  | 0, k, p, _, hp, r, hr => by
    rw [lvs, List.mem_singleton] at hr
    subst hr
    exact ⟨hp, fun _ _ => rfl⟩
  | d + 1, k, p, hN, hp, r, hr => by
    obtain ⟨i, hi, hr⟩ := List.mem_flatMap.1 hr
    have hi := List.mem_range.1 hi
    obtain ⟨h1, h2⟩ := lvs_pm d (k + 1) _ (by omega) (swp_pm hp (by omega) (by omega)) r hr
    refine ⟨h1, fun j hj => ?_⟩
    rw [h2 j (by omega)]
    unfold swp
    rw [if_neg (by omega), if_neg (by omega)]
theorem lvs_all {N : Nat} : ∀ (d k : Nat) (p : Nat → Nat), k + d = N → Pm N p → ∀ r, Pm N r → (∀ j, j < k → r j = p j) → ∃ r' ∈ lvs d k p, ∀ j, j < N → r' j = r j
  | 0, k, p, hN, hp, r, hr, h => ⟨p, List.mem_singleton.2 rfl, fun j hj => (h j (by omega)).symm⟩
  | d + 1, k, p, hN, hp, r, hr, h => by
    obtain ⟨i, hi, e⟩ := hp.surj (hr.lt k (by omega))
    have hki : k ≤ i := by
      rcases Nat.lt_or_ge i k with h2 | h2
      · rw [← h i h2] at e
        have := hr.inj _ _ hi (by omega) e
        omega
      · exact h2
    obtain ⟨i', rfl⟩ := Nat.exists_eq_add_of_le hki
    obtain ⟨r', h1, h2⟩ := lvs_all d (k + 1) (swp p k (k + i')) (by omega) (swp_pm hp (by omega) hi) r hr fun j hj => by
      unfold swp
      rcases Nat.lt_or_ge j k with h3 | h3
      · rw [if_neg (by omega), if_neg (by omega)]; exact h j h3
      · obtain rfl : j = k := by omega
        by_cases h4 : j = j + i'
        · rw [if_pos h4]; rw [← e, ← h4]
        · rw [if_neg h4, if_pos rfl, e]
    exact ⟨r', List.mem_flatMap.2 ⟨i', List.mem_range.2 (by omega), h1⟩, h2⟩
theorem idTo_pm (N : Nat) : Pm N (idTo N) where
  lt i hi := by unfold idTo; rw [if_pos hi]; exact hi
  inj i j hi hj h := by unfold idTo at h; rw [if_pos hi, if_pos hj] at h; exact h

/-! ### Isotopic squares -/
theorem isoW_out {N : Nat} {t : Nat → Nat → Nat} {f g h : Nat → Nat} (hf : Pm N f) (hg : Pm N g) {i j : Nat} (hij : N ≤ i ∨ N ≤ j) : ∀ m, m ≤ N * N → isoW N t f g h m i j = 0
  | 0, _ => rfl
  | m + 1, hm => by
    have hN : 0 < N := by
      rcases Nat.eq_zero_or_pos N with rfl | h
      · simp at hm
      · exact h
    have e : isoW N t f g h (m + 1) i j = if i = f (m / N) ∧ j = g (m % N) then h (t (m / N) (m % N)) else isoW N t f g h m i j := rfl
    rw [e, if_neg, isoW_out hf hg hij m (by omega)]
    rintro ⟨rfl, rfl⟩
    have h1 := hf.lt _ (Nat.div_lt_of_lt_mul (show m < N * N by omega))
    have h2 := hg.lt _ (Nat.mod_lt m hN)
    omega
structure Itp (N : Nat) (t u : Nat → Nat → Nat) (f g h : Nat → Nat) : Prop where
  pf : Pm N f
  pg : Pm N g
  ph : Pm N h
  hom : ∀ x y, x < N → y < N → u (f x) (g y) = h (t x y)
theorem loopAt_itp {N : Nat} {t : Nat → Nat → Nat} (ht : Lat N t) {a b : Nat} (ha : a < N) (hb : b < N) : Itp N t (loopAt N t a b) (toF N t a b) (toG N t a b) (toH N t a b) :=
  ⟨pm_toF ht ha hb, pm_toG ht ha hb, pm_toH ht ha hb, fun _ _ hx hy => isoW_all (pm_toF ht ha hb) (pm_toG ht ha hb) hx hy⟩
/-- 0 is the identity. -/
structure Idn (N : Nat) (s : Nat → Nat → Nat) : Prop where
  left : ∀ y, y < N → s 0 y = y
  right : ∀ x, x < N → s x 0 = x
theorem xch_self (N e : Nat) : xch N e e = 0 := by simp [xch]
theorem xch_zero (N e : Nat) : xch N e 0 = e := by
  unfold xch
  by_cases h : 0 = e
  · rw [if_pos h]; exact h
  · rw [if_neg h, if_pos rfl]
theorem xch_xch {N e z : Nat} (hz : z < N) : xch N e (xch N e z) = z := by
  by_cases h1 : z = e
  · subst h1
    rw [xch_self, xch_zero]
  · by_cases h2 : z = 0
    · subst h2
      rw [xch_zero, xch_self]
    · have e1 : xch N e z = z := by unfold xch idTo; rw [if_neg h1, if_neg h2, if_pos hz]
      rw [e1, e1]
theorem loopAt_idn {N : Nat} {t : Nat → Nat → Nat} (ht : Lat N t) {a b : Nat} (ha : a < N) (hb : b < N) : Idn N (loopAt N t a b) := by
  have I := loopAt_itp ht ha hb
  have ef : toF N t a b a = 0 := by unfold toF thTo; rw [if_pos ha]; exact xch_self N _
  have eg : toG N t a b b = 0 := by unfold toG thTo; rw [if_pos hb]; exact xch_self N _
  refine ⟨fun y hy => ?_, fun x hx => ?_⟩
  · obtain ⟨z, hz, rfl⟩ := I.pg.surj hy
    have := I.hom a z ha hz
    rw [ef] at this
    rw [this]
    unfold toG thTo toH
    rw [if_pos hz]
  · obtain ⟨z, hz, rfl⟩ := I.pf.surj hx
    have := I.hom z b hz hb
    rw [eg] at this
    rw [this]
    unfold toF thTo toH
    rw [if_pos hz]
/-- A loop that is isotopic to a square is isomorphic to one of its loops, and the isomorphism keeps 0. -/
theorem albert {N : Nat} {t s : Nat → Nat → Nat} {f g h : Nat → Nat} (ht : Lat N t) (hs : Idn N s) (I : Itp N t s f g h) (hN : 0 < N) :
    ∃ a b p, a < N ∧ b < N ∧ Pm N p ∧ p 0 = 0 ∧ ∀ x y, x < N → y < N → s (p x) (p y) = p (loopAt N t a b x y) := by
  obtain ⟨a, ha, ea⟩ := I.pf.surj hN
  obtain ⟨b, hb, eb⟩ := I.pg.surj hN
  have J := loopAt_itp ht ha hb
  have hx := J.ph
  have hlt := ht.lt a b ha hb
  have hbf : ∀ x, x < N → h (toH N t a b (toF N t a b x)) = f x := fun x hx => by
    have e1 : toH N t a b (toF N t a b x) = t x b := by
      unfold toF thTo toH
      rw [if_pos hx]
      exact xch_xch (ht.lt x b hx hb)
    rw [e1, ← I.hom x b hx hb, eb, hs.right _ (I.pf.lt x hx)]
  have hbg : ∀ y, y < N → h (toH N t a b (toG N t a b y)) = g y := fun y hy => by
    have e1 : toH N t a b (toG N t a b y) = t a y := by
      unfold toG thTo toH
      rw [if_pos hy]
      exact xch_xch (ht.lt a y ha hy)
    rw [e1, ← I.hom a y ha hy, ea, hs.left _ (I.pg.lt y hy)]
  have hbh : ∀ z, z < N → toH N t a b (toH N t a b z) = z := fun z hz => xch_xch hz
  refine ⟨a, b, fun z => h (toH N t a b z), ha, hb, ⟨fun i hi => I.ph.lt _ (hx.lt i hi), fun i j hi hj e => hx.inj i j hi hj (I.ph.inj _ _ (hx.lt i hi) (hx.lt j hj) e)⟩, ?_, fun x y hx hy => ?_⟩
  · show h (toH N t a b 0) = 0
    have e1 : toH N t a b 0 = t a b := xch_zero ..
    rw [e1, ← I.hom a b ha hb, ea, eb]
    exact hs.left 0 hN
  · obtain ⟨z, hz, rfl⟩ := J.pf.surj hx
    obtain ⟨u, hu, rfl⟩ := J.pg.surj hy
    show s (h (toH N t a b _)) (h (toH N t a b _)) = h (toH N t a b (loopAt N t a b _ _))
    rw [hbf z hz, hbg u hu, J.hom z u hz hu, hbh _ (ht.lt z u hz hu), I.hom z u hz hu]
theorem Itp.comp {N : Nat} {t u s : Nat → Nat → Nat} {f g h f' g' h' : Nat → Nat} (I : Itp N t u f g h) (J : Itp N u s f' g' h') (ht : Lat N t) : Itp N t s (fun x => f' (f x)) (fun x => g' (g x)) (fun x => h' (h x)) where
  pf := ⟨fun i hi => J.pf.lt _ (I.pf.lt i hi), fun i j hi hj e => I.pf.inj i j hi hj (J.pf.inj _ _ (I.pf.lt i hi) (I.pf.lt j hj) e)⟩
  pg := ⟨fun i hi => J.pg.lt _ (I.pg.lt i hi), fun i j hi hj e => I.pg.inj i j hi hj (J.pg.inj _ _ (I.pg.lt i hi) (I.pg.lt j hj) e)⟩
  ph := ⟨fun i hi => J.ph.lt _ (I.ph.lt i hi), fun i j hi hj e => I.ph.inj i j hi hj (J.ph.inj _ _ (I.ph.lt i hi) (I.ph.lt j hj) e)⟩
  hom x y hx hy := by rw [J.hom _ _ (I.pf.lt x hx) (I.pg.lt y hy), I.hom x y hx hy]
/-- What leads back. -/
noncomputable def inv (N : Nat) (f : Nat → Nat) : Nat → Nat := fun v => if h : ∃ i, i < N ∧ f i = v then Classical.choose h else 0
theorem inv_at {N : Nat} {f : Nat → Nat} (h : Pm N f) {v : Nat} (hv : v < N) : inv N f v < N ∧ f (inv N f v) = v := by
  have he := h.surj hv
  unfold inv
  rw [dif_pos he]
  exact Classical.choose_spec he
theorem inv_pm {N : Nat} {f : Nat → Nat} (h : Pm N f) : Pm N (inv N f) :=
  ⟨fun i hi => (inv_at h hi).1, fun i j hi hj e => by rw [← (inv_at h hi).2, ← (inv_at h hj).2, e]⟩
theorem inv_self {N : Nat} {f : Nat → Nat} (h : Pm N f) {i : Nat} (hi : i < N) : inv N f (f i) = i :=
  h.inj _ _ (inv_at h (h.lt i hi)).1 hi (inv_at h (h.lt i hi)).2
theorem Itp.back {N : Nat} {t u : Nat → Nat → Nat} {f g h : Nat → Nat} (I : Itp N t u f g h) (ht : Lat N t) : Itp N u t (inv N f) (inv N g) (inv N h) where
  pf := inv_pm I.pf
  pg := inv_pm I.pg
  ph := inv_pm I.ph
  hom x y hx hy := by
    have h1 := inv_at I.pf hx
    have h2 := inv_at I.pg hy
    have := I.hom _ _ h1.1 h2.1
    rw [h1.2, h2.2] at this
    rw [this, inv_self I.ph (ht.lt _ _ h1.1 h2.1)]
/-- The loops with identity 0 that are isotopic to a square, as tables. -/
structure InS (N : Nat) (t s : Nat → Nat → Nat) : Prop where
  out : ∀ i j, N ≤ i ∨ N ≤ j → s i j = 0
  idn : Idn N s
  itp : ∃ f g h, Itp N t s f g h
/-- The canonical loop: the least table of a loop and of those that renamings make of it. -/
def canL (N : Nat) (s : Nat → Nat → Nat) : List (Nat → Nat → Nat) := (lvs (N - 1) 1 (idTo N)).map fun p => isoW N s p p p (N * N)
def canT (N : Nat) (s : Nat → Nat → Nat) : Nat → Nat → Nat := lowest s (canL N s)
/-- The canonical isotope: the least canonical loop of the loops of a square. -/
def canR (N : Nat) (t : Nat → Nat → Nat) (a : Nat) : List (Nat → Nat → Nat) := (List.range N).map fun b => canT N (loopAt N t a b)
def canI (N : Nat) (t : Nat → Nat → Nat) : Nat → Nat → Nat := lowest (canT N (loopAt N t 0 0)) ((List.range N).flatMap fun a => canR N t a)
theorem loopAt_in {N : Nat} {t : Nat → Nat → Nat} (ht : Lat N t) {a b : Nat} (ha : a < N) (hb : b < N) : InS N t (loopAt N t a b) :=
  ⟨fun _ _ h => isoW_out (pm_toF ht ha hb) (pm_toG ht ha hb) h _ (Nat.le_refl _), loopAt_idn ht ha hb, _, _, _, loopAt_itp ht ha hb⟩
theorem canT_in {N : Nat} {t s : Nat → Nat → Nat} (hN : 0 < N) (ht : Lat N t) (h : InS N t s) : InS N t (canT N s) := by
  rcases (lowest_of (canL N s) s).1 with e | e
  · unfold canT; rw [e]; exact h
  · unfold canT
    obtain ⟨p, hp, e2⟩ := List.mem_map.1 e
    rw [← e2]
    obtain ⟨h1, h2⟩ := lvs_pm (N := N) (N - 1) 1 (idTo N) (by omega) (idTo_pm N) p hp
    have h0 : p 0 = 0 := by rw [h2 0 (by omega)]; unfold idTo; rw [if_pos hN]
    obtain ⟨f, g, h', I⟩ := h.itp
    refine ⟨fun i j hij => isoW_out h1 h1 hij _ (Nat.le_refl _), ⟨fun y hy => ?_, fun x hx => ?_⟩, _, _, _, I.comp (s := isoW N s p p p (N * N)) (f' := p) (g' := p) (h' := p) ⟨h1, h1, h1, fun x y hx hy => isoW_all h1 h1 hx hy⟩ ht⟩
    · obtain ⟨z, hz, rfl⟩ := h1.surj hy
      have := isoW_all (t := s) (h := p) h1 h1 hN hz
      rw [h0, h.idn.left z hz] at this
      exact this
    · obtain ⟨z, hz, rfl⟩ := h1.surj hx
      have := isoW_all (t := s) (h := p) h1 h1 hz hN
      rw [h0, h.idn.right z hz] at this
      exact this
theorem canI_in {N : Nat} {t : Nat → Nat → Nat} (hN : 0 < N) (ht : Lat N t) : InS N t (canI N t) := by
  unfold canI
  rcases (lowest_of ((List.range N).flatMap fun a => canR N t a) (canT N (loopAt N t 0 0))).1 with e | e
  · rw [e]; exact canT_in hN ht (loopAt_in ht hN hN)
  · obtain ⟨a, ha, e2⟩ := List.mem_flatMap.1 e
    obtain ⟨b, hb, e3⟩ := List.mem_map.1 e2
    rw [← e3]
    exact canT_in hN ht (loopAt_in ht (List.mem_range.1 ha) (List.mem_range.1 hb))
theorem canI_least {N : Nat} {t s : Nat → Nat → Nat} (hN : 0 < N) (ht : Lat N t) (h : InS N t s) : ¬ LowP s (canI N t) := by
  obtain ⟨f, g, h', I⟩ := h.itp
  obtain ⟨a, b, p, ha, hb, hp, hp0, hom⟩ := albert ht h.idn I hN
  obtain ⟨r, hr, er⟩ := lvs_all (N := N) (N - 1) 1 (idTo N) (by omega) (idTo_pm N) p hp fun j hj => by
    obtain rfl : j = 0 := by omega
    rw [hp0]; unfold idTo; rw [if_pos hN]
  have hrp := (lvs_pm (N := N) (N - 1) 1 (idTo N) (by omega) (idTo_pm N) r hr).1
  have e : EqT s (isoW N (loopAt N t a b) r r r (N * N)) := fun x _ y _ => by
    rcases Nat.lt_or_ge x N with hx | hx
    · rcases Nat.lt_or_ge y N with hy | hy
      · obtain ⟨z, hz, rfl⟩ := hrp.surj hx
        obtain ⟨u, hu, rfl⟩ := hrp.surj hy
        rw [isoW_all hrp hrp hz hu, er z hz, er u hu, hom z u hz hu, er _ ((lat_loopAt ht ha hb).lt z u hz hu)]
      · rw [h.out x y (.inr hy), isoW_out hrp hrp (.inr hy) _ (Nat.le_refl _)]
    · rw [h.out x y (.inl hx), isoW_out hrp hrp (.inl hx) _ (Nat.le_refl _)]
  have h1 : ¬ LowP s (canT N (loopAt N t a b)) := fun hl =>
    (lowest_of (canL N (loopAt N t a b)) (loopAt N t a b)).2.2 _ (List.mem_map.2 ⟨r, hr, rfl⟩) (hl.congr e fun _ _ _ _ => rfl)
  have h2 : ¬ LowP (canT N (loopAt N t a b)) (canI N t) :=
    (lowest_of ((List.range N).flatMap fun a => canR N t a) (canT N (loopAt N t 0 0))).2.2 _ (List.mem_flatMap.2 ⟨a, List.mem_range.2 ha, List.mem_map.2 ⟨b, List.mem_range.2 hb, rfl⟩⟩)
  exact LowP.not h1 h2
theorem InS.move {N : Nat} {t u s : Nat → Nat → Nat} {f g h : Nat → Nat} (ht : Lat N t) (hu : Lat N u) (I : Itp N t u f g h) (S : InS N t s) : InS N u s := by
  obtain ⟨f', g', h', J⟩ := S.itp
  exact ⟨S.out, S.idn, _, _, _, (I.back ht).comp J hu⟩
theorem InS.congr {N : Nat} {t s s' : Nat → Nat → Nat} (h10 : N ≤ 10) (e : EqT s s') (S : InS N t s) (hS' : ∀ i j, N ≤ i ∨ N ≤ j → s' i j = 0) : InS N t s' := by
  obtain ⟨f', g', h', J⟩ := S.itp
  exact ⟨hS', ⟨fun y hy => by rw [← e 0 (by omega) y (by omega)]; exact S.idn.left y hy, fun x hx => by rw [← e x (by omega) 0 (by omega)]; exact S.idn.right x hx⟩, f', g', h', J.pf, J.pg, J.ph, fun x y hx hy => by
    have h1 := J.pf.lt x hx
    have h2 := J.pg.lt y hy
    rw [← e _ (by omega) _ (by omega)]; exact J.hom x y hx hy⟩
/-- Two squares are isotopic exactly if their canonical isotopes are equal. -/
theorem canI_eq {N : Nat} {t u : Nat → Nat → Nat} (hN : 0 < N) (h10 : N ≤ 10) (ht : Lat N t) (hu : Lat N u) : EqT (canI N t) (canI N u) ↔ ∃ f g h, Itp N t u f g h := by
  constructor
  · intro e
    have S := (canI_in hN ht).congr h10 e (canI_in hN hu).out
    obtain ⟨f, g, h, I⟩ := S.itp
    obtain ⟨f', g', h', J⟩ := (canI_in hN hu).itp
    exact ⟨_, _, _, I.comp (J.back hu) ht⟩
  · rintro ⟨f, g, h, I⟩
    exact LowP.tri (canI_least hN hu ((canI_in hN ht).move ht hu I)) (canI_least hN ht ((canI_in hN hu).move hu ht (I.back ht)))
theorem getD_mapR (N : Nat) (f : Nat → Nat) {i : Nat} (hi : i < N) : ((List.range N).map f).getD i 0 = f i := by
  rw [List.getD_eq_getElem?_getD, List.getElem?_map, List.getElem?_range hi]; rfl
/-- There is an isotopism exactly if there are isomorphisms between loops. -/
theorem ists_ne {N : Nat} {t u : Nat → Nat → Nat} (hN : 0 < N) (ht : Lat N t) (hu : Lat N u) : ists N t u ≠ [] ↔ ∃ f g h, Itp N t u f g h := by
  constructor
  · intro h
    obtain ⟨x, hx⟩ := List.exists_mem_of_ne_nil _ h
    obtain ⟨a, ha, hx⟩ := List.mem_flatMap.1 hx
    obtain ⟨b, hb, hx⟩ := List.mem_flatMap.1 hx
    obtain ⟨p, hp, _⟩ := List.mem_map.1 hx
    have ha := List.mem_range.1 ha
    have hb := List.mem_range.1 hb
    obtain ⟨⟨hl, hlt⟩, hI, _⟩ := mem_isos.1 hp
    have hpm : Pm N fun i => p.getD i 0 := ⟨fun i hi => hlt _ (by rw [List.getD_eq_getElem?_getD, List.getElem?_eq_getElem (by omega)]; exact List.getElem_mem _), fun i j hi hj e => hI.inj i j hi hj e⟩
    have I2 : Itp N (loopAt N t 0 0) (loopAt N u a b) (fun i => p.getD i 0) (fun i => p.getD i 0) (fun i => p.getD i 0) := ⟨hpm, hpm, hpm, fun x y hx hy => (hI.hom x y hx hy).symm⟩
    exact ⟨_, _, _, ((loopAt_itp ht hN hN).comp I2 ht).comp ((loopAt_itp hu ha hb).back hu) ht⟩
  · rintro ⟨f, g, h, I⟩
    have L0 := lat_loopAt ht hN hN
    obtain ⟨a, b, p, ha, hb, hp, _, hom⟩ := albert hu (loopAt_idn ht hN hN) ((I.back ht).comp (loopAt_itp ht hN hN) hu) hN
    have hq := inv_pm hp
    have hm : (List.range N).map (inv N p) ∈ istP N t u a b := by
      refine mem_isos.2 ⟨⟨by simp, fun v hv => ?_⟩, ⟨fun x y hx hy => ?_, fun x y hx hy e => ?_⟩, fun _ _ _ h => by cases h⟩
      · obtain ⟨i, hi, rfl⟩ := List.mem_map.1 hv
        exact hq.lt i (List.mem_range.1 hi)
      · rw [getD_mapR N _ hx, getD_mapR N _ hy, getD_mapR N _ (L0.lt x y hx hy)]
        have h1 := inv_at hp hx
        have h2 := inv_at hp hy
        have := hom _ _ h1.1 h2.1
        rw [h1.2, h2.2] at this
        rw [this, inv_self hp ((lat_loopAt hu ha hb).lt _ _ h1.1 h2.1)]
      · rw [getD_mapR N _ hx, getD_mapR N _ hy] at e
        exact hq.inj x y hx hy e
    intro h0
    have hmem : ownT N t u a b ((List.range N).map (inv N p)) ∈ ists N t u := List.mem_flatMap.2 ⟨a, List.mem_range.2 ha, List.mem_flatMap.2 ⟨b, List.mem_range.2 hb, List.mem_map.2 ⟨_, hm, rfl⟩⟩⟩
    rw [h0] at hmem
    cases hmem
/-- Two squares are akin: there is an isotopism, or their canonical isotopes are equal. -/
theorem akin_iff {N : Nat} {t u : Nat → Nat → Nat} (hN : 0 < N) (h10 : N ≤ 10) (ht : Lat N t) (hu : Lat N u) : ists N t u ≠ [] ↔ EqT (canI N t) (canI N u) := (ists_ne hN ht hu).trans (canI_eq hN h10 ht hu).symm
end Go.Proofs.Ytinjjaoikofkdaa
