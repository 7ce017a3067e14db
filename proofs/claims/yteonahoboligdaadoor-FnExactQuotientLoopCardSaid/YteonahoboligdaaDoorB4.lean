/- The cycles of a permutation, their lengths, and how often each length is met, in plain Lean. -/
import Derived.Test.YteonahoboligdaaDoorM
namespace Go.Proofs.YteonahoboligdaaDoor
set_option linter.unusedSimpArgs false
set_option linter.unusedVariables false

/-! ### How many numbers have a property -/
def cn : Nat → (Nat → Bool) → Nat
  | 0, _ => 0
  | N + 1, p => cn N p + (if p N = true then 1 else 0)
theorem cn_succ (k : Nat) (p : Nat → Bool) : cn (k + 1) p = cn k p + (if p k = true then 1 else 0) := rfl
theorem cn_congr {p q : Nat → Bool} : ∀ {N : Nat}, (∀ i, i < N → p i = q i) → cn N p = cn N q
  | 0, _ => rfl
  | N + 1, h => by unfold cn; rw [cn_congr fun i hi => h i (by omega), h N (by omega)]
theorem cn_none : ∀ {N : Nat} {p : Nat → Bool}, (∀ i, i < N → p i = false) → cn N p = 0
  | 0, _, _ => rfl
  | N + 1, p, h => by unfold cn; rw [cn_none fun i hi => h i (by omega), h N (by omega)]; rfl
theorem cn_add {p q : Nat → Bool} : ∀ {N : Nat}, (∀ i, i < N → p i = true → q i = false) → cn N (fun i => p i || q i) = cn N p + cn N q
  | 0, _ => rfl
  | N + 1, h => by
    unfold cn
    rw [cn_add fun i hi => h i (by omega)]
    have := h N (by omega)
    cases hp : p N <;> cases hq : q N <;> simp_all <;> omega
theorem cn_one {v : Nat} : ∀ {N : Nat}, v < N → cn N (fun i => i == v) = 1
  | N + 1, h => by
    unfold cn
    by_cases e : v = N
    · subst e
      rw [cn_none fun i hi => beq_eq_false_iff_ne.2 (by omega)]; simp
    · rw [cn_one (show v < N by omega)]
      simp only [beq_iff_eq]
      rw [if_neg (fun h => e h.symm)]
theorem cn_le : ∀ (N : Nat) (p : Nat → Bool), cn N p ≤ N
  | 0, _ => Nat.le_refl _
  | N + 1, p => by unfold cn; have := cn_le N p; split <;> omega
open Classical in
/-- A property carried over by an injection is had as often. -/
theorem cn_inj {N : Nat} {e : Nat → Nat} {b : Nat → Bool} : ∀ {k : Nat}, (∀ i, i < k → e i < N) → (∀ i j, i < k → j < k → e i = e j → i = j) → cn N (fun v => decide (∃ y, y < k ∧ e y = v ∧ b y = true)) = cn k b
  | 0, _, _ => cn_none fun i _ => decide_eq_false fun ⟨y, h, _⟩ => by omega
  | k + 1, h1, h2 => by
    have ih := cn_inj (N := N) (e := e) (b := b) (k := k) (fun i hi => h1 i (by omega)) fun i j hi hj => h2 i j (by omega) (by omega)
    rw [cn_succ k b]
    cases hb : b k with
    | false =>
      rw [← ih, if_neg (by decide), Nat.add_zero]
      refine cn_congr fun v _ => decide_eq_decide.2 ⟨fun ⟨y, hy, h⟩ => ⟨y, ?_, h⟩, fun ⟨y, hy, h⟩ => ⟨y, by omega, h⟩⟩
      rcases Nat.lt_or_ge y k with h3 | h3
      · exact h3
      · obtain rfl : y = k := by omega
        rw [hb] at h; exact absurd h.2 (by decide)
    | true =>
      have h3 := cn_add (N := N) (p := fun v => decide (∃ y, y < k ∧ e y = v ∧ b y = true)) (q := fun i => i == e k) ?_
      rw [cn_one (h1 k (by omega))] at h3
      rw [if_pos rfl, ← ih, ← h3]
      · refine cn_congr fun v _ => ?_
        by_cases hv : v = e k
        · subst hv
          rw [decide_eq_true (⟨k, by omega, rfl, hb⟩ : ∃ y, y < k + 1 ∧ e y = e k ∧ b y = true)]; simp
        · have : (v == e k) = false := beq_eq_false_iff_ne.2 hv
          rw [this, Bool.or_false]
          refine decide_eq_decide.2 ⟨fun ⟨y, hy, h⟩ => ⟨y, ?_, h⟩, fun ⟨y, hy, h⟩ => ⟨y, by omega, h⟩⟩
          rcases Nat.lt_or_ge y k with h3 | h3
          · exact h3
          · obtain rfl : y = k := by omega
            exact absurd h.1.symm hv
      · intro v _ hv
        obtain ⟨y, hy, rfl, _⟩ := of_decide_eq_true hv
        refine beq_eq_false_iff_ne.2 fun h => ?_
        have := h2 y k (by omega) (by omega) h; omega
/-- A permutation carries a property over to as many numbers. -/
theorem cn_pm {N : Nat} {g : Nat → Nat} (hg : Pm N g) (p : Nat → Bool) : cn N (fun i => p (g i)) = cn N p := by
  classical
  rw [← cn_inj (N := N) (e := g) (b := fun i => p (g i)) hg.lt hg.inj]
  refine cn_congr fun v hv => ?_
  obtain ⟨y, hy, rfl⟩ := hg.surj hv
  cases h : p (g y) with
  | true => exact decide_eq_true ⟨y, hy, rfl, h⟩
  | false =>
    refine decide_eq_false fun ⟨z, _, hz, h2⟩ => ?_
    rw [hz, h] at h2; cases h2

/-! ### Cycles -/
def it (f : Nat → Nat) : Nat → Nat → Nat
  | 0, c => c
  | i + 1, c => f (it f i c)
theorem it_lt {N : Nat} {f : Nat → Nat} (hf : Pm N f) {c : Nat} (hc : c < N) : ∀ i, it f i c < N
  | 0 => hc
  | i + 1 => hf.lt _ (it_lt hf hc i)
theorem it_add (f : Nat → Nat) (c : Nat) : ∀ i j, it f (i + j) c = it f i (it f j c)
  | 0, j => by rw [Nat.zero_add]; rfl
  | i + 1, j => by rw [Nat.succ_add]; show f _ = f _; rw [it_add f c i j]
theorem it_cancel {N : Nat} {f : Nat → Nat} (hf : Pm N f) {c d : Nat} (hc : c < N) (hd : d < N) : ∀ i, it f i c = it f i d → c = d
  | 0, h => h
  | i + 1, h => it_cancel hf hc hd i (hf.inj _ _ (it_lt hf hc i) (it_lt hf hd i) h)
theorem it_back {N : Nat} {f : Nat → Nat} (hf : Pm N f) {c : Nat} (hc : c < N) : ∃ L, 1 ≤ L ∧ L ≤ N ∧ it f L c = c := by
  apply Classical.byContradiction
  intro hno
  have hne : ∀ L, 1 ≤ L → L ≤ N → it f L c ≠ c := fun L h1 h2 h => hno ⟨L, h1, h2, h⟩
  have hin : ∀ i j, i < j → j < N → it f (i + 1) c ≠ it f (j + 1) c := fun i j hij hj h => by
    have e : j + 1 = (i + 1) + (j - i) := by omega
    rw [e, it_add f c (i + 1) (j - i)] at h
    exact hne (j - i) (by omega) (by omega) (it_cancel hf hc (it_lt hf hc _) _ h).symm
  obtain ⟨i, hi, h⟩ := surj_of_inj N (fun i => it f (i + 1) c) (fun i _ => it_lt hf hc _) (fun i j hi hj h => by
    rcases Nat.lt_trichotomy i j with h3 | h3 | h3
    · exact absurd h (hin i j h3 hj)
    · exact h3
    · exact absurd h.symm (hin j i h3 hi)) c hc
  exact hne (i + 1) (by omega) (by omega) h
open Classical in
/-- The length of the cycle with c. -/
noncomputable def clen (f : Nat → Nat) (c : Nat) : Nat := if h : ∃ L, 1 ≤ L ∧ it f L c = c ∧ ∀ k, 1 ≤ k → k < L → it f k c ≠ c then h.choose else 0
theorem least_of {P : Nat → Prop} : ∀ {L : Nat}, P L → ∃ m, m ≤ L ∧ P m ∧ ∀ k, k < m → ¬ P k := by
  intro L
  induction L using Nat.strongRecOn with
  | ind L ih =>
    intro h
    by_cases hk : ∃ k, k < L ∧ P k
    · obtain ⟨k, hk, hp⟩ := hk
      obtain ⟨m, h1, h2, h3⟩ := ih k hk hp
      exact ⟨m, by omega, h2, h3⟩
    · exact ⟨L, Nat.le_refl _, h, fun k h1 h2 => hk ⟨k, h1, h2⟩⟩
structure IsClen (f : Nat → Nat) (c L : Nat) : Prop where
  pos : 1 ≤ L
  back : it f L c = c
  least : ∀ k, 1 ≤ k → k < L → it f k c ≠ c
theorem IsClen.uniq {f : Nat → Nat} {c L K : Nat} (h : IsClen f c L) (g : IsClen f c K) : L = K := by
  rcases Nat.lt_trichotomy L K with h3 | h3 | h3
  · exact absurd h.back (g.least L h.pos h3)
  · exact h3
  · exact absurd g.back (h.least K g.pos h3)
theorem clen_is {N : Nat} {f : Nat → Nat} (hf : Pm N f) {c : Nat} (hc : c < N) : IsClen f c (clen f c) ∧ clen f c ≤ N := by
  obtain ⟨L, h1, h2, h3⟩ := it_back hf hc
  obtain ⟨m, hm, ⟨hp1, hp2⟩, hl⟩ := least_of (P := fun L => 1 ≤ L ∧ it f L c = c) ⟨h1, h3⟩
  have hx : ∃ L, 1 ≤ L ∧ it f L c = c ∧ ∀ k, 1 ≤ k → k < L → it f k c ≠ c := ⟨m, hp1, hp2, fun k h1 h2 h => hl k h2 ⟨h1, h⟩⟩
  have e : clen f c = hx.choose := dif_pos hx
  have hs := hx.choose_spec
  rw [← e] at hs
  have hi : IsClen f c (clen f c) := ⟨hs.1, hs.2.1, hs.2.2⟩
  exact ⟨hi, by rw [hi.uniq ⟨hp1, hp2, fun k h1 h2 h => hl k h2 ⟨h1, h⟩⟩]; omega⟩
/-- The numbers of a cycle. -/
def inO (f : Nat → Nat) (c y : Nat) : Prop := ∃ i, it f i c = y
theorem it_mul {f : Nat → Nat} {c L : Nat} (h : it f L c = c) : ∀ q, it f (q * L) c = c
  | 0 => by rw [Nat.zero_mul]; rfl
  | q + 1 => by rw [Nat.succ_mul, it_add, h]; exact it_mul h q
theorem inO_lt {f : Nat → Nat} {c y L : Nat} (h : IsClen f c L) (hy : inO f c y) : ∃ i, i < L ∧ it f i c = y := by
  obtain ⟨i, rfl⟩ := hy
  refine ⟨i % L, Nat.mod_lt _ h.pos, ?_⟩
  have e := Nat.mod_add_div i L
  conv => rhs; rw [← e, it_add, Nat.mul_comm, it_mul h.back]
theorem it_inj {N : Nat} {f : Nat → Nat} (hf : Pm N f) {c L : Nat} (hc : c < N) (h : IsClen f c L) {i j : Nat} (hi : i < L) (hj : j < L) (e : it f i c = it f j c) : i = j := by
  have key : ∀ i j, i < j → j < L → it f i c ≠ it f j c := fun i j hij hj e => by
    rw [show j = i + (j - i) by omega, it_add] at e
    exact h.least (j - i) (by omega) (by omega) (it_cancel hf hc (it_lt hf hc _) _ e).symm
  rcases Nat.lt_trichotomy i j with h3 | h3 | h3
  · exact absurd e (key i j h3 hj)
  · exact h3
  · exact absurd e.symm (key j i h3 hi)
theorem inO_refl (f : Nat → Nat) (c : Nat) : inO f c c := ⟨0, rfl⟩
theorem inO_trans {f : Nat → Nat} {c d e : Nat} (h : inO f c d) (g : inO f d e) : inO f c e := by
  obtain ⟨i, rfl⟩ := h
  obtain ⟨j, rfl⟩ := g
  exact ⟨j + i, it_add f c j i⟩
theorem inO_symm {N : Nat} {f : Nat → Nat} (hf : Pm N f) {c d : Nat} (hc : c < N) (h : inO f c d) : inO f d c := by
  obtain ⟨i, hi, rfl⟩ := inO_lt (clen_is hf hc).1 h
  exact ⟨clen f c - i, by rw [← it_add, show clen f c - i + i = clen f c by omega]; exact (clen_is hf hc).1.back⟩
/-- All of a cycle have its length. -/
theorem clen_inO {N : Nat} {f : Nat → Nat} (hf : Pm N f) {c d : Nat} (hc : c < N) (h : inO f c d) : clen f d = clen f c := by
  obtain ⟨i, rfl⟩ := h
  have h1 := (clen_is hf hc).1
  refine (clen_is hf (it_lt hf hc i)).1.uniq ⟨h1.pos, ?_, fun k hk1 hk2 e => ?_⟩
  · rw [← it_add, Nat.add_comm, it_add, h1.back]
  · rw [← it_add, Nat.add_comm, it_add] at e
    exact h1.least k hk1 hk2 (it_cancel hf (it_lt hf hc k) hc i e)
theorem inO_val {N : Nat} {f : Nat → Nat} (hf : Pm N f) {c d : Nat} (hc : c < N) (h : inO f c d) : d < N := by
  obtain ⟨i, rfl⟩ := h
  exact it_lt hf hc i
open Classical in
/-- A cycle has as many numbers as it is long. -/
theorem cn_cycle {N : Nat} {f : Nat → Nat} (hf : Pm N f) {c : Nat} (hc : c < N) : cn N (fun y => decide (inO f c y)) = clen f c := by
  have h1 := (clen_is hf hc).1
  have h := cn_inj (N := N) (e := fun i => it f i c) (b := fun _ => true) (k := clen f c) (fun i _ => it_lt hf hc i) fun i j hi hj e => it_inj hf hc h1 hi hj e
  have hk : ∀ k, cn k (fun _ => true) = k := fun k => by induction k with | zero => rfl | succ k ih => unfold cn; rw [ih]; rfl
  rw [hk] at h
  conv => rhs; rw [← h]
  refine cn_congr fun v _ => decide_eq_decide.2 ⟨fun hv => ?_, fun ⟨y, _, hy, _⟩ => ⟨y, hy⟩⟩
  obtain ⟨i, hi, e⟩ := inO_lt h1 hv
  exact ⟨i, hi, e, rfl⟩

/-! ### The lengths of all cycles -/
/-- Whether y is in a cycle with a number less than k. -/
def metC (f : Nat → Nat) (k y : Nat) : Prop := ∃ c, c < k ∧ inO f c y
open Classical in
/-- The lengths of the cycles, by their least numbers. -/
noncomputable def lens (f : Nat → Nat) : Nat → List Nat
  | 0 => []
  | k + 1 => if metC f k k then lens f k else lens f k ++ [clen f k]
open Classical in
theorem lens_count {N : Nat} {f : Nat → Nat} (hf : Pm N f) (n : Nat) : ∀ k, k ≤ N → n * (lens f k).count n = cn N (fun y => decide (metC f k y) && (clen f y == n))
  | 0, _ => by
    rw [cn_none]
    · simp [lens]
    · intro i _
      rw [decide_eq_false (fun ⟨c, h, _⟩ => by omega)]; rfl
  | k + 1, hk => by
    have ih := lens_count hf n k (by omega)
    unfold lens
    by_cases hm : metC f k k
    · rw [if_pos hm, ih]
      refine cn_congr fun y _ => ?_
      congr 1
      refine decide_eq_decide.2 ⟨fun ⟨c, hc, h⟩ => ⟨c, by omega, h⟩, fun ⟨c, hc, h⟩ => ?_⟩
      rcases Nat.lt_or_ge c k with h3 | h3
      · exact ⟨c, h3, h⟩
      · obtain rfl : c = k := by omega
        obtain ⟨d, hd, hdc⟩ := hm
        exact ⟨d, hd, inO_trans hdc h⟩
    · rw [if_neg hm, List.count_append, Nat.mul_add, ih]
      have hkN : k < N := by omega
      have h2 : n * List.count n [clen f k] = cn N (fun y => decide (inO f k y) && (clen f y == n)) := by
        by_cases e : clen f k = n
        · rw [e, List.count_singleton_self, Nat.mul_one]
          conv => lhs; rw [← e, ← cn_cycle hf hkN]
          refine cn_congr fun y _ => ?_
          by_cases ho : inO f k y
          · rw [decide_eq_true ho, clen_inO hf hkN ho, e]; simp
          · rw [decide_eq_false ho]; rfl
        · rw [cn_none, List.count_eq_zero.2 (by simp; exact fun h => e h.symm), Nat.mul_zero]
          intro y _
          by_cases ho : inO f k y
          · rw [decide_eq_true ho, clen_inO hf hkN ho, beq_eq_false_iff_ne.2 e]; rfl
          · rw [decide_eq_false ho]; rfl
      rw [h2, ← cn_add]
      · refine cn_congr fun y _ => ?_
        rw [← Bool.and_or_distrib_right]
        congr 1
        by_cases h1 : metC f k y
        · rw [decide_eq_true h1, decide_eq_true (show metC f (k + 1) y from let ⟨c, hc, h⟩ := h1; ⟨c, by omega, h⟩)]; rfl
        · rw [decide_eq_false h1, Bool.false_or]
          refine decide_eq_decide.2 ⟨fun h => ⟨k, by omega, h⟩, fun ⟨c, hc, h⟩ => ?_⟩
          rcases Nat.lt_or_ge c k with h3 | h3
          · exact absurd ⟨c, h3, h⟩ h1
          · obtain rfl : c = k := by omega
            exact h
      · intro y hy h
        simp only [Bool.and_eq_true, decide_eq_true_eq] at h
        obtain ⟨⟨c, hc, hcy⟩, _⟩ := h
        rw [decide_eq_false fun h2 => hm ⟨c, hc, inO_trans hcy (inO_symm hf hkN h2)⟩]; rfl
/-- How often a length is met. -/
theorem lens_all {N : Nat} {f : Nat → Nat} (hf : Pm N f) (n : Nat) : n * (lens f N).count n = cn N (fun y => clen f y == n) := by
  classical
  rw [lens_count hf n N (Nat.le_refl _)]
  refine cn_congr fun y hy => ?_
  rw [decide_eq_true (show metC f N y from ⟨y, hy, inO_refl f y⟩)]; rfl
theorem lens_pos {N : Nat} {f : Nat → Nat} (hf : Pm N f) : ∀ k, k ≤ N → ∀ x ∈ lens f k, 1 ≤ x ∧ x ≤ N
  | 0, _, x, h => by simp [lens] at h
  | k + 1, hk, x, h => by
    unfold lens at h
    have hi := clen_is hf (show k < N by omega)
    split at h
    · exact lens_pos hf k (by omega) x h
    · rcases List.mem_append.1 h with h | h
      · exact lens_pos hf k (by omega) x h
      · obtain rfl := List.mem_singleton.1 h
        exact ⟨hi.1.pos, hi.2⟩
theorem lens_len (f : Nat → Nat) : ∀ k, (lens f k).length ≤ k
  | 0 => by simp [lens]
  | k + 1 => by
    unfold lens
    have := lens_len f k
    split
    · omega
    · rw [List.length_append, List.length_singleton]; omega
/-- Conjugates have the same lengths, each as often. -/
theorem lens_conj {N : Nat} {f p g : Nat → Nat} (hf : Pm N f) (hp : Pm N p) (hg : Pm N g) (h : ∀ y, y < N → p (g y) = g (f y)) (n : Nat) : (lens f N).count n = (lens p N).count n := by
  have hit : ∀ y, y < N → ∀ i, it p i (g y) = g (it f i y) := fun y hy i => by
    induction i with
    | zero => rfl
    | succ i ih => show p _ = g (f _); rw [ih, h _ (it_lt hf hy i)]
  have hcl : ∀ y, y < N → clen p (g y) = clen f y := fun y hy => by
    have h1 := (clen_is hf hy).1
    refine (clen_is hp (hg.lt y hy)).1.uniq ⟨h1.pos, by rw [hit y hy, h1.back], fun k hk1 hk2 e => ?_⟩
    rw [hit y hy] at e
    exact h1.least k hk1 hk2 (hg.inj _ _ (it_lt hf hy k) hy e)
  have e : cn N (fun y => clen f y == n) = cn N (fun y => clen p y == n) := by
    rw [← cn_pm hg fun y => clen p y == n]
    exact cn_congr fun y hy => by rw [hcl y hy]
  rcases Nat.eq_zero_or_pos n with h0 | h0
  · subst h0
    rw [List.count_eq_zero.2 fun hx => by have := lens_pos hf N (Nat.le_refl _) 0 hx; omega, List.count_eq_zero.2 fun hx => by have := lens_pos hp N (Nat.le_refl _) 0 hx; omega]
  · have h1 := lens_all hf n
    rw [e, ← lens_all hp n] at h1
    exact Nat.eq_of_mul_eq_mul_left h0 h1
end Go.Proofs.YteonahoboligdaaDoor

/-! ### Sorted lists -/
namespace Go.Proofs.YteonahoboligdaaDoor
set_option linter.unusedSimpArgs false
set_option linter.unusedVariables false
/-- How often each of 1 .. m is met, as a list. -/
def ctL (cnt : Nat → Nat) : Nat → List Nat
  | 0 => []
  | m + 1 => ctL cnt m ++ List.replicate (cnt (m + 1)) (m + 1)
theorem ctL_mem {cnt : Nat → Nat} : ∀ {m x : Nat}, x ∈ ctL cnt m → 1 ≤ x ∧ x ≤ m
  | 0, x, h => by simp [ctL] at h
  | m + 1, x, h => by
    unfold ctL at h
    rcases List.mem_append.1 h with h | h
    · have := ctL_mem h; omega
    · have := (List.mem_replicate.1 h).2; omega
theorem ctL_count {cnt : Nat → Nat} {n : Nat} : ∀ {m : Nat}, (ctL cnt m).count n = if 1 ≤ n ∧ n ≤ m then cnt n else 0
  | 0 => by rw [if_neg (show ¬ (1 ≤ n ∧ n ≤ 0) by omega)]; simp [ctL]
  | m + 1 => by
    unfold ctL
    rw [List.count_append, ctL_count, List.count_replicate]
    by_cases e : m + 1 = n
    · subst e
      rw [if_neg (show ¬ (1 ≤ m + 1 ∧ m + 1 ≤ m) by omega), if_pos (show 1 ≤ m + 1 ∧ m + 1 ≤ m + 1 by omega)]; simp
    · have : (m + 1 == n) = false := beq_eq_false_iff_ne.2 e
      rw [this]
      by_cases h : 1 ≤ n ∧ n ≤ m
      · rw [if_pos h, if_pos (show 1 ≤ n ∧ n ≤ m + 1 by omega)]; rfl
      · rw [if_neg h, if_neg (show ¬ (1 ≤ n ∧ n ≤ m + 1) by omega)]; rfl
theorem ctL_sorted {cnt : Nat → Nat} : ∀ m, (ctL cnt m).Pairwise (· ≤ ·)
  | 0 => by simp [ctL]
  | m + 1 => by
    unfold ctL
    refine List.pairwise_append.2 ⟨ctL_sorted m, List.pairwise_replicate.2 (.inr (Nat.le_refl _)), fun a ha b hb => ?_⟩
    have := ctL_mem ha
    have := (List.mem_replicate.1 hb).2
    omega
/-- Two sorted lists that have each number as often are the same. -/
theorem sorted_eq {l k : List Nat} (hl : l.Pairwise (· ≤ ·)) (hk : k.Pairwise (· ≤ ·)) (h : ∀ n, l.count n = k.count n) : l = k :=
  List.Perm.eq_of_pairwise (le := (· ≤ ·)) (fun _ _ _ _ h1 h2 => Nat.le_antisymm h1 h2) hl hk (List.perm_iff_count.2 h)
/-- A sorted list with the lengths of the cycles of f is the counted list of those of a conjugate p. -/
theorem lens_sorted {N : Nat} {f p g : Nat → Nat} (hN : N ≤ 10) (hf : Pm N f) (hp : Pm N p) (hg : Pm N g) (h : ∀ y, y < N → p (g y) = g (f y)) {l : List Nat} (hl : l.Pairwise (· ≤ ·)) (hc : ∀ n, l.count n = (lens f N).count n) : l = ctL (fun n => (lens p N).count n) 10 := by
  refine sorted_eq hl (ctL_sorted 10) fun n => ?_
  rw [hc, lens_conj hf hp hg h, ctL_count]
  by_cases hn : 1 ≤ n ∧ n ≤ 10
  · rw [if_pos hn]
  · rw [if_neg hn]
    exact List.count_eq_zero.2 fun hx => by have := lens_pos hp N (Nat.le_refl _) n hx; omega
end Go.Proofs.YteonahoboligdaaDoor
