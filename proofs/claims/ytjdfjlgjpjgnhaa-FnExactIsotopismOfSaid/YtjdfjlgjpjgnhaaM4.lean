/- The reference's closing of a part of an isomorphism, as a plain function, and what it gives. -/
import Derived.Test.YtjdfjlgjpjgnhaaM3
namespace Go.Proofs.Ytjdfjlgjpjgnhaa

/-- A part of a map: where each element is led (less than 0: nowhere), what is used, how many there are. -/
structure PM where
  to : Nat → Int
  used : Nat → Int
  size : Int
def PM.add (m : PM) (x y : Nat) : PM := { to := fun i => if i = x then (y : Int) else m.to i, used := fun i => if i = y then 1 else m.used i, size := m.size + 1 }
/-- The part as a partial map. -/
def PM.abs (m : PM) : Nat → Option Nat := fun x => if m.to x < 0 then none else some (m.to x).toNat

/-- How many of the first k elements are led nowhere. -/
def um (f : Nat → Int) : Nat → Nat
  | 0 => 0
  | k + 1 => um f k + if f k < 0 then 1 else 0
theorem um_mono {f g : Nat → Int} : ∀ k, (∀ z, z < k → 0 ≤ f z → 0 ≤ g z) → um g k ≤ um f k
  | 0, _ => Nat.le_refl _
  | k + 1, h => by
    have ih := um_mono k fun z hz => h z (by omega)
    have := h k (by omega)
    simp only [um]
    split <;> split <;> omega
theorem um_add {f : Nat → Int} {x : Nat} {y : Int} (hx : f x < 0) (hy : 0 ≤ y) : ∀ k, um (fun i => if i = x then y else f i) k + (if x < k then 1 else 0) = um f k
  | 0 => rfl
  | k + 1 => by
    have ih := um_add hx hy k
    simp only [um]
    by_cases e : k = x
    · subst e
      simp only [if_true, if_pos hx, Nat.lt_irrefl, if_false, Nat.lt_add_one] at ih ⊢
      rw [if_neg (by omega)]
      omega
    · simp only [e, if_false]
      split at ih <;> split <;> split <;> omega
theorem um_zero {f : Nat → Int} : ∀ {k : Nat}, um f k = 0 → ∀ z, z < k → 0 ≤ f z
  | 0, _, _, h => absurd h (by omega)
  | k + 1, h, z, hz => by
    simp only [um] at h
    by_cases e : z = k
    · subst e
      by_cases hf : f z < 0
      · rw [if_pos hf] at h; omega
      · omega
    · exact um_zero (k := k) (by omega) z (by omega)
theorem um_pos {f : Nat → Int} : ∀ {k : Nat}, um f k ≠ 0 → ∃ z, z < k ∧ f z < 0 ∧ ∀ i, i < z → 0 ≤ f i
  | 0, h => absurd rfl h
  | k + 1, h => by
    by_cases h0 : um f k = 0
    · simp only [um, h0] at h
      refine ⟨k, by omega, ?_, um_zero h0⟩
      by_cases hf : f k < 0
      · exact hf
      · rw [if_neg hf] at h; exact absurd rfl h
    · obtain ⟨z, h1, h2⟩ := um_pos (k := k) h0
      exact ⟨z, by omega, h2⟩
theorem um_le (f : Nat → Int) : ∀ k, um f k ≤ k
  | 0 => Nat.le_refl _
  | k + 1 => by have := um_le f k; simp only [um]; split <;> omega

structure Va (N : Nat) (m : PM) : Prop where
  lt : ∀ x, x < N → m.to x < N
  inj : ∀ x y, x < N → y < N → 0 ≤ m.to x → m.to x = m.to y → x = y
  used : ∀ v : Nat, v < N → (0 < m.used v ↔ ∃ x, x < N ∧ m.to x = v)
  size : m.size = (N : Int) - um m.to N
theorem Va.add {N : Nat} {m : PM} (h : Va N m) {x y : Nat} (hx : x < N) (hy : y < N) (hx0 : m.to x < 0) (hy0 : ¬ 0 < m.used y) : Va N (m.add x y) where
  lt z hz := by
    unfold PM.add; dsimp only
    split
    · omega
    · exact h.lt z hz
  inj a b ha hb h0 he := by
    unfold PM.add at h0 he; dsimp only at h0 he
    have hn : ∀ z, z < N → m.to z ≠ y := fun z hz e => hy0 ((h.used y hy).2 ⟨z, hz, e⟩)
    split at he <;> split at he
    · omega
    · rename_i h1 h2; exact absurd he.symm (hn b hb)
    · rename_i h1 h2; exact absurd he (hn a ha)
    · rename_i h1 h2; rw [if_neg h1] at h0; exact h.inj a b ha hb h0 he
  used v hv := by
    unfold PM.add; dsimp only
    by_cases e : v = y
    · subst e
      rw [if_pos rfl]
      exact ⟨fun _ => ⟨x, hx, by rw [if_pos rfl]⟩, fun _ => by omega⟩
    · rw [if_neg e, h.used v hv]
      constructor
      · rintro ⟨z, hz, hzv⟩
        refine ⟨z, hz, ?_⟩
        rw [if_neg (fun e' => by subst e'; omega)]; exact hzv
      · rintro ⟨z, hz, hzv⟩
        split at hzv
        · exact absurd hzv (by omega)
        · exact ⟨z, hz, hzv⟩
  size := by
    have := um_add (f := m.to) (x := x) (y := (y : Int)) hx0 (by omega) N
    rw [if_pos hx] at this
    show m.size + 1 = _
    rw [h.size]
    show _ = (N : Int) - (um (fun i => if i = x then (y : Int) else m.to i) N : Nat)
    omega

/-- m' has what m has. -/
def Sub (N : Nat) (m m' : PM) : Prop := ∀ z, z < N → 0 ≤ m.to z → m'.to z = m.to z
theorem Sub.refl (N : Nat) (m : PM) : Sub N m m := fun _ _ _ => rfl
theorem Sub.trans {N : Nat} {a b c : PM} (h : Sub N a b) (k : Sub N b c) : Sub N a c := fun z hz h0 => by
  have := h z hz h0
  rw [k z hz (by omega), this]
/-- The product of a and b is led where it should be. -/
def Cons (t u : Nat → Nat → Nat) (m : PM) (a b : Nat) : Prop := m.to (t a b) = (u (m.to a).toNat (m.to b).toNat : Int)
theorem Cons.sub {N : Nat} {t u : Nat → Nat → Nat} {m m' : PM} {a b : Nat} (h : Cons t u m a b) (hs : Sub N m m') (ht : t a b < N) (ha : a < N) (hb : b < N) (ha0 : 0 ≤ m.to a) (hb0 : 0 ≤ m.to b) : Cons t u m' a b := by
  unfold Cons at *
  rw [hs _ ht (by omega), hs _ ha ha0, hs _ hb hb0]
  exact h
/-- A homomorphism that leads no two to one and has what m has. -/
structure Hom (N : Nat) (t u : Nat → Nat → Nat) (m : PM) (P : Nat → Nat) : Prop where
  hom : ∀ a b, a < N → b < N → P (t a b) = u (P a) (P b)
  inj : ∀ a b, a < N → b < N → P a = P b → a = b
  has : ∀ z, z < N → 0 ≤ m.to z → (P z : Int) = m.to z

def closeL (f : PM → Nat → Nat → PM × Bool) (t u : Nat → Nat → Nat) (x y : Nat) : Nat → Nat → PM → PM × Bool
  | 0, _, m => (m, true)
  | r + 1, a, m =>
    if m.to a < 0 then closeL f t u x y r (a + 1) m else
    if (f m (t x a) (u y (m.to a).toNat)).2 = false then ((f m (t x a) (u y (m.to a).toNat)).1, false) else
    if (f (f m (t x a) (u y (m.to a).toNat)).1 (t a x) (u (m.to a).toNat y)).2 = false then ((f (f m (t x a) (u y (m.to a).toNat)).1 (t a x) (u (m.to a).toNat y)).1, false) else
    closeL f t u x y r (a + 1) (f (f m (t x a) (u y (m.to a).toNat)).1 (t a x) (u (m.to a).toNat y)).1
def closeF (N : Nat) (t u : Nat → Nat → Nat) : Nat → PM → Nat → Nat → PM × Bool
  | 0, m, _, _ => (m, false)
  | K + 1, m, x, y => if 0 ≤ m.to x ∨ 0 < m.used y then (m, decide (m.to x = y)) else closeL (closeF N t u K) t u x y N 0 (m.add x y)

/-- What closing gives. -/
structure Closes (N : Nat) (t u : Nat → Nat → Nat) (m : PM) (x y : Nat) (r : PM × Bool) : Prop where
  va : r.2 = true → Va N r.1
  sub : r.2 = true → Sub N m r.1
  at_ : r.2 = true → r.1.to x = y
  new : r.2 = true → ∀ z c, z < N → c < N → m.to z < 0 → 0 ≤ r.1.to z → 0 ≤ r.1.to c → Cons t u r.1 z c ∧ Cons t u r.1 c z
  forced : ∀ P, Hom N t u m P → P x = y → r.2 = true ∧ Hom N t u r.1 P

theorem closeL_closes {N K : Nat} {t u : Nat → Nat → Nat} {x y : Nat} (hx : x < N) (hy : y < N) (ht : ∀ a b, a < N → b < N → t a b < N) (hu : ∀ a b, a < N → b < N → u a b < N) (f : PM → Nat → Nat → PM × Bool)
    (hf : ∀ m x y, Va N m → x < N → y < N → um m.to N < K → Closes N t u m x y (f m x y)) (m1 : PM) (hm1 : um m1.to N < K) (hx1 : m1.to x = y) :
    ∀ (r a : Nat) (m : PM), a + r = N → Va N m → Sub N m1 m →
      (∀ z c, z < N → c < N → m1.to z < 0 → 0 ≤ m.to z → 0 ≤ m.to c → Cons t u m z c ∧ Cons t u m c z) →
      (∀ c, c < N → 0 ≤ m.to c → (c < a ∨ m1.to c < 0) → Cons t u m x c ∧ Cons t u m c x) →
      let R := closeL f t u x y r a m
      (R.2 = true → Va N R.1 ∧ Sub N m R.1 ∧ (∀ z c, z < N → c < N → m1.to z < 0 → 0 ≤ R.1.to z → 0 ≤ R.1.to c → Cons t u R.1 z c ∧ Cons t u R.1 c z) ∧ (∀ c, c < N → 0 ≤ R.1.to c → Cons t u R.1 x c ∧ Cons t u R.1 c x)) ∧
      (∀ P, Hom N t u m P → R.2 = true ∧ Hom N t u R.1 P)
  | 0, a, m, ha, hv, hs, hnew, hX => by
    refine ⟨fun _ => ⟨hv, Sub.refl _ _, hnew, fun c hc h0 => hX c hc h0 (.inl (by omega))⟩, fun P hP => ⟨rfl, hP⟩⟩
  | r + 1, a, m, ha, hv, hs, hnew, hX => by
    have haN : a < N := by omega
    have hmx : m.to x = y := by rw [hs x hx (by omega), hx1]
    simp only [closeL]
    by_cases h0 : m.to a < 0
    · rw [if_pos h0]
      exact closeL_closes hx hy ht hu f hf m1 hm1 hx1 r (a + 1) m (by omega) hv hs hnew fun c hc hc0 hca => hX c hc hc0 (by
        rcases hca with h | h
        · by_cases e : c = a
          · subst e; omega
          · exact .inl (by omega)
        · exact .inr h)
    · rw [if_neg h0]
      have hma : (m.to a).toNat < N := by have := hv.lt a haN; omega
      have humm : um m.to N < K := Nat.lt_of_le_of_lt (um_mono N fun z hz h => by rw [hs z hz h]; exact h) hm1
      have C1 := hf m (t x a) (u y (m.to a).toNat) hv (ht x a hx haN) (hu _ _ hy hma) humm
      generalize f m (t x a) (u y (m.to a).toNat) = R1 at C1 ⊢
      have hP1 : ∀ P, Hom N t u m P → R1.2 = true ∧ Hom N t u R1.1 P := fun P hP => C1.forced P hP (by
        have e1 := hP.has x hx (by omega)
        have e2 := hP.has a haN (by omega)
        rw [hP.hom x a hx haN, show P x = y by omega, show P a = (m.to a).toNat by omega])
      by_cases k1 : R1.2 = false
      · rw [if_pos k1]
        exact ⟨fun h => (by cases h), fun P hP => by have := (hP1 P hP).1; rw [k1] at this; cases this⟩
      · have k1' : R1.2 = true := by simpa using k1
        rw [if_neg k1]
        have v1 := C1.va k1'
        have s1 := C1.sub k1'
        have hR1x : R1.1.to x = y := by rw [s1 x hx (by omega), hmx]
        have hR1a : R1.1.to a = m.to a := s1 a haN (by omega)
        have hc1 : Cons t u R1.1 x a := by
          unfold Cons
          rw [C1.at_ k1', hR1x, hR1a]; simp
        have new1 : ∀ z c, z < N → c < N → m1.to z < 0 → 0 ≤ R1.1.to z → 0 ≤ R1.1.to c → Cons t u R1.1 z c ∧ Cons t u R1.1 c z := by
          intro z c hz hc hz1 hzR hcR
          by_cases hzm : m.to z < 0
          · exact C1.new k1' z c hz hc hzm hzR hcR
          · by_cases hcm : m.to c < 0
            · exact (C1.new k1' c z hc hz hcm hcR hzR).symm
            · have := hnew z c hz hc hz1 (by omega) (by omega)
              exact ⟨this.1.sub s1 (ht _ _ hz hc) hz hc (by omega) (by omega), this.2.sub s1 (ht _ _ hc hz) hc hz (by omega) (by omega)⟩
        have X1 : ∀ c, c < N → 0 ≤ R1.1.to c → (c < a ∨ m1.to c < 0) → Cons t u R1.1 x c ∧ Cons t u R1.1 c x := by
          intro c hc hcR hca
          by_cases hcm : m.to c < 0
          · exact (C1.new k1' c x hc hx hcm hcR (by omega)).symm
          · have := hX c hc (by omega) hca
            exact ⟨this.1.sub s1 (ht _ _ hx hc) hx hc (by omega) (by omega), this.2.sub s1 (ht _ _ hc hx) hc hx (by omega) (by omega)⟩
        have humR : um R1.1.to N < K := Nat.lt_of_le_of_lt (um_mono N fun z hz h => by rw [s1 z hz h]; exact h) humm
        have C2 := hf R1.1 (t a x) (u (m.to a).toNat y) v1 (ht a x haN hx) (hu _ _ hma hy) humR
        generalize f R1.1 (t a x) (u (m.to a).toNat y) = R2 at C2 ⊢
        have hP2 : ∀ P, Hom N t u m P → R2.2 = true ∧ Hom N t u R2.1 P := fun P hP => C2.forced P (hP1 P hP).2 (by
          have e1 := hP.has x hx (by omega)
          have e2 := hP.has a haN (by omega)
          rw [hP.hom a x haN hx, show P x = y by omega, show P a = (m.to a).toNat by omega])
        by_cases k2 : R2.2 = false
        · rw [if_pos k2]
          exact ⟨fun h => (by cases h), fun P hP => by have := (hP2 P hP).1; rw [k2] at this; cases this⟩
        · have k2' : R2.2 = true := by simpa using k2
          rw [if_neg k2]
          have v2 := C2.va k2'
          have s2 := C2.sub k2'
          have hR2x : R2.1.to x = y := by rw [s2 x hx (by omega), hR1x]
          have hR2a : R2.1.to a = m.to a := by rw [s2 a haN (by omega), hR1a]
          have hc2 : Cons t u R2.1 a x := by
            unfold Cons
            rw [C2.at_ k2', hR2x, hR2a]; simp
          have new2 : ∀ z c, z < N → c < N → m1.to z < 0 → 0 ≤ R2.1.to z → 0 ≤ R2.1.to c → Cons t u R2.1 z c ∧ Cons t u R2.1 c z := by
            intro z c hz hc hz1 hzR hcR
            by_cases hzm : R1.1.to z < 0
            · exact C2.new k2' z c hz hc hzm hzR hcR
            · by_cases hcm : R1.1.to c < 0
              · exact (C2.new k2' c z hc hz hcm hcR hzR).symm
              · have := new1 z c hz hc hz1 (by omega) (by omega)
                exact ⟨this.1.sub s2 (ht _ _ hz hc) hz hc (by omega) (by omega), this.2.sub s2 (ht _ _ hc hz) hc hz (by omega) (by omega)⟩
          have X2 : ∀ c, c < N → 0 ≤ R2.1.to c → (c < a + 1 ∨ m1.to c < 0) → Cons t u R2.1 x c ∧ Cons t u R2.1 c x := by
            intro c hc hcR hca
            by_cases hcm : R1.1.to c < 0
            · exact (C2.new k2' c x hc hx hcm hcR (by omega)).symm
            · by_cases e : c = a
              · subst e
                exact ⟨hc1.sub s2 (ht _ _ hx hc) hx hc (by omega) (by omega), hc2⟩
              · have := X1 c hc (by omega) (hca.imp_left fun h => by omega)
                exact ⟨this.1.sub s2 (ht _ _ hx hc) hx hc (by omega) (by omega), this.2.sub s2 (ht _ _ hc hx) hc hx (by omega) (by omega)⟩
          have hrec := closeL_closes hx hy ht hu f hf m1 hm1 hx1 r (a + 1) R2.1 (by omega) v2 ((hs.trans s1).trans s2) new2 X2
          refine ⟨fun h => ?_, fun P hP => hrec.2 P (hP2 P hP).2⟩
          obtain ⟨g1, g2, g3, g4⟩ := hrec.1 h
          exact ⟨g1, (s1.trans s2).trans g2, g3, g4⟩

theorem closeF_closes {N : Nat} {t u : Nat → Nat → Nat} (ht : ∀ a b, a < N → b < N → t a b < N) (hu : ∀ a b, a < N → b < N → u a b < N) :
    ∀ (K : Nat) (m : PM) (x y : Nat), Va N m → x < N → y < N → um m.to N < K → Closes N t u m x y (closeF N t u K m x y)
  | 0, _, _, _, _, _, _, h => absurd h (by omega)
  | K + 1, m, x, y, hv, hx, hy, hK => by
    simp only [closeF]
    by_cases h : 0 ≤ m.to x ∨ 0 < m.used y
    · rw [if_pos h]
      refine ⟨fun _ => hv, fun _ => Sub.refl _ _, fun h' => by simpa using h', fun _ z c hz hc h1 h2 => by dsimp only at h2; omega, fun P hP hPx => ⟨?_, hP⟩⟩
      simp only [decide_eq_true_eq]
      rcases h with h | h
      · rw [← hP.has x hx h, hPx]
      · obtain ⟨z, hz, hzy⟩ := (hv.used y hy).1 h
        have h1 := hP.has z hz (by omega)
        have : z = x := hP.inj z x hz hx (by omega)
        subst this; exact hzy
    · rw [if_neg h]
      have hx0 : m.to x < 0 := by omega
      have hy0 : ¬ 0 < m.used y := fun h' => h (.inr h')
      have va := hv.add hx hy hx0 hy0
      have hum : um (m.add x y).to N < K := by
        have := um_add (f := m.to) (x := x) (y := (y : Int)) hx0 (by omega) N
        rw [if_pos hx] at this
        show um (fun i => if i = x then (y : Int) else m.to i) N < K
        omega
      have hx1 : (m.add x y).to x = y := by simp [PM.add]
      have hsub : Sub N m (m.add x y) := fun z hz h0 => by simp only [PM.add]; rw [if_neg (fun e => by subst e; omega)]
      have hrec := closeL_closes hx hy ht hu (closeF N t u K) (fun m x y hv hx hy h => closeF_closes ht hu K m x y hv hx hy h) (m.add x y) hum hx1 N 0 (m.add x y) (by omega) va (Sub.refl _ _)
        (fun z c _ _ h1 h2 => by omega) (fun c hc h0 h1 => by omega)
      generalize closeL (closeF N t u K) t u x y N 0 (m.add x y) = R at hrec ⊢
      refine ⟨fun h => (hrec.1 h).1, fun h => hsub.trans (hrec.1 h).2.1, fun h => by rw [(hrec.1 h).2.1 x hx (by omega), hx1], fun h z c hz hc h1 h2 h3 => ?_, fun P hP hPx => hrec.2 P ⟨hP.hom, hP.inj, fun z hz h0 => ?_⟩⟩
      · obtain ⟨_, _, g3, g4⟩ := hrec.1 h
        by_cases e : z = x
        · subst e; exact g4 c hc h3
        · exact g3 z c hz hc (by simp only [PM.add]; rw [if_neg e]; exact h1) h2 h3
      · simp only [PM.add] at h0 ⊢
        split at h0
        · rename_i e; subst e; rw [if_pos rfl, hPx]
        · rename_i e; rw [if_neg e]; exact hP.has z hz h0
end Go.Proofs.Ytjdfjlgjpjgnhaa
