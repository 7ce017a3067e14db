/- How the reference's search splits: plain laws. -/
import Derived.Test.YtjdfjlgjpjgnhaaM4
namespace Go.Proofs.Ytjdfjlgjpjgnhaa

/-- All products of what is led are led where they should be. -/
def Cl (N : Nat) (t u : Nat → Nat → Nat) (m : PM) : Prop := ∀ a b, a < N → b < N → 0 ≤ m.to a → 0 ≤ m.to b → Cons t u m a b

theorem abs_some {m : PM} {x y : Nat} : m.abs x = some y ↔ m.to x = y := by
  unfold PM.abs
  by_cases h : m.to x < 0
  · rw [if_pos h]; constructor
    · intro h'; cases h'
    · intro h'; omega
  · rw [if_neg h, Option.some.injEq]; omega
theorem abs_none {m : PM} {x : Nat} : m.abs x = none ↔ m.to x < 0 := by
  unfold PM.abs
  by_cases h : m.to x < 0
  · simp [h]
  · simp [h]

theorem hom_of {N : Nat} {t u : Nat → Nat → Nat} {m : PM} {p : List Nat} (hi : IsIso N t u p) (he : ∀ z, z < N → 0 ≤ m.to z → (p.getD z 0 : Int) = m.to z) : Hom N t u m (fun i => p.getD i 0) :=
  ⟨fun a b ha hb => hi.hom a b ha hb, fun a b ha hb h => hi.inj a b ha hb h, he⟩
theorem ext_has {N : Nat} {m : PM} {p : List Nat} (he : Ext N m.abs p) : ∀ z, z < N → 0 ≤ m.to z → (p.getD z 0 : Int) = m.to z := fun z hz h0 => by
  have := he z (m.to z).toNat hz (abs_some.2 (by omega))
  omega
theorem has_ext {N : Nat} {m : PM} {p : List Nat} (h : ∀ z, z < N → 0 ≤ m.to z → (p.getD z 0 : Int) = m.to z) : Ext N m.abs p := fun z y hz hy => by
  have h1 := abs_some.1 hy
  have := h z hz (by omega)
  omega
theorem ext_upd {N : Nat} {m : PM} {p : List Nat} {x y : Nat} (hx : x < N) (hx0 : m.to x < 0) : Ext N (upd m.abs x y) p ↔ Ext N m.abs p ∧ p.getD x 0 = y := by
  constructor
  · intro h
    refine ⟨fun z v hz hv => h z v hz ?_, h x y hx (by simp [upd])⟩
    unfold upd
    rw [if_neg (fun e => by subst e; rw [abs_none.2 hx0] at hv; cases hv)]
    exact hv
  · rintro ⟨h1, h2⟩ z v hz hv
    unfold upd at hv
    split at hv
    · rename_i e; subst e; rw [← Option.some.inj hv]; exact h2
    · exact h1 z v hz hv

/-- A place that is used leads to no isomorphism. -/
theorem isos_used {N : Nat} {t u : Nat → Nat → Nat} {m : PM} (hv : Va N m) {x y : Nat} (hx : x < N) (hy : y < N) (hx0 : m.to x < 0) (hu : 0 < m.used y) : isos N t u (upd m.abs x y) = [] := by
  refine isos_nil fun p _ _ hi he => ?_
  obtain ⟨h1, h2⟩ := (ext_upd hx hx0).1 he
  obtain ⟨z, hz, hzy⟩ := (hv.used y hy).1 hu
  have := ext_has h1 z hz (by omega)
  have e := hi.inj z x hz hx (by omega)
  subst e; omega
theorem isos_closed {N : Nat} {t u : Nat → Nat → Nat} {m : PM} {x y : Nat} {R : PM × Bool} (hx : x < N) (hx0 : m.to x < 0) (hC : Closes N t u m x y R) (h2 : R.2 = true) :
    isos N t u (upd m.abs x y) = isos N t u R.1.abs := by
  refine isos_congr fun p _ _ hi => ?_
  rw [ext_upd hx hx0]
  constructor
  · rintro ⟨h1, h3⟩
    exact has_ext (hC.forced _ (hom_of hi (ext_has h1)) h3).2.has
  · intro he
    have hh := ext_has he
    refine ⟨has_ext fun z hz h0 => ?_, ?_⟩
    · have := hC.sub h2 z hz h0
      rw [hh z hz (by omega), this]
    · have := hC.at_ h2
      have := hh x hx (by omega)
      omega
theorem isos_failed {N : Nat} {t u : Nat → Nat → Nat} {m : PM} {x y : Nat} {R : PM × Bool} (hx : x < N) (hx0 : m.to x < 0) (hC : Closes N t u m x y R) (h2 : R.2 = false) :
    isos N t u (upd m.abs x y) = [] := by
  refine isos_nil fun p _ _ hi he => ?_
  obtain ⟨h1, h3⟩ := (ext_upd hx hx0).1 he
  have := (hC.forced _ (hom_of hi (ext_has h1)) h3).1
  rw [h2] at this; cases this
theorem closed_cl {N : Nat} {t u : Nat → Nat → Nat} {m : PM} {x y : Nat} {R : PM × Bool} (ht : ∀ a b, a < N → b < N → t a b < N) (hm : Cl N t u m) (hC : Closes N t u m x y R) (h2 : R.2 = true) : Cl N t u R.1 := by
  intro a b ha hb ha0 hb0
  by_cases h1 : m.to a < 0
  · exact (hC.new h2 a b ha hb h1 ha0 hb0).1
  · by_cases h3 : m.to b < 0
    · exact (hC.new h2 b a hb ha h3 hb0 ha0).2
    · exact (hm a b ha hb (by omega) (by omega)).sub (hC.sub h2) (ht _ _ ha hb) ha hb (by omega) (by omega)
theorem closed_um {N : Nat} {t u : Nat → Nat → Nat} {m : PM} {x y : Nat} {R : PM × Bool} (hx : x < N) (hx0 : m.to x < 0) (hC : Closes N t u m x y R) (h2 : R.2 = true) : um R.1.to N < um m.to N := by
  have h := um_add (f := m.to) (x := x) (y := (y : Int)) hx0 (by omega) N
  rw [if_pos hx] at h
  have := um_mono (f := fun i => if i = x then (y : Int) else m.to i) (g := R.1.to) N fun z hz h0 => by
    by_cases e : z = x
    · subst e; have := hC.at_ h2; omega
    · rw [if_neg e] at h0
      have := hC.sub h2 z hz h0; omega
  omega
theorem isos_full {N : Nat} {t u : Nat → Nat → Nat} {m : PM} (ht : ∀ a b, a < N → b < N → t a b < N) (hv : Va N m) (hc : Cl N t u m) (h0 : um m.to N = 0) : isos N t u m.abs = [wordOf N m.abs] := by
  have hall := um_zero h0
  refine isos_total (fun i hi => ⟨(m.to i).toNat, abs_some.2 (by have := hall i hi; omega), by have := hv.lt i hi; have := hall i hi; omega⟩) ht (fun x y a b hx hy ha hb => ?_) (fun x y a hx hy ha hb => ?_)
  · have h1 := abs_some.1 ha
    have h2 := abs_some.1 hb
    have := hc x y hx hy (by omega) (by omega)
    unfold Cons at this
    rw [h1, h2] at this
    exact abs_some.2 (by simpa using this)
  · have h1 := abs_some.1 ha
    have h2 := abs_some.1 hb
    exact hv.inj x y hx hy (by omega) (by omega)
theorem isos_first {N : Nat} {t u : Nat → Nat → Nat} {m : PM} {x : Nat} (hx : x < N) (hm : ∀ i, i < x → 0 ≤ m.to i) (hx0 : m.to x < 0) : isos N t u m.abs = (List.range N).flatMap fun y => isos N t u (upd m.abs x y) :=
  isos_split hx (fun i hi h => by have := abs_none.1 h; have := hm i hi; omega) (abs_none.2 hx0)
theorem take_grow {α : Type} {A B : List α} {n : Nat} (h : (A.take n).length = n) : (A ++ B).take n = A.take n := by
  rw [List.take_append, show n - A.length = 0 by rw [List.length_take] at h; omega, List.take_zero, List.append_nil]
theorem take_step {α : Type} (A B : List α) (n : Nat) : (A.take n ++ B).take n = (A ++ B).take n := by
  rw [List.take_append, List.take_take, Nat.min_self, List.take_append, List.length_take]
  by_cases h : A.length ≤ n
  · rw [Nat.min_eq_right h]
  · rw [Nat.min_eq_left (by omega), Nat.sub_self, show n - A.length = 0 by omega]
/-- The part that has nothing is a part. -/
theorem zero_va (N : Nat) : Va N ⟨fun _ => -1, fun _ => 0, 0⟩ where
  lt x hx := by show (-1 : Int) < _; omega
  inj x y _ _ h _ := by have h' : (0 : Int) ≤ -1 := h; omega
  used v _ := ⟨fun h => by have h' : (0 : Int) < 0 := h; omega, fun ⟨x, _, h⟩ => by have : (-1 : Int) = v := h; omega⟩
  size := by
    have : ∀ k, um (fun _ => -1) k = k := fun k => by
      induction k with
      | zero => rfl
      | succ k ih => simp [um, ih]
    show (0 : Int) = N - (um (fun _ => -1) N : Nat)
    rw [this]; omega
theorem zero_cl (N : Nat) (t u : Nat → Nat → Nat) : Cl N t u ⟨fun _ => -1, fun _ => 0, 0⟩ := fun a b _ _ h _ => by have h' : (0 : Int) ≤ -1 := h; omega
theorem zero_abs : PM.abs ⟨fun _ => -1, fun _ => 0, 0⟩ = fun _ => none := rfl
end Go.Proofs.Ytjdfjlgjpjgnhaa
