/- Terms as plain mathematics: which bytes are a term, its value at three elements, and the first place where two terms differ. -/
import Derived.Test.YteonahoboligdaaDoorM
namespace Go.Proofs.YteonahoboligdaaDoor
set_option linter.unusedSimpArgs false
set_option linter.unusedVariables false

/-! ### Which bytes are a term -/
def isLeafB (b : Nat) : Bool := b == 120 || b == 121 || b == 122 || b == 101
def isOpB (b : Nat) : Bool := b == 42 || b == 92 || b == 47
/-- How many values there are after one more byte. -/
def tmStep (b v : Nat) : Option Nat := if isLeafB b = true then some (v + 1) else if isOpB b = true ∧ 2 ≤ v then some (v - 1) else none
/-- How many values there are behind the bytes, if they are the beginning of a term. -/
def tmTo (f : Nat → Nat) : Nat → Option Nat
  | 0 => some 0
  | k + 1 => match tmTo f k with | some v => tmStep (f k) v | none => none
theorem tmTo_none {f : Nat → Nat} {k : Nat} (h : tmTo f k = none) : ∀ m, k ≤ m → tmTo f m = none := by
  intro m hm
  induction m with
  | zero => obtain rfl : k = 0 := by omega
            exact h
  | succ m ih =>
    by_cases e : k = m + 1
    · subst e; exact h
    · rw [tmTo, ih (by omega)]
theorem tmTo_le {f : Nat → Nat} : ∀ {k v : Nat}, tmTo f k = some v → v ≤ k
  | 0, v, h => by cases h; exact Nat.le_refl _
  | k + 1, v, h => by
    rw [tmTo] at h
    split at h
    · rename_i u hu
      have := tmTo_le hu
      simp only [tmStep] at h
      split at h
      · cases h; omega
      · split at h
        · cases h; omega
        · cases h
    · cases h
def isTm (f : Nat → Nat) (n : Nat) : Bool := decide (tmTo f n = some 1) && decide (n ≤ 40)
theorem isTm_iff {f : Nat → Nat} {n : Nat} : isTm f n = true ↔ tmTo f n = some 1 ∧ n ≤ 40 := by simp [isTm]
theorem isTm_none {f : Nat → Nat} {n k : Nat} (h : tmTo f k = none) (hk : k ≤ n) : isTm f n = false := by
  cases e : isTm f n with
  | false => rfl
  | true =>
    have h1 := (isTm_iff.1 e).1
    rw [tmTo_none h n hk] at h1; cases h1
/-- A beginning of a term is a beginning at each place. -/
theorem tmTo_some {f : Nat → Nat} {n v : Nat} (h : tmTo f n = some v) {k : Nat} (hk : k ≤ n) : ∃ u, tmTo f k = some u := by
  cases e : tmTo f k with
  | some u => exact ⟨u, rfl⟩
  | none => rw [tmTo_none e n hk] at h; cases h

/-! ### Quotients -/
open Classical in
/-- The y with t x y = z. -/
noncomputable def lq (t : Nat → Nat → Nat) (x z : Nat) : Nat := if h : ∃ y, t x y = z ∧ ∀ j, j < y → t x j ≠ z then h.choose else 0
theorem lq_at {t : Nat → Nat → Nat} {x y z : Nat} (h : t x y = z) (hm : ∀ j, j < y → t x j ≠ z) : lq t x z = y := by
  have hx : ∃ y, t x y = z ∧ ∀ j, j < y → t x j ≠ z := ⟨y, h, hm⟩
  rw [lq, dif_pos hx]
  have h2 := hx.choose_spec
  rcases Nat.lt_trichotomy hx.choose y with h3 | h3 | h3
  · exact absurd h2.1 (hm _ h3)
  · exact h3
  · exact absurd h (h2.2 _ h3)
/-- What the row of a square has at y is led back to y. -/
theorem lq_row {n : Int} {t : Nat → Nat → Nat} (hs : IsSq n t) {x y : Nat} (hx : (x : Int) < n) (hy : (y : Int) < n) : lq t x (t x y) = y :=
  lq_at rfl fun j hj => by
    have := hs.hi
    exact fun e => (hs.rows.row x (by omega) hx).inj y j (by omega) hj hy e.symm
theorem IsSq.turn {n : Int} {t : Nat → Nat → Nat} (hs : IsSq n t) : IsSq n (fun x y => t y x) := ⟨hs.lo, hs.hi, hs.cols, hs.rows⟩
/-- Each number is in each row. -/
theorem row_has {n : Int} {t : Nat → Nat → Nat} (hs : IsSq n t) {x z : Nat} (hx : (x : Int) < n) (hz : (z : Int) < n) : ∃ y : Nat, (y : Int) < n ∧ t x y = z := by
  have h1 := hs.lo
  have h2 := hs.hi
  have hr := hs.rows.row x (by omega) hx
  obtain ⟨y, hy, e⟩ := surj_of_inj n.toNat (t x) (fun i hi => by have := hr.lt i (by omega) (by omega); omega) (fun i j hi hj e => by
    rcases Nat.lt_trichotomy i j with h | h | h
    · exact absurd e.symm (hr.inj j i (by omega) h (by omega))
    · exact h
    · exact absurd e (hr.inj i j (by omega) h (by omega))) z (by omega)
  exact ⟨y, by omega, e⟩
theorem lq_lt {n : Int} {t : Nat → Nat → Nat} (hs : IsSq n t) {x z : Nat} (hx : (x : Int) < n) (hz : (z : Int) < n) : (lq t x z : Int) < n ∧ t x (lq t x z) = z ∧ ∀ j, j < lq t x z → t x j ≠ z := by
  obtain ⟨y, hy, rfl⟩ := row_has hs hx hz
  rw [lq_row hs hx hy]
  refine ⟨hy, rfl, fun j hj => ?_⟩
  have := hs.hi
  exact fun e => (hs.rows.row x (by omega) hx).inj y j (by omega) hj hy e.symm

/-! ### The value of a term -/
/-- The product or a quotient. -/
noncomputable def apB (t : Nat → Nat → Nat) (b a c : Nat) : Nat := if b = 42 then t a c else if b = 47 then lq (fun x y => t y x) c a else lq t a c
theorem apB_lt {n : Int} {t : Nat → Nat → Nat} (hs : IsSq n t) {b a c : Nat} (ha : (a : Int) < n) (hc : (c : Int) < n) : (apB t b a c : Int) < n := by
  have := hs.hi
  unfold apB
  split
  · exact (hs.rows.row a (by omega) ha).lt c (by omega) hc
  · split
    · exact (lq_lt hs.turn hc ha).1
    · exact (lq_lt hs ha hc).1
/-- What a leaf stands for. -/
def lfB (x y z b : Nat) : Nat := if b = 120 then x else if b = 121 then y else if b = 122 then z else 0
/-- One byte more: the values, the last one first. -/
noncomputable def evStep (t : Nat → Nat → Nat) (x y z b : Nat) (s : List Nat) : List Nat :=
  if isLeafB b = true then lfB x y z b :: s else match s with | c :: a :: r => apB t b a c :: r | _ => []
noncomputable def evTo (t : Nat → Nat → Nat) (x y z : Nat) (f : Nat → Nat) : Nat → List Nat
  | 0 => []
  | k + 1 => evStep t x y z (f k) (evTo t x y z f k)
theorem evTo_length {t : Nat → Nat → Nat} {x y z : Nat} {f : Nat → Nat} : ∀ {k v : Nat}, tmTo f k = some v → (evTo t x y z f k).length = v
  | 0, v, h => by cases h; rfl
  | k + 1, v, h => by
    rw [tmTo] at h
    split at h
    · rename_i u hu
      have ih := evTo_length (t := t) (x := x) (y := y) (z := z) hu
      rw [evTo]
      simp only [tmStep] at h
      simp only [evStep]
      split at h
      · rename_i hl; cases h; rw [if_pos hl]; simp [ih]
      · rename_i hl
        rw [if_neg hl]
        split at h
        · rename_i ho
          cases h
          revert ih
          rcases evTo t x y z f k with _ | ⟨c, _ | ⟨a, r⟩⟩
          · intro ih; simp at ih; omega
          · intro ih; simp at ih; omega
          · intro ih; simp at ih ⊢; omega
        · cases h
    · cases h
theorem evTo_lt {n : Int} {t : Nat → Nat → Nat} (hs : IsSq n t) {x y z : Nat} (hx : (x : Int) < n) (hy : (y : Int) < n) (hz : (z : Int) < n) {f : Nat → Nat} : ∀ k, ∀ v ∈ evTo t x y z f k, (v : Int) < n
  | 0 => by intro v hv; cases hv
  | k + 1 => by
    have ih := evTo_lt hs hx hy hz (f := f) k
    have := hs.lo
    rw [evTo]
    revert ih
    generalize evTo t x y z f k = s
    intro ih v hv
    unfold evStep at hv
    by_cases hl : isLeafB (f k) = true
    · rw [if_pos hl] at hv
      rcases List.mem_cons.1 hv with rfl | hv
      · unfold lfB; repeat' split
        all_goals omega
      · exact ih v hv
    · rw [if_neg hl] at hv
      rcases s with _ | ⟨c, _ | ⟨a, r⟩⟩
      · cases hv
      · cases hv
      · rcases List.mem_cons.1 hv with rfl | hv
        · exact apB_lt hs (ih a (by simp)) (ih c (by simp))
        · exact ih v (by simp [hv])
/-- The value of a term. -/
noncomputable def evB (t : Nat → Nat → Nat) (x y z : Nat) (f : Nat → Nat) (m : Nat) : Nat := (evTo t x y z f m).headD 0
theorem evB_lt {n : Int} {t : Nat → Nat → Nat} (hs : IsSq n t) {x y z : Nat} (hx : (x : Int) < n) (hy : (y : Int) < n) (hz : (z : Int) < n) (f : Nat → Nat) (m : Nat) : (evB t x y z f m : Int) < n := by
  have h := evTo_lt hs hx hy hz (f := f) m
  have := hs.lo
  unfold evB
  revert h
  rcases evTo t x y z f m with _ | ⟨v, r⟩
  · intro _; show ((0 : Nat) : Int) < n; omega
  · intro h; exact h v (by simp)
/-- A variable that does not occur does not matter. -/
theorem evTo_free {t : Nat → Nat → Nat} {x y z x' y' z' : Nat} {f : Nat → Nat} : ∀ {m : Nat}, (∀ k, k < m → lfB x y z (f k) = lfB x' y' z' (f k)) → evTo t x y z f m = evTo t x' y' z' f m
  | 0, _ => rfl
  | m + 1, h => by
    rw [evTo, evTo, evTo_free fun k hk => h k (by omega)]
    simp only [evStep, h m (by omega)]

/-! ### The first place -/
/-- What a function gives first. -/
def fstTo {β : Type} (f : Nat → Option β) : Nat → Option β
  | 0 => none
  | k + 1 => match fstTo f k with | some v => some v | none => f k
theorem fstTo_none {β : Type} {f : Nat → Option β} : ∀ {n : Nat}, fstTo f n = none ↔ ∀ k, k < n → f k = none
  | 0 => ⟨fun _ k h => absurd h (by omega), fun _ => rfl⟩
  | n + 1 => by
    rw [fstTo]
    have ih := fstTo_none (f := f) (n := n)
    constructor
    · intro h k hk
      split at h
      · cases h
      · rename_i e
        by_cases h2 : k = n
        · subst h2; exact h
        · exact ih.1 e k (by omega)
    · intro h
      rw [ih.2 fun k hk => h k (by omega)]
      exact h n (by omega)
theorem fstTo_at {β : Type} {f : Nat → Option β} {k : Nat} {v : β} (h0 : ∀ j, j < k → f j = none) (h : f k = some v) : ∀ n, k < n → fstTo f n = some v
  | 0, hk => absurd hk (by omega)
  | n + 1, hk => by
    rw [fstTo]
    by_cases e : k = n
    · subst e; rw [fstTo_none.2 h0]; exact h
    · rw [fstTo_at h0 h n (by omega)]
/-- Where it is the same but for its own number, the first one will do. -/
theorem fstTo_one {β γ : Type} {f : Nat → Option β} (g : Option γ) (j : Nat → γ → β) (h : ∀ k, f k = g.map (j k)) {n : Nat} (hn : 1 ≤ n) : fstTo f n = fstTo f 1 := by
  cases e : g with
  | none =>
    rw [fstTo_none.2 fun k _ => by rw [h, e]; rfl, fstTo_none.2 fun k _ => by rw [h, e]; rfl]
  | some u =>
    rw [fstTo_at (k := 0) (v := j 0 u) (fun _ h => absurd h (by omega)) (by rw [h, e]; rfl) n (by omega), fstTo_at (k := 0) (v := j 0 u) (fun _ h => absurd h (by omega)) (by rw [h, e]; rfl) 1 (by omega)]
/-- The first of three numbers at which something is so. -/
def fst3 (p : Nat → Nat → Nat → Bool) (a b c : Nat) : Option (Nat × Nat × Nat) := fstTo (fun x => fstTo (fun y => fstTo (fun z => if p x y z = true then some (x, y, z) else none) c) b) a
theorem fstTo_map {β γ : Type} (g : β → γ) (f : Nat → Option β) : ∀ n, fstTo (fun k => (f k).map g) n = (fstTo f n).map g
  | 0 => rfl
  | n + 1 => by
    rw [fstTo, fstTo, fstTo_map g f n]
    cases fstTo f n <;> rfl
theorem fstTo_congr {β : Type} {f g : Nat → Option β} {n : Nat} (h : ∀ k, k < n → f k = g k) : fstTo f n = fstTo g n := by
  induction n with
  | zero => rfl
  | succ n ih => rw [fstTo, fstTo, ih fun k hk => h k (by omega), h n (by omega)]
theorem fst3_x {p : Nat → Nat → Nat → Bool} {n b c : Nat} (hn : 1 ≤ n) (h : ∀ x y z, p x y z = p 0 y z) : fst3 p n b c = fst3 p 1 b c := by
  unfold fst3
  refine fstTo_one (fstTo (fun y => fstTo (fun z => if p 0 y z = true then some (y, z) else none) c) b) (fun x u => (x, u.1, u.2)) (fun x => ?_) hn
  rw [← fstTo_map]
  congr 1; funext y
  rw [← fstTo_map]
  congr 1; funext z
  rw [h x y z]
  split <;> rfl
theorem fst3_y {p : Nat → Nat → Nat → Bool} {a n c : Nat} (hn : 1 ≤ n) (h : ∀ x y z, p x y z = p x 0 z) : fst3 p a n c = fst3 p a 1 c := by
  unfold fst3
  congr 1; funext x
  refine fstTo_one (fstTo (fun z => if p x 0 z = true then some (x, z) else none) c) (fun y u => (u.1, y, u.2)) (fun y => ?_) hn
  rw [← fstTo_map]
  congr 1; funext z
  rw [h x y z]
  split <;> rfl
theorem fst3_z {p : Nat → Nat → Nat → Bool} {a b n : Nat} (hn : 1 ≤ n) (h : ∀ x y z, p x y z = p x y 0) : fst3 p a b n = fst3 p a b 1 := by
  unfold fst3
  congr 1; funext x; congr 1; funext y
  refine fstTo_one (if p x y 0 = true then some (x, y) else none) (fun z u => (u.1, u.2, z)) (fun z => ?_) hn
  rw [h x y z]
  split <;> rfl

/-- Where an identity does not hold. -/
noncomputable def neB (t : Nat → Nat → Nat) (f : Nat → Nat) (m : Nat) (g : Nat → Nat) (l : Nat) (x y z : Nat) : Bool := decide (evB t x y z f m ≠ evB t x y z g l)
/-- A byte occurs. -/
def occB (f : Nat → Nat) (m b : Nat) : Bool := decide (∃ k, k < m ∧ f k = b)
/-- How far a variable runs. -/
def rngB (n : Nat) (f : Nat → Nat) (m : Nat) (g : Nat → Nat) (l b : Nat) : Nat := if occB f m b = true ∨ occB g l b = true then n else 1
theorem occB_false {f : Nat → Nat} {m b : Nat} (h : ¬ occB f m b = true) : ∀ k, k < m → f k ≠ b := fun k hk e => h (by rw [occB, decide_eq_true_eq]; exact ⟨k, hk, e⟩)
theorem neB_congr {t : Nat → Nat → Nat} {f g : Nat → Nat} {m l x y z x' y' z' : Nat} (h1 : ∀ k, k < m → lfB x y z (f k) = lfB x' y' z' (f k)) (h2 : ∀ k, k < l → lfB x y z (g k) = lfB x' y' z' (g k)) : neB t f m g l x y z = neB t f m g l x' y' z' := by
  unfold neB evB; rw [evTo_free h1, evTo_free h2]
/-- The reference runs through no variable that does not occur, and finds the same place. -/
theorem fails_same {t : Nat → Nat → Nat} {f g : Nat → Nat} {n m l : Nat} (hn : 1 ≤ n) :
    fst3 (neB t f m g l) (rngB n f m g l 120) (rngB n f m g l 121) (rngB n f m g l 122) = fst3 (neB t f m g l) n n n := by
  have ex : ∀ a b, fst3 (neB t f m g l) (rngB n f m g l 120) a b = fst3 (neB t f m g l) n a b := fun a b => by
    unfold rngB; split
    · rfl
    · rename_i h
      rw [not_or] at h
      exact (fst3_x hn fun x y z => neB_congr (fun k hk => by simp [lfB, occB_false h.1 k hk]) (fun k hk => by simp [lfB, occB_false h.2 k hk])).symm
  have ey : ∀ a b, fst3 (neB t f m g l) a (rngB n f m g l 121) b = fst3 (neB t f m g l) a n b := fun a b => by
    unfold rngB; split
    · rfl
    · rename_i h
      rw [not_or] at h
      exact (fst3_y hn fun x y z => neB_congr (fun k hk => by simp [lfB, occB_false h.1 k hk]) (fun k hk => by simp [lfB, occB_false h.2 k hk])).symm
  have ez : ∀ a b, fst3 (neB t f m g l) a b (rngB n f m g l 122) = fst3 (neB t f m g l) a b n := fun a b => by
    unfold rngB; split
    · rfl
    · rename_i h
      rw [not_or] at h
      exact (fst3_z hn fun x y z => neB_congr (fun k hk => by simp [lfB, occB_false h.1 k hk]) (fun k hk => by simp [lfB, occB_false h.2 k hk])).symm
  rw [ex, ey, ez]
end Go.Proofs.YteonahoboligdaaDoor
