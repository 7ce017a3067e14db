/- The permutation of two rows, for the reference: a contract. -/
import Derived.Test.YteonahoboligdaaDoorE1
import Derived.Test.YteonahoboligdaaDoorC9
namespace Go.Proofs.YteonahoboligdaaDoor
set_option linter.unusedSimpArgs false
set_option linter.unusedVariables false
open Go Go.RowKit

/-- What leads the first k entries of row a to those of row b. -/
def plW (t : Nat → Nat → Nat) (a b : Nat) : Nat → Nat → Nat
  | 0 => fun _ => 0
  | k + 1 => fun v => if v = t a k then t b k else plW t a b k v
theorem plW_set (t : Nat → Nat → Nat) (a b k : Nat) : (bys (plW t a b k)).setIfInBounds (t a k) (.int .u8 (t b k : Int)) = bys (plW t a b (k + 1)) := bys_set _ _ _
theorem plW_at {n : Nat} {t : Nat → Nat → Nat} (hl : Lat n t) {a b : Nat} (ha : a < n) : ∀ k, k ≤ n → ∀ y, y < k → plW t a b k (t a y) = t b y
  | 0, _, y, h => by omega
  | k + 1, hk, y, h => by
    show (if t a y = t a k then t b k else plW t a b k (t a y)) = t b y
    by_cases e : y = k
    · rw [e, if_pos rfl]
    · rw [if_neg fun h2 => e (hl.left a y k ha (by omega) (by omega) h2)]
      exact plW_at hl ha k (by omega) y (by omega)
theorem plW_pm {n : Nat} {t : Nat → Nat → Nat} (hl : Lat n t) {a b : Nat} (ha : a < n) (hb : b < n) : Pm n (plW t a b n) where
  lt v hv := by
    obtain ⟨y, hy, rfl⟩ := (hl.row ha).surj hv
    rw [plW_at hl ha n (Nat.le_refl _) y hy]; exact hl.lt b y hb hy
  inj v u hv hu e := by
    obtain ⟨y, hy, rfl⟩ := (hl.row ha).surj hv
    obtain ⟨z, hz, rfl⟩ := (hl.row ha).surj hu
    rw [plW_at hl ha n (Nat.le_refl _) y hy, plW_at hl ha n (Nat.le_refl _) z hz] at e
    rw [hl.left b y z hb hy hz e]
/-- Both permutations are conjugate by row a. -/
theorem plW_sg {n : Nat} {t : Nat → Nat → Nat} (hs : IsSq (n : Int) t) {a b : Nat} (ha : a < n) (hb : b < n) (y : Nat) (hy : y < n) : plW t a b n (t a y) = t a (sg t a b y) := by
  have hl := Lat.of_sq hs
  rw [plW_at hl ha n (Nat.le_refl _) y hy]
  have h := hl.lt b y hb hy
  exact (lq_lt hs (x := a) (z := t b y) (by omega) (by omega)).2.1.symm


end Go.Proofs.YteonahoboligdaaDoor
