/- The cycles of two rows, sorted, for the program: a contract. -/
import Derived.Test.YteonahoboligdaaE3
namespace Go.Proofs.Yteonahoboligdaa
set_option linter.unusedSimpArgs false
set_option linter.unusedVariables false
open Go Go.RowKit

theorem lens_one (f : Nat → Nat) : ∀ k, 1 ≤ k → 1 ≤ (lens f k).length
  | 0, h => by omega
  | 1, _ => by
    rw [lens, if_neg (fun ⟨c, hc, _⟩ => by omega)]
    simp
  | k + 2, _ => by
    have := lens_one f (k + 1) (by omega)
    rw [lens]
    split
    · exact this
    · rw [List.length_append]; omega
/-- The lengths of the cycles, sorted. -/
noncomputable def srtL (f : Nat → Nat) (n : Nat) : List Nat := (lens f n).mergeSort fun x y => decide (x ≤ y)
theorem srtL_len (f : Nat → Nat) (n : Nat) : (srtL f n).length = (lens f n).length := List.length_mergeSort ..
theorem srtL_count (f : Nat → Nat) (n m : Nat) : (srtL f n).count m = (lens f n).count m := (List.perm_iff_count.1 (List.mergeSort_perm ..)) m
theorem srtL_sorted (f : Nat → Nat) (n : Nat) : (srtL f n).Pairwise (· ≤ ·) :=
  (List.pairwise_mergeSort (le := fun x y : Nat => decide (x ≤ y)) (fun a b c h1 h2 => by simp at *; omega) (fun a b => by simp; omega) (lens f n)).imp fun h => of_decide_eq_true h
/-- What the program finds is the counted list of the reference's. -/
theorem srtL_eq {N : Nat} {f p g : Nat → Nat} (hN : N ≤ 10) (hf : Pm N f) (hp : Pm N p) (hg : Pm N g) (h : ∀ y, y < N → p (g y) = g (f y)) : srtL f N = ctL (fun n => (lens p N).count n) 10 :=
  lens_sorted hN hf hp hg h (srtL_sorted f N) (srtL_count f N)
theorem implCycles_any (n : Nat) (t : Nat → Nat → Nat) (hs : IsSq (n : Int) t) (a b : Nat) (ha : a < n) (hb : b < n) (w : World) :
    Calls Try.prog 34 #[.agg (sqs (n : Int) t), .int .u8 (a : Int), .int .u8 (b : Int)] w fun e w' => ∃ v, e = .returned v ∧ w'.ownsRow w.heap.size 2 1 v (srtL (sg t a b) n).length (i64N (srtL (sg t a b) n)) ∧ Below w.heap.size w w' := by
  rw [srtL_len]
  refine cycles_any n t hs a b ha hb w (srtL (sg t a b) n) fun w1 v _ hown => ?_
  have h1 : 1 ≤ n := by have := hs.lo; omega
  have h2 : n ≤ 10 := by have := hs.hi; omega
  have hl := lens_len (sg t a b) n
  exact sort_row (lens (sg t a b) n) (lens_one _ n h1) (by omega) w.heap.size v w1 hown
end Go.Proofs.Yteonahoboligdaa
