/- The marks of a cycle, for the reference: a contract. -/
import Derived.Test.YteonahoboligdaaDoorE5
import Derived.Test.YteonahoboligdaaDoorC2
namespace Go.Proofs.YteonahoboligdaaDoor
set_option linter.unusedSimpArgs false
set_option linter.unusedVariables false
open Go Go.RowKit

open Classical in
/-- How many marks are not yet set. -/
noncomputable def unset (b : Nat) (w : World) : Nat := 10 - cn 10 fun y => decide (w.cell? ⟨b, y, none⟩ = some (.bool true))
theorem unset_of {w : World} {b m ty : Nat} (h : blk w b (bls fun y => m.testBit y) ty) : unset b w = 10 - cn 10 fun y => m.testBit y := by
  classical
  unfold unset
  congr 1
  refine cn_congr fun y hy => ?_
  rw [h.cell y _ (bls_get hy)]
  cases m.testBit y <;> simp
theorem mark_set (m y : Nat) : (bls fun j => m.testBit j).setIfInBounds y (.bool true) = bls fun j => (m ||| 2 ^ y).testBit j := by
  rw [bls_set]
  congr 1
  funext j
  rw [Nat.testBit_or, Nat.testBit_two_pow]
  by_cases e : j = y
  · subst e; simp
  · rw [if_neg e, decide_eq_false (fun h => e h.symm), Bool.or_false]
theorem ones_more {m y : Nat} (hy : y < 10) (h : m.testBit y = false) : (cn 10 fun j => (m ||| 2 ^ y).testBit j) = (cn 10 fun j => m.testBit j) + 1 := by
  have e := cn_add (N := 10) (p := fun j => m.testBit j) (q := fun j => j == y) fun i _ hi => beq_eq_false_iff_ne.2 fun e => by subst e; rw [h] at hi; cases hi
  rw [cn_one hy] at e
  rw [← e]
  refine cn_congr fun j _ => ?_
  rw [Nat.testBit_or, Nat.testBit_two_pow]
  congr 1
  by_cases e : y = j
  · subst e; simp
  · rw [decide_eq_false e, beq_eq_false_iff_ne.2 fun h => e h.symm]


end Go.Proofs.YteonahoboligdaaDoor
