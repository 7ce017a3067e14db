/- Lists of numbers handed back, read. -/
import Derived.Test.YtpmemoabkbmljaaC75
import Derived.Test.YtpmemoabkbmljaaK16
namespace Go.Proofs.Ytpmemoabkbmljaa
set_option linter.unusedSimpArgs false
set_option linter.unusedVariables false
open Go Go.RowKit

theorem i64s_len (l : List Int) : (i64s l).length = l.length := by simp [i64s]
theorem i64s_get (l : List Int) {j : Nat} (hj : j < l.length) : (i64s l).getD j undef = intF l j := by
  unfold intF elI i64s
  rw [List.getD_eq_getElem?_getD, List.getD_eq_getElem?_getD, List.getElem?_map, List.getElem?_eq_getElem hj]
  rfl
/-- A list that a slice with a row of its own holds, read. -/
theorem fa_read {w : World} {B : Nat} {v : Value} {out : List Int} (h : w.ownsRow B 2 1 v out.length (i64s out)) : ∃ p c, v = .slice p out.length c ∧ rdq w p out.length (intF out) := by
  obtain ⟨p, c, rfl⟩ := own_form h
  have hr := rdq_of_own h
  rw [Nat.mul_one] at hr
  exact ⟨p, c, rfl, hr.congr fun j hj => i64s_get out hj⟩
theorem fa_len (n : Int) (t : Nat → Nat → Nat) (xs ys : List Nat) : (faOut n t xs ys).length ≤ 3 := by
  unfold faOut
  split
  · split <;> simp
  · simp
end Go.Proofs.Ytpmemoabkbmljaa
