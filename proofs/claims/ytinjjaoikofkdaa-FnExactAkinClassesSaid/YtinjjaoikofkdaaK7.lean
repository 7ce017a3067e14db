/- Cells of the program's part of an isomorphism. -/
import Derived.Test.YtinjjaoikofkdaaK4
namespace Go.Proofs.Ytinjjaoikofkdaa
set_option linter.unusedSimpArgs false
set_option linter.unusedVariables false
open Go Go.RowKit

/-- A byte of `to`, and one of `from`. -/
def toC (m : PM) (i : Nat) : Int := if m.to i < 0 then 255 else m.to i
def frC (m : PM) (fr : Nat → Nat) (i : Nat) : Int := if 0 < m.used i then (fr i : Int) else 255
/-- The cells of a part: two squares, where each is led, where each comes from. -/
def led (n : Int) (t : Nat → Nat → Nat) (k : Int) (u : Nat → Nat → Nat) (m : PM) (fr : Nat → Nat) : Array Value :=
  tab 222 fun i => if i < 101 then ((sqs n t)[i]?).getD undef else if i < 202 then ((sqs k u)[i - 101]?).getD undef else if i < 212 then .int .u8 (toC m (i - 202)) else .int .u8 (frC m fr (i - 212))
theorem led_q {n k : Int} {t u : Nat → Nat → Nat} {m : PM} {fr : Nat → Nat} {i : Nat} {v : Value} (h : (sqs n t)[i]? = some v) (hi : i < 101) : (led n t k u m fr)[i]? = some v := by
  unfold led; rw [tab_get (by omega), if_pos hi, h]; rfl
theorem led_r {n k : Int} {t u : Nat → Nat → Nat} {m : PM} {fr : Nat → Nat} {i : Nat} {v : Value} (h : (sqs k u)[i]? = some v) (hi : i < 101) : (led n t k u m fr)[101 + i]? = some v := by
  unfold led; rw [tab_get (by omega), if_neg (by omega), if_pos (by omega), Nat.add_sub_cancel_left, h]; rfl
theorem led_to {n k : Int} {t u : Nat → Nat → Nat} {m : PM} {fr : Nat → Nat} {x : Nat} (hx : x < 10) : (led n t k u m fr)[202 + x]? = some (.int .u8 (toC m x)) := by
  unfold led; rw [tab_get (by omega), if_neg (by omega), if_neg (by omega), if_pos (by omega), Nat.add_sub_cancel_left]
theorem led_fr {n k : Int} {t u : Nat → Nat → Nat} {m : PM} {fr : Nat → Nat} {x : Nat} (hx : x < 10) : (led n t k u m fr)[212 + x]? = some (.int .u8 (frC m fr x)) := by
  unfold led; rw [tab_get (by omega), if_neg (by omega), if_neg (by omega), if_neg (by omega), Nat.add_sub_cancel_left]
theorem toC_ne (m : PM) {x i : Nat} (y : Nat) (h : i ≠ x) : toC (m.add x y) i = toC m i := by
  have e : (m.add x y).to i = m.to i := by simp [PM.add, h]
  unfold toC; rw [e]
theorem frC_ne (m : PM) (fr : Nat → Nat) {y i : Nat} (x : Nat) (h : i ≠ y) : frC (m.add x y) (fun i => if i = y then x else fr i) i = frC m fr i := by
  have e : (m.add x y).used i = m.used i := by simp [PM.add, h]
  unfold frC; rw [e]
  dsimp only; rw [if_neg h]
set_option maxRecDepth 4000 in
theorem led_add {n k : Int} {t u : Nat → Nat → Nat} {m : PM} {fr : Nat → Nat} {x y : Nat} (hx : x < 10) (hy : y < 10) :
    ((led n t k u m fr).setIfInBounds (202 + x) (.int .u8 (y : Int))).setIfInBounds (212 + y) (.int .u8 (x : Int)) = led n t k u (m.add x y) (fun i => if i = y then x else fr i) := by
  unfold led
  rw [tab_set, tab_set]
  refine tab_ext fun j hj => ?_
  by_cases h1 : j = 212 + y
  · subst h1
    rw [if_pos rfl, if_neg (by omega), if_neg (by omega), if_neg (by omega), Nat.add_sub_cancel_left]
    simp [frC, PM.add]
  · rw [if_neg h1]
    by_cases h2 : j = 202 + x
    · subst h2
      rw [if_pos rfl, if_neg (by omega), if_neg (by omega), if_pos (by omega), Nat.add_sub_cancel_left]
      simp only [toC, PM.add, if_true]
      rw [if_neg (by omega)]
    · rw [if_neg h2]
      by_cases a : j < 101
      · exact (if_pos a).trans (if_pos a).symm
      · refine (if_neg a).trans (Eq.trans ?_ (if_neg a).symm)
        by_cases b : j < 202
        · exact (if_pos b).trans (if_pos b).symm
        · refine (if_neg b).trans (Eq.trans ?_ (if_neg b).symm)
          by_cases c : j < 212
          · refine (if_pos c).trans (Eq.trans ?_ (if_pos c).symm)
            rw [toC_ne m y (show j - 202 ≠ x by omega)]
          · refine (if_neg c).trans (Eq.trans ?_ (if_neg c).symm)
            rw [frC_ne m fr x (show j - 212 ≠ y by omega)]
end Go.Proofs.Ytinjjaoikofkdaa
