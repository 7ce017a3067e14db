/- Cells of a part of an isomorphism; two results of which the first is a struct. -/
import Derived.Test.YtinjjaoikofkdaaM
import Derived.Test.YtinjjaoikofkdaaK19
import Derived.Test.YtinjjaoikofkdaaC10
namespace Go.Proofs.Ytinjjaoikofkdaa
set_option linter.unusedSimpArgs false
set_option linter.unusedVariables false
open Go Go.RowKit

def pms (m : PM) : Array Value := tab 21 fun i => .int .i64 (if i < 10 then m.to i else if i < 20 then m.used (i - 10) else m.size)
theorem pms_size (m : PM) : (pms m).size = 21 := tab_size _ _
theorem flat_pms (m : PM) : flat (pms m) := flat_tab fun _ _ => rfl
theorem pms_to (m : PM) {i : Nat} (h : i < 10) : (pms m)[i]? = some (.int .i64 (m.to i)) := by
  unfold pms; rw [tab_get (by omega), if_pos h]
theorem pms_used (m : PM) {i : Nat} (h : i < 10) : (pms m)[10 + i]? = some (.int .i64 (m.used i)) := by
  unfold pms; rw [tab_get (by omega), if_neg (by omega), if_pos (by omega), Nat.add_sub_cancel_left]
theorem pms_sz (m : PM) : (pms m)[20]? = some (.int .i64 m.size) := by
  unfold pms; rw [tab_get (by omega)]; rfl
theorem pms_set_to (m : PM) {x : Nat} (v : Int) (hx : x < 10) : (pms m).setIfInBounds x (.int .i64 v) = pms { m with to := fun i => if i = x then v else m.to i } := by
  unfold pms; rw [tab_set]
  refine tab_ext fun j hj => ?_
  dsimp only
  by_cases e : j = x
  · subst e; rw [if_pos rfl, if_pos hx, if_pos rfl]
  · rw [if_neg e, if_neg e]
theorem pms_set_used (m : PM) {y : Nat} (v : Int) (hy : y < 10) : (pms m).setIfInBounds (10 + y) (.int .i64 v) = pms { m with used := fun i => if i = y then v else m.used i } := by
  unfold pms; rw [tab_set]
  refine tab_ext fun j hj => ?_
  dsimp only
  by_cases e : j = 10 + y
  · subst e; rw [if_pos rfl, if_neg (by omega), if_pos (by omega), if_pos (by omega)]
  · rw [if_neg e]
    by_cases h : j < 10
    · rw [if_pos h, if_pos h]
    · rw [if_neg h, if_neg h]
      by_cases h2 : j < 20
      · rw [if_pos h2, if_pos h2, if_neg (by omega)]
      · rw [if_neg h2, if_neg h2]
theorem pms_set_sz (m : PM) (v : Int) : (pms m).setIfInBounds 20 (.int .i64 v) = pms { m with size := v } := by
  unfold pms; rw [tab_set]
  refine tab_ext fun j hj => ?_
  dsimp only
  by_cases e : j = 20
  · subst e; rfl
  · rw [if_neg e, if_pos (show j < 20 by omega), if_pos (show j < 20 by omega)]
theorem pms_add (m : PM) {x y : Nat} (hx : x < 10) (hy : y < 10) : (((pms m).setIfInBounds x (.int .i64 (y : Int))).setIfInBounds (10 + y) (.int .i64 1)).setIfInBounds 20 (.int .i64 (m.size + 1)) = pms (m.add x y) := by
  rw [pms_set_to m _ hx, pms_set_used _ _ hy, pms_set_sz]; rfl

theorem zero_l2m (w : World) : (zeroValue 147).run Try.prog w = .ok (.agg (pms ⟨fun _ => 0, fun _ => 0, 0⟩)) w := by kernel_rfl
theorem build_l2m (w : World) : (Instr.build 147 #[]).run Try.prog w = .ok (.agg (pms ⟨fun _ => 0, fun _ => 0, 0⟩)) w := by kernel_rfl
theorem und_l2m : Try.prog.underlying 147 = some (.struct (Try.prog.fieldsOf 147)) := by kernel_rfl
theorem inf_l2m : (Try.prog.info? 147).map (·.size) = some 21 := by kernel_rfl

theorem ret_two {a b : Array Value} {c d : Bool} (h : a = b) (k : c = d) : Ending.returned (.tuple #[.agg a, .bool c]) = Ending.returned (.tuple #[.agg b, .bool d]) := by rw [h, k]
end Go.Proofs.Ytinjjaoikofkdaa
