/- The cells of a triple of permutations. -/
import Derived.Test.YtinjjaoikofkdaaK
namespace Go.Proofs.Ytinjjaoikofkdaa
set_option linter.unusedSimpArgs false
set_option linter.unusedVariables false
open Go.RowKit

def trs (f g h : Nat → Nat) : Array Value := tab 30 fun i => .int .u8 ((if i < 10 then f i else if i < 20 then g (i - 10) else h (i - 20) : Nat) : Int)
theorem trs_size (f g h : Nat → Nat) : (trs f g h).size = 30 := tab_size _ _
theorem flat_trs (f g h : Nat → Nat) : flat (trs f g h) := flat_tab fun _ _ => rfl
theorem trs_first {f g h : Nat → Nat} : ∀ j v, (bys f)[j]? = some v → (trs f g h)[0 + j]? = some v := by
  intro j v hv
  obtain ⟨hj, rfl⟩ := tab_get_some hv
  unfold trs; rw [tab_get (by omega), if_pos (by omega), Nat.zero_add]
theorem trs_second {f g h : Nat → Nat} : ∀ j v, (bys g)[j]? = some v → (trs f g h)[10 + j]? = some v := by
  intro j v hv
  obtain ⟨hj, rfl⟩ := tab_get_some hv
  unfold trs; rw [tab_get (by omega), if_neg (by omega), if_pos (by omega), Nat.add_sub_cancel_left]
theorem trs_third {f g h : Nat → Nat} : ∀ j v, (bys h)[j]? = some v → (trs f g h)[20 + j]? = some v := by
  intro j v hv
  obtain ⟨hj, rfl⟩ := tab_get_some hv
  unfold trs; rw [tab_get (by omega), if_neg (by omega), if_neg (by omega), Nat.add_sub_cancel_left]
theorem trs_get1 {f g h : Nat → Nat} {i : Nat} (hi : i < 10) : (trs f g h)[i]? = some (.int .u8 (f i)) := by
  have := trs_first (f := f) (g := g) (h := h) i _ (bys_get hi); rwa [Nat.zero_add] at this
theorem trs_get2 {f g h : Nat → Nat} {i : Nat} (hi : i < 10) : (trs f g h)[10 + i]? = some (.int .u8 (g i)) := trs_second i _ (bys_get hi)
theorem trs_get3 {f g h : Nat → Nat} {i : Nat} (hi : i < 10) : (trs f g h)[20 + i]? = some (.int .u8 (h i)) := trs_third i _ (bys_get hi)
theorem trs_ext {f g h p q r : Nat → Nat} (h1 : ∀ i, i < 10 → f i = p i) (h2 : ∀ i, i < 10 → g i = q i) (h3 : ∀ i, i < 10 → h i = r i) : trs f g h = trs p q r := by
  refine tab_ext fun i hi => ?_
  by_cases c1 : i < 10
  · rw [if_pos c1, if_pos c1, h1 i c1]
  · rw [if_neg c1, if_neg c1]
    by_cases c2 : i < 20
    · rw [if_pos c2, if_pos c2, h2 _ (by omega)]
    · rw [if_neg c2, if_neg c2, h3 _ (by omega)]
end Go.Proofs.Ytinjjaoikofkdaa
