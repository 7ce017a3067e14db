/- The lengths of the cycles of two rows, for the reference: a contract. -/
import Derived.Test.YteonahoboligdaaDoorE6
import Derived.Test.YteonahoboligdaaDoorE7
import Derived.Test.YteonahoboligdaaDoorU1
namespace Go.Proofs.YteonahoboligdaaDoor
set_option linter.unusedSimpArgs false
set_option linter.unusedVariables false
open Go Go.RowKit

/-- The cells of eleven numbers. -/
def n11 (f : Nat → Nat) : Array Value := tab 11 fun i => .int .i64 (f i : Nat)
theorem n11_size (f : Nat → Nat) : (n11 f).size = 11 := tab_size _ _
theorem n11_get {f : Nat → Nat} {i : Nat} (h : i < 11) : (n11 f)[i]? = some (.int .i64 (f i : Nat)) := tab_get h
theorem n11_set (f : Nat → Nat) (i v : Nat) : (n11 f).setIfInBounds i (.int .i64 (v : Nat)) = n11 (fun j => if j = i then v else f j) := by
  unfold n11; rw [tab_set]; exact tab_ext fun j _ => by dsimp only; split <;> rfl
theorem flat_n11 (f : Nat → Nat) : flat (n11 f) := flat_tab fun _ _ => rfl




/-- How often each length is met among the cycles of the numbers below k. -/
noncomputable def lcn (p : Nat → Nat) (k : Nat) : Nat → Nat := fun j => (lens p k).count j
theorem lcn_le (p : Nat → Nat) (k j : Nat) : lcn p k j ≤ k := Nat.le_trans List.count_le_length (lens_len p k)
theorem lcn_zero (p : Nat → Nat) : n11 (lcn p 0) = n11 fun _ => 0 := by congr 1
theorem lcn_skip {p : Nat → Nat} {k : Nat} (h : metC p k k) : lcn p (k + 1) = lcn p k := by
  classical
  unfold lcn; rw [lens, if_pos h]
theorem lcn_more {p : Nat → Nat} {k : Nat} (h : ¬ metC p k k) : (n11 (lcn p k)).setIfInBounds (clen p k) (.int .i64 ((lcn p k (clen p k) + 1 : Nat) : Int)) = n11 (lcn p (k + 1)) := by
  classical
  rw [n11_set]
  congr 1
  funext j
  unfold lcn
  rw [lens, if_neg h, List.count_append]
  by_cases e : j = clen p k
  · subst e; rw [if_pos rfl, List.count_singleton_self]
  · rw [if_neg e]
    have h0 : List.count j [clen p k] = 0 := List.count_eq_zero.2 (by simp; exact e)
    rw [h0]; rfl
/-- Marks, and those of the first i of a list. -/
def mksL (m : Nat) (l : List Nat) (i : Nat) : Nat → Bool := fun y => m.testBit y || decide (y ∈ l.take i)
theorem mksL_zero (m : Nat) (l : List Nat) : mksL m l 0 = fun y => m.testBit y := by funext y; simp [mksL]
theorem mksL_set {m : Nat} {l : List Nat} {i x : Nat} (hx : l[i]? = some x) : (bls (mksL m l i)).setIfInBounds x (.bool true) = bls (mksL m l (i + 1)) := by
  rw [bls_set]
  congr 1
  funext y
  unfold mksL
  rw [List.take_add_one, hx, Option.toList_some]
  by_cases e : y = x
  · subst e; simp
  · rw [if_neg e]
    simp [e]
theorem mksL_all {m : Nat} {c : Nat} {i : Nat} (hi : i = (tdL (fun y => c.testBit y) 10).length) : bls (mksL m (tdL (fun y => c.testBit y) 10) i) = bls fun y => (m ||| c).testBit y := by
  subst hi
  refine tab_ext fun y hy => ?_
  congr 1
  unfold mksL
  rw [List.take_length]
  show (m.testBit y || _) = (m ||| c).testBit y
  rw [Nat.testBit_or]
  congr 1
  have := tdL_mem (p := fun y => c.testBit y) (x := y) (k := 10)
  rw [Bool.eq_iff_iff, decide_eq_true_iff, this]
  exact ⟨fun h => h.2, fun h => ⟨hy, h⟩⟩
theorem i64N_len (l : List Nat) : (i64N l).length = l.length := by simp [i64N]
theorem i64N_at {l : List Nat} {j : Nat} (h : j < l.length) : (i64N l).getD j undef = i64F l j := by
  unfold i64F i64N
  rw [List.getD_eq_getElem?_getD, List.getD_eq_getElem?_getD, List.getElem?_map, List.getElem?_eq_getElem h]; rfl
theorem ctL_len {cnt : Nat → Nat} (h : ∀ j, cnt j ≤ 10) : ∀ m, (ctL cnt m).length ≤ m * 10
  | 0 => by simp [ctL]
  | m + 1 => by
    have := ctL_len h m
    have := h (m + 1)
    rw [ctL, List.length_append, List.length_replicate]; omega
theorem i64N_get {l : List Nat} {i x : Nat} (h : l[i]? = some x) : (i64N l)[i]? = some (.int .i64 (x : Int)) := by simp [i64N, h]


end Go.Proofs.YteonahoboligdaaDoor
