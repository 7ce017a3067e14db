/- Rows of structs, read one by one. -/
import Derived.Test.YtinjjaoikofkdaaK2
namespace Go.Proofs.Ytinjjaoikofkdaa
set_option linter.unusedSimpArgs false
set_option linter.unusedVariables false
open Go Go.RowKit

/-- The cells of a row of structs. -/
def rowC {α : Type} (f : α → Array Value) (l : List α) : List Value := l.flatMap fun x => (f x).toList
theorem rowC_get {α : Type} {f : α → Array Value} {S : Nat} (hS : ∀ x, (f x).size = S) : ∀ (l : List α) {k j : Nat} (hk : k < l.length), j < S → (rowC f l)[k * S + j]? = (f l[k])[j]?
  | x :: l, 0, j, _, hj => by
    have e : rowC f (x :: l) = (f x).toList ++ rowC f l := rfl
    rw [e, Nat.zero_mul, Nat.zero_add, List.getElem?_append_left (by rw [Array.length_toList, hS]; exact hj)]
    simp
  | x :: l, k + 1, j, hk, hj => by
    have e : rowC f (x :: l) = (f x).toList ++ rowC f l := rfl
    have hs : (f x).toList.length = S := by rw [Array.length_toList, hS]
    have hm : (k + 1) * S + j = S + (k * S + j) := by rw [Nat.succ_mul]; omega
    rw [e, hm, List.getElem?_append_right (by rw [hs]; omega), hs, Nat.add_sub_cancel_left]
    exact rowC_get hS l (by simpa using hk) hj
theorem rowC_len {α : Type} {f : α → Array Value} {S : Nat} (hS : ∀ x, (f x).size = S) : ∀ l : List α, (rowC f l).length = l.length * S
  | [] => by simp [rowC]
  | x :: l => by
    have e : rowC f (x :: l) = (f x).toList ++ rowC f l := rfl
    rw [e, List.length_append, rowC_len hS l, Array.length_toList, hS, List.length_cons, Nat.succ_mul]; omega
theorem row_cells {α : Type} {f : α → Array Value} {S : Nat} (hS : ∀ x, (f x).size = S) {w : World} {g : Nat} {l : List α} (h : rds w g (l.length * S) (fun j => (rowC f l).getD j undef)) {k : Nat} (hk : k < l.length) :
    ∀ j v, (f l[k])[j]? = some v → w.cell? ⟨g, k * S + j, none⟩ = some v := by
  intro j v hv
  have hj : j < S := by rw [← hS l[k]]; exact (Array.getElem?_eq_some_iff.1 hv).1
  have hb : k * S + j < l.length * S := by
    have : (k + 1) * S ≤ l.length * S := Nat.mul_le_mul_right _ hk
    rw [Nat.succ_mul] at this; omega
  rw [h.at_ _ hb, List.getD_eq_getElem?_getD, rowC_get hS l hk hj, hv]
  rfl
theorem all_take {α : Type} (p : α → Bool) (l : List α) {k : Nat} (hk : k < l.length) : (l.take (k + 1)).all p = ((l.take k).all p && p l[k]) := by
  rw [List.take_succ_eq_append_getElem hk, List.all_append]; simp
theorem all_fails {α : Type} {p : α → Bool} {l : List α} {k : Nat} (hk : k < l.length) (h : p l[k] = false) : l.all p = false := by
  rw [List.all_eq_false]; exact ⟨l[k], List.getElem_mem hk, by rw [h]; simp⟩
/-- The first place at which p holds, or -1. -/
def placeOf {α : Type} (p : α → Bool) (l : List α) : Int := match l.findIdx? p with | some i => (i : Int) | none => -1
theorem placeOf_some {α : Type} {p : α → Bool} {l : List α} {k : Nat} (hk : k < l.length) (hb : ∀ j (h : j < k), p (l[j]'(Nat.lt_trans h hk)) = false) (h : p l[k] = true) : placeOf p l = (k : Int) := by
  have : l.findIdx? p = some k := List.findIdx?_eq_some_iff_getElem.2 ⟨hk, h, fun j hj => by simp [hb j hj]⟩
  unfold placeOf; rw [this]
theorem placeOf_none {α : Type} {p : α → Bool} {l : List α} (hb : ∀ j (h : j < l.length), p l[j] = false) : placeOf p l = -1 := by
  have : l.findIdx? p = none := List.findIdx?_eq_none_iff.2 fun x hx => by
    obtain ⟨j, hj, rfl⟩ := List.getElem_of_mem hx
    exact hb j hj
  unfold placeOf; rw [this]
/-- A square of any order. -/
structure Sqr where
  n : Int
  t : Nat → Nat → Nat
def sqC (q : Sqr) : Array Value := sqs q.n q.t
def slC (l : List Sqr) : List Value := rowC sqC l
end Go.Proofs.Ytinjjaoikofkdaa
