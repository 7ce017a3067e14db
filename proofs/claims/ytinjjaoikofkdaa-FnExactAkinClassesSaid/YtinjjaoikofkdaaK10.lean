/- Rows of words, read one by one. -/
import Derived.Test.YtinjjaoikofkdaaC15
import Derived.Test.YtinjjaoikofkdaaK2
namespace Go.Proofs.Ytinjjaoikofkdaa
set_option linter.unusedSimpArgs false
set_option linter.unusedVariables false
open Go Go.RowKit

/-- A word as a function. -/
def wf (p : List Nat) (i : Nat) : Nat := p.getD i 0
theorem plCells_len : ∀ l : List (List Nat), (plCells l).length = l.length * 10
  | [] => rfl
  | p :: l => by
    have ih := plCells_len l
    unfold plCells at *
    rw [List.flatMap_cons, List.length_append, ih, Array.length_toList, bys_size, List.length_cons]; omega
theorem plCells_get : ∀ (l : List (List Nat)) {k j : Nat} (hk : k < l.length), j < 10 → (plCells l)[k * 10 + j]? = some (.int .u8 (l[k].getD j 0 : Nat))
  | [], _, _, hk, _ => absurd hk (by simp)
  | p :: l, 0, j, hk, hj => by
    unfold plCells
    rw [List.flatMap_cons, List.getElem?_append_left (by rw [Array.length_toList, bys_size]; omega), Array.getElem?_toList, Nat.zero_mul, Nat.zero_add, bys_get hj]
    rfl
  | p :: l, k + 1, j, hk, hj => by
    have ih := plCells_get l (k := k) (j := j) (by simpa using hk) hj
    unfold plCells at *
    rw [List.flatMap_cons, List.getElem?_append_right (by rw [Array.length_toList, bys_size]; omega), Array.length_toList, bys_size, show (k + 1) * 10 + j - 10 = k * 10 + j by omega, ih]
    rfl
theorem plc_cells {w : World} {g : Nat} {P : List (List Nat)} (h : rds w g (P.length * 10) (fun j => (plCells P).getD j undef)) {k : Nat} (hk : k < P.length) : ∀ j v, (bys fun i => P[k].getD i 0)[j]? = some v → w.cell? ⟨g, k * 10 + j, none⟩ = some v := by
  intro j v hv
  obtain ⟨hj, rfl⟩ := tab_get_some hv
  rw [h.at_ (k * 10 + j) (by omega), List.getD_eq_getElem?_getD, plCells_get P hk hj]
  rfl
theorem own_mono {w : World} {base base' e size n : Nat} {v : Value} {xs : List Value} (h : w.ownsRow base e size v n xs) (hb : base' ≤ base) : w.ownsRow base' e size v n xs := by
  rcases h.2 with h2 | ⟨g, cap, cur, h1, h2, h3⟩
  · exact ⟨h.1, .inl h2⟩
  · exact ⟨h.1, .inr ⟨g, cap, cur, h1, Nat.le_trans hb h2, h3⟩⟩
end Go.Proofs.Ytinjjaoikofkdaa
