/- Rows that calls hand back, and rows that are read. -/
import Derived.Test.YtinjjaoikofkdaaK12
namespace Go.Proofs.Ytinjjaoikofkdaa
set_option linter.unusedSimpArgs false
set_option linter.unusedVariables false
open Go Go.RowKit

theorem ownsRow_weak {w : World} {B B' e size : Nat} {v : Value} {n : Nat} {xs : List Value} (h : w.ownsRow B e size v n xs) (hB : B' ≤ B) : w.ownsRow B' e size v n xs := by
  refine ⟨h.1, ?_⟩
  rcases h.2 with h | ⟨g, cap, cur, h1, h2, h3⟩
  · exact .inl h
  · exact .inr ⟨g, cap, cur, h1, by omega, h3⟩
theorem place_row {w : World} {B : Nat} {v : Value} {n : Nat} {xs : List Value} {e size : Nat} (h : w.ownsRow B e size v n xs) : ∀ b, (Ent.row B v n xs e size).place b → B ≤ b := fun b hb => (World.ownsRow.lt h b hb).1
/-- A call hands back a row in new memory. -/
theorem Mm.joinRow {D : Nat → Prop} {w0 w w' : World} {L : List Ent} {v : Value} {n : Nat} {xs : List Value} {e size : Nat} (M : Mm D w0 w L) (M' : Mm no w w' [.row w.heap.size v n xs e size]) : Mm D w0 w' (.row w0.heap.size v n xs e size :: L) := by
  have h := M'.row 0 rfl
  exact M.gain M'.below (x := .row w0.heap.size v n xs e size) (ownsRow_weak h M.size) fun b hb => place_row h b hb
/-- A call hands back a row in new memory and writes to a block that is known. -/
theorem Mm.callw {D : Nat → Prop} {w0 w w' : World} {L : List Ent} {v : Value} {n : Nat} {xs : List Value} {e size b t : Nat} {cs cs' : Array Value} (M : Mm D w0 w L) (i : Nat) (hi : L[i]? = some (.box b cs t)) (hb : w0.heap.size ≤ b ∨ D b)
    (M' : Mm (fun k => k = b) w w' [.row w.heap.size v n xs e size, .box b cs' t]) : Mm D w0 w' (.row w0.heap.size v n xs e size :: L.set i (.box b cs' t)) := by
  have h := M'.row 0 rfl
  refine (M.wrote i hi hb M'.kept.grown (M'.box 1 rfl)).add (x := .row w0.heap.size v n xs e size) (ownsRow_weak h M.size) fun y hy c h1 h2 => ?_
  have hlo := place_row h c h1
  have hlt : c < w.heap.size := by
    rcases List.mem_or_eq_of_mem_set hy with h3 | h3
    · exact Ent.lt (M.mem h3) h2
    · subst h3
      cases h2
      exact (M.box i hi).lt
  omega
/-- A row that is not empty is read from now on. -/
theorem Mm.rowRd {D : Nat → Prop} {w0 w : World} {L : List Ent} (M : Mm D w0 w L) (i : Nat) {B n e : Nat} {v : Value} {xs : List Value} (hi : L[i]? = some (.row B v n xs e 1)) (hn : 0 < n) (f : Nat → Value) (hf : ∀ j, j < n → xs.getD j undef = f j) :
    ∃ g cap, v = .slice (some ⟨g, 0, none⟩) n cap ∧ Mm D w0 w (L.set i (.rd g n f)) := by
  obtain ⟨g, cap, rfl, _, ho, hr⟩ := own_rds (M.row i hi) (by omega)
  rw [Nat.mul_one] at hr
  refine ⟨g, cap, rfl, M.set i hi (.refl no w) (fun _ h => h.elim) (fun _ _ h => h.elim) (y := .rd g n f) (show rds w g n f from ⟨hr.lt, fun j hj => by rw [hr.at_ j hj, hf j hj]⟩) fun k h => .inl ?_⟩
  cases h; exact ho
def i64F (l : List Nat) : Nat → Value := fun j => .int .i64 (l.getD j 0 : Nat)
theorem i64F_at {l : List Nat} {i x : Nat} (h : l[i]? = some x) : i64F l i = .int .i64 (x : Int) := by unfold i64F; rw [List.getD_eq_getElem?_getD, h]; rfl
end Go.Proofs.Ytinjjaoikofkdaa
