/- All subloops, for the reference: contracts. -/
import Derived.Test.YteonahoboligdaaDoorG5
namespace Go.Proofs.YteonahoboligdaaDoor
set_option linter.unusedSimpArgs false
set_option linter.unusedVariables false
open Go Go.RowKit

theorem Lst.single {w : World} {g : Nat} {l : List Nat} {gi ci t : Nat} (h : blk w g #[.slice (some ⟨gi, 0, none⟩) l.length ci] t) (hr : rds w gi l.length (i64F l)) : Lst w g [.slice (some ⟨gi, 0, none⟩) l.length ci] [l] :=
  ⟨h.rds fun j hj => by
    obtain rfl : j = 0 := by have : [l].length = 1 := rfl; omega
    rfl, rfl, fun i x y hx hy => by
    have hi : i < 1 := (List.getElem?_eq_some_iff.1 hx).1
    obtain rfl : i = 0 := by omega
    cases hx; cases hy
    exact ⟨gi, ci, rfl, hr⟩⟩
theorem Found.lens {n : Nat} {t : Nat → Nat → Nat} {k : Nat} {L : List (List Nat)} (F : Found n t k L) : ∀ x ∈ L, x.length ≤ 1000 := fun x hx => by
  obtain ⟨m, _, rfl⟩ := F.sub x hx
  exact Nat.le_trans (mL_le m) (by decide)
/-- The end of the search. -/
def AllPost (n : Nat) (t : Nat → Nat → Nat) (w0 : World) (e : Ending) (w' : World) : Prop := ∃ L, Found n t L.length L ∧ LstPost L w0 e w'


end Go.Proofs.YteonahoboligdaaDoor
