/-
  DERIVED. GIVEN WITH THE SEED: THE CARDS: each row of YtocejggobgfccaaGreatDoorRows.lean that lists a variable, with what it lists TIED to the program's text (the seventh form; the later family's looks); each row that meets fmt, with fmt's text TOLD by the authors' own Lean function (tested against real Go, not proved from fmt's source: count such statements apart). THE CARD IS WHAT COUNTS. Prove the row's statement (the work); the ties are given (YtocejggobgfccaaGreatDoorTie.lean); close each card by the builder's one call (the guide's Derived/Test/ToyasCard.lean, 'card_holds'). Laid BY PROGRAM, IN A SANDBOX (cutbox-door.mjs). By AI agents, Wed Nov 11 2026. No macro, syntax, notation, axiom, sorry.
-/
import Derived.Test.YtocejggobgfccaaGreatDoorRows
import GoSem.ClaimSeven
namespace Go.Proofs.YtocejggobgfccaaGreatDoor
namespace Rows

/-- THE TIED CARD OF 'laws.FnExactNamesByLaw'. -/
def fnExactNamesByLawCard : Claim7 := { stood := { row := fnExactNamesByLawRow, standIns := [], harness := (true, "ab9e6b1e43f43edd4ab51dcfd7590d3e897046afb39e027eec6c1f09d07f8d5e"), looks := false }, kinds := [], alts := [], laidByText := true, laidKinds := [.data], laidTests := true, laidLooks := .later }
def FnExactNamesByLawCardSaid : Prop := Claim7.holds Tryz.pinned (.plain (OpenSpec.ofChange fnExactNamesByLawSpec)) fnExactNamesByLawCard

/-- THE SECOND FORM's CARD OF 'laws.FnExactNamesByLaw'. -/
def fnExactNamesByLawUptoCard : Claim7 := { stood := { row := fnExactNamesByLawUptoRow, standIns := [], harness := (true, "ab9e6b1e43f43edd4ab51dcfd7590d3e897046afb39e027eec6c1f09d07f8d5e"), looks := false }, kinds := [], alts := [], laidByText := true, laidKinds := [.data], laidTests := true, laidLooks := .later }
def FnExactNamesByLawUptoCardSaid : Prop := Claim7.holds Tryz.pinned (.plain (OpenSpec.upto fnExactNamesByLawSpec)) fnExactNamesByLawUptoCard
end Rows
end Go.Proofs.YtocejggobgfccaaGreatDoor
