/-
  DERIVED. GIVEN WITH THE SEED: THE CARDS: each row of YtinjjaoikofkdaaDoorRows.lean that lists a variable, with what it lists TIED to the program's text (the seventh form; the later family's looks); each row that meets fmt, with fmt's text TOLD by the authors' own Lean function (tested against real Go, not proved from fmt's source: count such statements apart). THE CARD IS WHAT COUNTS. Prove the row's statement (the work); the ties are given (YtinjjaoikofkdaaDoorTie.lean); close each card by the builder's one call (the guide's Derived/Test/ToyasCard.lean, 'card_holds'). Laid BY PROGRAM, IN A SANDBOX (cutbox-door.mjs). By AI agents, Wed Nov 11 2026. No macro, syntax, notation, axiom, sorry.
-/
import Derived.Test.YtinjjaoikofkdaaDoorRows
import GoSem.ClaimSeven
namespace Go.Proofs.YtinjjaoikofkdaaDoor
namespace Rows

/-- THE TIED CARD OF 'laws.FnExactParseBook'. -/
def fnExactParseBookCard : Claim7 := { stood := { row := fnExactParseBookRow, standIns := [], harness := (true, "d3f7219a4e7085742c93cc66ba2dbc35a49dd4095e1be21dbd7e59c3868689f0"), looks := false }, kinds := [], alts := [], laidByText := true, laidKinds := [.data, .pinned], laidTests := true, laidLooks := .later }
def FnExactParseBookCardSaid : Prop := Claim7.holds Tryd.pinned (.plain (OpenSpec.ofChange fnExactParseBookSpec)) fnExactParseBookCard

/-- THE SECOND FORM's CARD OF 'laws.FnExactParseBook'. -/
def fnExactParseBookUptoCard : Claim7 := { stood := { row := fnExactParseBookUptoRow, standIns := [], harness := (true, "d3f7219a4e7085742c93cc66ba2dbc35a49dd4095e1be21dbd7e59c3868689f0"), looks := false }, kinds := [], alts := [], laidByText := true, laidKinds := [.data, .pinned], laidTests := true, laidLooks := .later }
def FnExactParseBookUptoCardSaid : Prop := Claim7.holds Tryd.pinned (.plain (OpenSpec.upto fnExactParseBookSpec)) fnExactParseBookUptoCard
end Rows
end Go.Proofs.YtinjjaoikofkdaaDoor
