/-
  DERIVED. GIVEN WITH THE SEED: THE CARDS: each row of YteonahoboligdaaDoorRows.lean that lists a variable, with what it lists TIED to the program's text (the seventh form; the later family's looks); each row that meets fmt, with fmt's text TOLD by the authors' own Lean function (tested against real Go, not proved from fmt's source: count such statements apart). THE CARD IS WHAT COUNTS. Prove the row's statement (the work); the ties are given (YteonahoboligdaaDoorTie.lean); close each card by the builder's one call (the guide's Derived/Test/ToyasCard.lean, 'card_holds'). Laid BY PROGRAM, IN A SANDBOX (cutbox-door.mjs). By AI agents, Wed Nov 11 2026. No macro, syntax, notation, axiom, sorry.
-/
import Derived.Test.YteonahoboligdaaDoorRows
import GoSem.ClaimSeven
namespace Go.Proofs.YteonahoboligdaaDoor
namespace Rows

/-- THE TIED CARD OF 'laws.FnExactCosetsOf'. -/
def fnExactCosetsOfCard : Claim7 := { stood := { row := fnExactCosetsOfRow, standIns := [], harness := (true, "36830b2c1186b21549385a0942ffd7e7041d831de4d46e905e305308dc328bae"), looks := false }, kinds := [], alts := [], laidByText := true, laidKinds := [.data, .data], laidTests := true, laidLooks := .later }
def FnExactCosetsOfCardSaid : Prop := Claim7.holds Tryd.pinned (.plain (OpenSpec.ofChange fnExactCosetsOfSpec)) fnExactCosetsOfCard

/-- THE TIED CARD OF 'laws.FnExactQuotientLoop'. -/
def fnExactQuotientLoopCard : Claim7 := { stood := { row := fnExactQuotientLoopRow, standIns := [], harness := (true, "36830b2c1186b21549385a0942ffd7e7041d831de4d46e905e305308dc328bae"), looks := false }, kinds := [], alts := [], laidByText := true, laidKinds := [.data, .data], laidTests := true, laidLooks := .later }
def FnExactQuotientLoopCardSaid : Prop := Claim7.holds Tryd.pinned (.plain (OpenSpec.ofChange fnExactQuotientLoopSpec)) fnExactQuotientLoopCard

/-- THE SECOND FORM's CARD OF 'laws.FnExactCosetsOf'. -/
def fnExactCosetsOfUptoCard : Claim7 := { stood := { row := fnExactCosetsOfUptoRow, standIns := [], harness := (true, "36830b2c1186b21549385a0942ffd7e7041d831de4d46e905e305308dc328bae"), looks := false }, kinds := [], alts := [], laidByText := true, laidKinds := [.data, .data], laidTests := true, laidLooks := .later }
def FnExactCosetsOfUptoCardSaid : Prop := Claim7.holds Tryd.pinned (.plain (OpenSpec.upto fnExactCosetsOfSpec)) fnExactCosetsOfUptoCard

/-- THE SECOND FORM's CARD OF 'laws.FnExactQuotientLoop'. -/
def fnExactQuotientLoopUptoCard : Claim7 := { stood := { row := fnExactQuotientLoopUptoRow, standIns := [], harness := (true, "36830b2c1186b21549385a0942ffd7e7041d831de4d46e905e305308dc328bae"), looks := false }, kinds := [], alts := [], laidByText := true, laidKinds := [.data, .data], laidTests := true, laidLooks := .later }
def FnExactQuotientLoopUptoCardSaid : Prop := Claim7.holds Tryd.pinned (.plain (OpenSpec.upto fnExactQuotientLoopSpec)) fnExactQuotientLoopUptoCard
end Rows
end Go.Proofs.YteonahoboligdaaDoor
