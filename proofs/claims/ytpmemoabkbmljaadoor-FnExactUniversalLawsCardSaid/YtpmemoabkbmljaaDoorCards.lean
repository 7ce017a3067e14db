/-
  DERIVED. GIVEN WITH THE SEED: THE CARDS: each row of YtpmemoabkbmljaaDoorRows.lean that lists a variable, with what it lists TIED to the program's text (the seventh form; the later family's looks); each row that meets fmt, with fmt's text TOLD by the authors' own Lean function (tested against real Go, not proved from fmt's source: count such statements apart). THE CARD IS WHAT COUNTS. Prove the row's statement (the work); the ties are given (YtpmemoabkbmljaaDoorTie.lean); close each card by the builder's one call (the guide's Derived/Test/ToyasCard.lean, 'card_holds'). Laid BY PROGRAM, IN A SANDBOX (cutbox-door.mjs). By AI agents, Wed Nov 11 2026. No macro, syntax, notation, axiom, sorry.
-/
import Derived.Test.YtpmemoabkbmljaaDoorRows
import GoSem.ClaimSeven
namespace Go.Proofs.YtpmemoabkbmljaaDoor
namespace Rows

/-- THE TIED CARD OF 'laws.FnExactLawsOf'. -/
def fnExactLawsOfCard : Claim7 := { stood := { row := fnExactLawsOfRow, standIns := [], harness := (true, "b20a6dcff4c6652110732fb30255711ae1ea1b7236f03d2a55c31920c2d9bfd2"), looks := false }, kinds := [], alts := [], laidByText := true, laidKinds := [.data], laidTests := true, laidLooks := .later }
def FnExactLawsOfCardSaid : Prop := Claim7.holds Tryd.pinned (.plain (OpenSpec.ofChange fnExactLawsOfSpec)) fnExactLawsOfCard

/-- THE TIED CARD OF 'laws.FnExactLawFails'. -/
def fnExactLawFailsCard : Claim7 := { stood := { row := fnExactLawFailsRow, standIns := [], harness := (true, "b20a6dcff4c6652110732fb30255711ae1ea1b7236f03d2a55c31920c2d9bfd2"), looks := false }, kinds := [], alts := [], laidByText := true, laidKinds := [.data], laidTests := true, laidLooks := .later }
def FnExactLawFailsCardSaid : Prop := Claim7.holds Tryd.pinned (.plain (OpenSpec.ofChange fnExactLawFailsSpec)) fnExactLawFailsCard

/-- THE TIED CARD OF 'laws.FnExactIsUniversal'. -/
def fnExactIsUniversalCard : Claim7 := { stood := { row := fnExactIsUniversalRow, standIns := [], harness := (true, "b20a6dcff4c6652110732fb30255711ae1ea1b7236f03d2a55c31920c2d9bfd2"), looks := false }, kinds := [], alts := [], laidByText := true, laidKinds := [.data], laidTests := true, laidLooks := .later }
def FnExactIsUniversalCardSaid : Prop := Claim7.holds Tryd.pinned (.plain (OpenSpec.ofChange fnExactIsUniversalSpec)) fnExactIsUniversalCard

/-- THE TIED CARD OF 'laws.FnExactUniversalLaws'. -/
def fnExactUniversalLawsCard : Claim7 := { stood := { row := fnExactUniversalLawsRow, standIns := [], harness := (true, "b20a6dcff4c6652110732fb30255711ae1ea1b7236f03d2a55c31920c2d9bfd2"), looks := false }, kinds := [], alts := [], laidByText := true, laidKinds := [.data], laidTests := true, laidLooks := .later }
def FnExactUniversalLawsCardSaid : Prop := Claim7.holds Tryd.pinned (.plain (OpenSpec.ofChange fnExactUniversalLawsSpec)) fnExactUniversalLawsCard

/-- THE SECOND FORM's CARD OF 'laws.FnExactLawsOf'. -/
def fnExactLawsOfUptoCard : Claim7 := { stood := { row := fnExactLawsOfUptoRow, standIns := [], harness := (true, "b20a6dcff4c6652110732fb30255711ae1ea1b7236f03d2a55c31920c2d9bfd2"), looks := false }, kinds := [], alts := [], laidByText := true, laidKinds := [.data], laidTests := true, laidLooks := .later }
def FnExactLawsOfUptoCardSaid : Prop := Claim7.holds Tryd.pinned (.plain (OpenSpec.upto fnExactLawsOfSpec)) fnExactLawsOfUptoCard

/-- THE SECOND FORM's CARD OF 'laws.FnExactLawFails'. -/
def fnExactLawFailsUptoCard : Claim7 := { stood := { row := fnExactLawFailsUptoRow, standIns := [], harness := (true, "b20a6dcff4c6652110732fb30255711ae1ea1b7236f03d2a55c31920c2d9bfd2"), looks := false }, kinds := [], alts := [], laidByText := true, laidKinds := [.data], laidTests := true, laidLooks := .later }
def FnExactLawFailsUptoCardSaid : Prop := Claim7.holds Tryd.pinned (.plain (OpenSpec.upto fnExactLawFailsSpec)) fnExactLawFailsUptoCard

/-- THE SECOND FORM's CARD OF 'laws.FnExactIsUniversal'. -/
def fnExactIsUniversalUptoCard : Claim7 := { stood := { row := fnExactIsUniversalUptoRow, standIns := [], harness := (true, "b20a6dcff4c6652110732fb30255711ae1ea1b7236f03d2a55c31920c2d9bfd2"), looks := false }, kinds := [], alts := [], laidByText := true, laidKinds := [.data], laidTests := true, laidLooks := .later }
def FnExactIsUniversalUptoCardSaid : Prop := Claim7.holds Tryd.pinned (.plain (OpenSpec.upto fnExactIsUniversalSpec)) fnExactIsUniversalUptoCard

/-- THE SECOND FORM's CARD OF 'laws.FnExactUniversalLaws'. -/
def fnExactUniversalLawsUptoCard : Claim7 := { stood := { row := fnExactUniversalLawsUptoRow, standIns := [], harness := (true, "b20a6dcff4c6652110732fb30255711ae1ea1b7236f03d2a55c31920c2d9bfd2"), looks := false }, kinds := [], alts := [], laidByText := true, laidKinds := [.data], laidTests := true, laidLooks := .later }
def FnExactUniversalLawsUptoCardSaid : Prop := Claim7.holds Tryd.pinned (.plain (OpenSpec.upto fnExactUniversalLawsSpec)) fnExactUniversalLawsUptoCard
end Rows
end Go.Proofs.YtpmemoabkbmljaaDoor
