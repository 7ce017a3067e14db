/-
  No cell of these rows narrows 'for every input' (looked for: loops, veiled, ifaces, maps, wideKeys, modest, calm, conditions, laid).
  DERIVED. THE GIVEN ROWS OF THIS SEAT. 6 by the template 'for every input the law returns true; each argument reads behind the call as it read before'; 0 by the template 'total and deterministic' (their statements: YteonahoboligdaaTotals.lean).
  GIVEN WITH THE SEED: the statements are not yours to turn. If you find one false, say at which input.
  Laid BY PROGRAM, IN A SANDBOX (cutbox-rows.mjs): the forced cells as the released guide's own fill.sh prints them over the translation dd5adff90e59fdbc… (all of the seat's roots in one cut). By AI agents, Wed Nov 11 2026. No macro, syntax, notation, axiom, sorry.
-/
import Derived.Test.YteonahoboligdaaChecked
import GoSem.Claim
import GoSem.ClaimJoined
import GoSem.ClaimMapViews
import Derived.JoinedTies
import Derived.KernelRfl
namespace Go.Proofs.Yteonahoboligdaa
/- THE CELL 'sum', in the pinned program and in every row, IS THE sha256 OF THE DUMP (.gsa) THAT YteonahoboligdaaProg.lean LOADS. Nothing in Lean hashes anything: it is a label: what it is worth is what the hold of that sum in a sandbox is worth. -/
noncomputable def Try.pinned : Pinned := { name := "yteonahoboligdaa", sum := "dd5adff90e59fdbc299b806a849833e051e069de171018bc849b6f302cbc6b2d", checked := Try.checked }
namespace Rows
def none {H : Type} : Left H := { results := [], args := [] }

/-- 'laws.FnExactIsRowHamiltonian': WHATEVER THE INPUT: true; the input reads as it did. -/
def fnExactIsRowHamiltonianSpec : ChangeSpec := { name := "fnExactIsRowHamiltonian", fn := fun _ => fun
  | [d] => { results := [.lit (.bool true)], args := [d] }
  | _ => none }
def fnExactIsRowHamiltonianRow : OpenClaim := { program := "yteonahoboligdaa", sum := "dd5adff90e59fdbc299b806a849833e051e069de171018bc849b6f302cbc6b2d", func := "loop.example/g01195/laws.FnExactIsRowHamiltonian", spec := "fnExactIsRowHamiltonian", unfollowed := true, recurses := true, apart := false }
def FnExactIsRowHamiltonianSaid : Prop := fnExactIsRowHamiltonianRow.holds Try.pinned (OpenSpec.ofChange fnExactIsRowHamiltonianSpec)

/-- ITS FALSE NEIGHBOUR: 'it returns false'. Refute it at one input. -/
def fnExactIsRowHamiltonianWrong : ChangeSpec := { name := "fnExactIsRowHamiltonian", fn := fun _ => fun
  | [d] => { results := [.lit (.bool false)], args := [d] }
  | _ => none }
def FnExactIsRowHamiltonianWrongFalsely : Prop := fnExactIsRowHamiltonianRow.holds Try.pinned (OpenSpec.ofChange fnExactIsRowHamiltonianWrong)

/-- 'laws.FnExactRowCycles': WHATEVER THE INPUT: true; the input reads as it did. -/
def fnExactRowCyclesSpec : ChangeSpec := { name := "fnExactRowCycles", fn := fun _ => fun
  | [d1, d2, d3] => { results := [.lit (.bool true)], args := [d1, d2, d3] }
  | _ => none }
def fnExactRowCyclesRow : OpenClaim := { program := "yteonahoboligdaa", sum := "dd5adff90e59fdbc299b806a849833e051e069de171018bc849b6f302cbc6b2d", func := "loop.example/g01195/laws.FnExactRowCycles", spec := "fnExactRowCycles", recurses := true, apart := false }
def FnExactRowCyclesSaid : Prop := fnExactRowCyclesRow.holds Try.pinned (OpenSpec.ofChange fnExactRowCyclesSpec)

/-- ITS FALSE NEIGHBOUR: 'it returns false'. Refute it at one input. -/
def fnExactRowCyclesWrong : ChangeSpec := { name := "fnExactRowCycles", fn := fun _ => fun
  | [d1, d2, d3] => { results := [.lit (.bool false)], args := [d1, d2, d3] }
  | _ => none }
def FnExactRowCyclesWrongFalsely : Prop := fnExactRowCyclesRow.holds Try.pinned (OpenSpec.ofChange fnExactRowCyclesWrong)

/-- 'laws.FnExactIsSimpleLoop': WHATEVER THE INPUT: true; the input reads as it did. -/
def fnExactIsSimpleLoopSpec : ChangeSpec := { name := "fnExactIsSimpleLoop", fn := fun _ => fun
  | [d] => { results := [.lit (.bool true)], args := [d] }
  | _ => none }
def fnExactIsSimpleLoopRow : OpenClaim := { program := "yteonahoboligdaa", sum := "dd5adff90e59fdbc299b806a849833e051e069de171018bc849b6f302cbc6b2d", func := "loop.example/g01195/laws.FnExactIsSimpleLoop", spec := "fnExactIsSimpleLoop", unfollowed := true, recurses := true, apart := false }
def FnExactIsSimpleLoopSaid : Prop := fnExactIsSimpleLoopRow.holds Try.pinned (OpenSpec.ofChange fnExactIsSimpleLoopSpec)

/-- ITS FALSE NEIGHBOUR: 'it returns false'. Refute it at one input. -/
def fnExactIsSimpleLoopWrong : ChangeSpec := { name := "fnExactIsSimpleLoop", fn := fun _ => fun
  | [d] => { results := [.lit (.bool false)], args := [d] }
  | _ => none }
def FnExactIsSimpleLoopWrongFalsely : Prop := fnExactIsSimpleLoopRow.holds Try.pinned (OpenSpec.ofChange fnExactIsSimpleLoopWrong)

/-- 'laws.FnExactAllSubloops': WHATEVER THE INPUT: true; the input reads as it did. -/
def fnExactAllSubloopsSpec : ChangeSpec := { name := "fnExactAllSubloops", fn := fun _ => fun
  | [d] => { results := [.lit (.bool true)], args := [d] }
  | _ => none }
def fnExactAllSubloopsRow : OpenClaim := { program := "yteonahoboligdaa", sum := "dd5adff90e59fdbc299b806a849833e051e069de171018bc849b6f302cbc6b2d", func := "loop.example/g01195/laws.FnExactAllSubloops", spec := "fnExactAllSubloops", unfollowed := true, recurses := true, apart := false }
def FnExactAllSubloopsSaid : Prop := fnExactAllSubloopsRow.holds Try.pinned (OpenSpec.ofChange fnExactAllSubloopsSpec)

/-- ITS FALSE NEIGHBOUR: 'it returns false'. Refute it at one input. -/
def fnExactAllSubloopsWrong : ChangeSpec := { name := "fnExactAllSubloops", fn := fun _ => fun
  | [d] => { results := [.lit (.bool false)], args := [d] }
  | _ => none }
def FnExactAllSubloopsWrongFalsely : Prop := fnExactAllSubloopsRow.holds Try.pinned (OpenSpec.ofChange fnExactAllSubloopsWrong)

/-- 'laws.FnExactFrattiniOf': WHATEVER THE INPUT: true; the input reads as it did. -/
def fnExactFrattiniOfSpec : ChangeSpec := { name := "fnExactFrattiniOf", fn := fun _ => fun
  | [d] => { results := [.lit (.bool true)], args := [d] }
  | _ => none }
def fnExactFrattiniOfRow : OpenClaim := { program := "yteonahoboligdaa", sum := "dd5adff90e59fdbc299b806a849833e051e069de171018bc849b6f302cbc6b2d", func := "loop.example/g01195/laws.FnExactFrattiniOf", spec := "fnExactFrattiniOf", unfollowed := true, recurses := true, apart := false }
def FnExactFrattiniOfSaid : Prop := fnExactFrattiniOfRow.holds Try.pinned (OpenSpec.ofChange fnExactFrattiniOfSpec)

/-- ITS FALSE NEIGHBOUR: 'it returns false'. Refute it at one input. -/
def fnExactFrattiniOfWrong : ChangeSpec := { name := "fnExactFrattiniOf", fn := fun _ => fun
  | [d] => { results := [.lit (.bool false)], args := [d] }
  | _ => none }
def FnExactFrattiniOfWrongFalsely : Prop := fnExactFrattiniOfRow.holds Try.pinned (OpenSpec.ofChange fnExactFrattiniOfWrong)

/-- 'laws.FnExactAllNormal': WHATEVER THE INPUT: true; the input reads as it did. -/
def fnExactAllNormalSpec : ChangeSpec := { name := "fnExactAllNormal", fn := fun _ => fun
  | [d] => { results := [.lit (.bool true)], args := [d] }
  | _ => none }
def fnExactAllNormalRow : OpenClaim := { program := "yteonahoboligdaa", sum := "dd5adff90e59fdbc299b806a849833e051e069de171018bc849b6f302cbc6b2d", func := "loop.example/g01195/laws.FnExactAllNormal", spec := "fnExactAllNormal", unfollowed := true, recurses := true, apart := false }
def FnExactAllNormalSaid : Prop := fnExactAllNormalRow.holds Try.pinned (OpenSpec.ofChange fnExactAllNormalSpec)

/-- ITS FALSE NEIGHBOUR: 'it returns false'. Refute it at one input. -/
def fnExactAllNormalWrong : ChangeSpec := { name := "fnExactAllNormal", fn := fun _ => fun
  | [d] => { results := [.lit (.bool false)], args := [d] }
  | _ => none }
def FnExactAllNormalWrongFalsely : Prop := fnExactAllNormalRow.holds Try.pinned (OpenSpec.ofChange fnExactAllNormalWrong)

/- THE SECOND FORM. 'bulk': how many values and letters a reading holds, each counted each time it is reached (what is shared counts as often as it is met; a slice's spare places count too). A statement '..UptoSaid' is the law's where the arguments, and the package variables that the reading takes, are together of bulk at most 1048576: NARROWER than '..Said'. Prove '..Said' where nothing that the law and all that it calls make is longer than what came in: it says more and counts as full. Else prove '..UptoSaid'. A law counts once. -/
mutual
def uptoBulk {H : Type} : DataW H → Nat
  | .lit (.string bytes) => bytes.length + 1
  | .lit _ => 1
  | .nil => 1
  | .ptr d => uptoBulk d + 1
  | .slice elems spare => uptoBulkAll elems + uptoBulkAll spare + 1
  | .agg parts => uptoBulkAll parts + 1
  | .iface _ d => uptoBulk d + 1
  | .map entries => uptoBulkEntries entries + 1
  | .held _ => 1
def uptoBulkAll {H : Type} : List (DataW H) → Nat
  | [] => 0
  | d :: r => uptoBulk d + uptoBulkAll r
def uptoBulkEntries {H : Type} : List (Lit × DataW H) → Nat
  | [] => 0
  | x :: r => uptoBulkEntry x + uptoBulkEntries r
def uptoBulkEntry {H : Type} : Lit × DataW H → Nat
  | (.string bytes, d) => bytes.length + uptoBulk d + 1
  | (_, d) => uptoBulk d + 1
 end
def uptoSmall : (H : Type) → List (DataW H) → Bool := fun _ ds => decide (uptoBulkAll ds ≤ 1048576)
def OpenSpec.upto (s : _root_.Go.ChangeSpec) : _root_.Go.OpenSpec := { _root_.Go.OpenSpec.ofChange s with cond := some uptoSmall }

/-- 'laws.FnExactIsRowHamiltonian', WHERE WHAT IT READS IS OF BULK AT MOST 1048576: true; the input reads as it did. -/
def fnExactIsRowHamiltonianUptoRow : OpenClaim := { program := "yteonahoboligdaa", sum := "dd5adff90e59fdbc299b806a849833e051e069de171018bc849b6f302cbc6b2d", func := "loop.example/g01195/laws.FnExactIsRowHamiltonian", spec := "fnExactIsRowHamiltonian", unfollowed := true, recurses := true, apart := false, narrowed := true }
def FnExactIsRowHamiltonianUptoSaid : Prop := fnExactIsRowHamiltonianUptoRow.holds Try.pinned (OpenSpec.upto fnExactIsRowHamiltonianSpec)

/-- 'laws.FnExactRowCycles', WHERE WHAT IT READS IS OF BULK AT MOST 1048576: true; the input reads as it did. -/
def fnExactRowCyclesUptoRow : OpenClaim := { program := "yteonahoboligdaa", sum := "dd5adff90e59fdbc299b806a849833e051e069de171018bc849b6f302cbc6b2d", func := "loop.example/g01195/laws.FnExactRowCycles", spec := "fnExactRowCycles", recurses := true, apart := false, narrowed := true }
def FnExactRowCyclesUptoSaid : Prop := fnExactRowCyclesUptoRow.holds Try.pinned (OpenSpec.upto fnExactRowCyclesSpec)

/-- 'laws.FnExactIsSimpleLoop', WHERE WHAT IT READS IS OF BULK AT MOST 1048576: true; the input reads as it did. -/
def fnExactIsSimpleLoopUptoRow : OpenClaim := { program := "yteonahoboligdaa", sum := "dd5adff90e59fdbc299b806a849833e051e069de171018bc849b6f302cbc6b2d", func := "loop.example/g01195/laws.FnExactIsSimpleLoop", spec := "fnExactIsSimpleLoop", unfollowed := true, recurses := true, apart := false, narrowed := true }
def FnExactIsSimpleLoopUptoSaid : Prop := fnExactIsSimpleLoopUptoRow.holds Try.pinned (OpenSpec.upto fnExactIsSimpleLoopSpec)

/-- 'laws.FnExactAllSubloops', WHERE WHAT IT READS IS OF BULK AT MOST 1048576: true; the input reads as it did. -/
def fnExactAllSubloopsUptoRow : OpenClaim := { program := "yteonahoboligdaa", sum := "dd5adff90e59fdbc299b806a849833e051e069de171018bc849b6f302cbc6b2d", func := "loop.example/g01195/laws.FnExactAllSubloops", spec := "fnExactAllSubloops", unfollowed := true, recurses := true, apart := false, narrowed := true }
def FnExactAllSubloopsUptoSaid : Prop := fnExactAllSubloopsUptoRow.holds Try.pinned (OpenSpec.upto fnExactAllSubloopsSpec)

/-- 'laws.FnExactFrattiniOf', WHERE WHAT IT READS IS OF BULK AT MOST 1048576: true; the input reads as it did. -/
def fnExactFrattiniOfUptoRow : OpenClaim := { program := "yteonahoboligdaa", sum := "dd5adff90e59fdbc299b806a849833e051e069de171018bc849b6f302cbc6b2d", func := "loop.example/g01195/laws.FnExactFrattiniOf", spec := "fnExactFrattiniOf", unfollowed := true, recurses := true, apart := false, narrowed := true }
def FnExactFrattiniOfUptoSaid : Prop := fnExactFrattiniOfUptoRow.holds Try.pinned (OpenSpec.upto fnExactFrattiniOfSpec)

/-- 'laws.FnExactAllNormal', WHERE WHAT IT READS IS OF BULK AT MOST 1048576: true; the input reads as it did. -/
def fnExactAllNormalUptoRow : OpenClaim := { program := "yteonahoboligdaa", sum := "dd5adff90e59fdbc299b806a849833e051e069de171018bc849b6f302cbc6b2d", func := "loop.example/g01195/laws.FnExactAllNormal", spec := "fnExactAllNormal", unfollowed := true, recurses := true, apart := false, narrowed := true }
def FnExactAllNormalUptoSaid : Prop := fnExactAllNormalUptoRow.holds Try.pinned (OpenSpec.upto fnExactAllNormalSpec)

end Rows
end Go.Proofs.Yteonahoboligdaa
