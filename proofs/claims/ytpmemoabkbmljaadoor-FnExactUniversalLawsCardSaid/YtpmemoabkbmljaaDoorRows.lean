/-
  NARROWER THAN 'FOR EVERY INPUT', by the rows' own cells (each row's printed sentence says how): FnExactLawsOf: laid · FnExactLawFails: laid · FnExactIsUniversal: laid · FnExactUniversalLaws: laid.
  DERIVED. THE GIVEN ROWS OF THIS SEAT. 4 by the template 'for every input the law returns true; each argument reads behind the call as it read before'; 0 by the template 'total and deterministic' (their statements: YtpmemoabkbmljaaDoorTotals.lean).
  GIVEN WITH THE SEED: the statements are not yours to turn. If you find one false, say at which input.
  Laid BY PROGRAM, IN A SANDBOX (cutbox-rows.mjs): the forced cells as the released guide's own fill.sh prints them over the translation 85729962855fd64c… (all of the seat's roots in one cut). By AI agents, Wed Nov 11 2026. No macro, syntax, notation, axiom, sorry.
-/
import Derived.Test.YtpmemoabkbmljaaDoorChecked
import GoSem.Claim
import GoSem.ClaimJoined
import GoSem.ClaimMapViews
import Derived.JoinedTies
import Derived.KernelRfl
namespace Go.Proofs.YtpmemoabkbmljaaDoor
/- THE CELL 'sum', in the pinned program and in every row, IS THE sha256 OF THE DUMP (.gsa) THAT YtpmemoabkbmljaaDoorProg.lean LOADS. Nothing in Lean hashes anything: it is a label: what it is worth is what the hold of that sum in a sandbox is worth. -/
noncomputable def Tryd.pinned : Pinned := { name := "ytpmemoabkbmljaadoor", sum := "85729962855fd64cf5fa616481d97bd3e480f1fa7f85bd2b0d392f505bab853a", checked := Tryd.checked }
namespace Rows
def none {H : Type} : Left H := { results := [], args := [] }

/- WHAT THE LISTED PACKAGE-LEVEL VARIABLES READ AS WHEN THE CALL BEGINS. Each datum BY PROGRAM (the guide's laid-datum.mjs) off the statement by which the dump's own 'gosem.cut.vars' lays the variable. In a bare row this is a premise. The card (YtpmemoabkbmljaaDoorCards.lean) ties it to the program's text. -/
def laid_loop_example_g01195_impl_lawTexts {H : Type} : DataW H := .agg [.lit (.string [40, 101, 47, 120, 41, 42, 40, 120, 42, 121, 41, 61, 121]), .lit (.string [40, 121, 42, 120, 41, 42, 40, 120, 92, 101, 41, 61, 121]), .lit (.string [40, 120, 42, 121, 41, 92, 101, 61, 40, 120, 92, 101, 41, 42, 40, 121, 92, 101, 41]), .lit (.string [40, 120, 42, 121, 41, 92, 101, 61, 40, 121, 92, 101, 41, 42, 40, 120, 92, 101, 41]), .lit (.string [120, 42, 40, 40, 121, 42, 120, 41, 92, 101, 41, 61, 121, 92, 101]), .lit (.string [40, 120, 42, 121, 41, 42, 40, 120, 92, 101, 41, 61, 121]), .lit (.string [120, 42, 40, 121, 42, 120, 41, 61, 40, 120, 42, 121, 41, 42, 120]), .lit (.string [120, 42, 40, 120, 42, 121, 41, 61, 40, 120, 42, 120, 41, 42, 121]), .lit (.string [40, 121, 42, 120, 41, 42, 120, 61, 121, 42, 40, 120, 42, 120, 41]), .lit (.string [120, 42, 40, 121, 42, 40, 120, 42, 122, 41, 41, 61, 40, 120, 42, 40, 121, 42, 120, 41, 41, 42, 122]), .lit (.string [40, 40, 122, 42, 120, 41, 42, 121, 41, 42, 120, 61, 122, 42, 40, 40, 120, 42, 121, 41, 42, 120, 41]), .lit (.string [40, 120, 42, 121, 41, 42, 40, 122, 42, 120, 41, 61, 40, 120, 42, 40, 121, 42, 122, 41, 41, 42, 120]), .lit (.string [120, 42, 40, 121, 42, 40, 122, 42, 120, 41, 41, 61, 40, 40, 120, 42, 121, 41, 42, 122, 41, 42, 120]), .lit (.string [120, 42, 40, 121, 42, 40, 121, 42, 122, 41, 41, 61, 40, 40, 120, 42, 121, 41, 42, 121, 41, 42, 122]), .lit (.string [120, 42, 40, 121, 42, 122, 41, 61, 40, 40, 120, 42, 121, 41, 47, 120, 41, 42, 40, 120, 42, 122, 41]), .lit (.string [40, 120, 42, 121, 41, 42, 122, 61, 40, 120, 42, 122, 41, 42, 40, 122, 92, 40, 121, 42, 122, 41, 41]), .lit (.string [120, 42, 121, 61, 121, 42, 120]), .lit (.string [40, 120, 42, 121, 41, 42, 122, 61, 120, 42, 40, 121, 42, 122, 41]), .lit (.string [120, 42, 120, 61, 101]), .lit (.string [120, 42, 40, 121, 42, 120, 41, 61, 121])]

/-- 'laws.FnExactLawsOf': WHATEVER THE INPUT: true; the input reads as it did. -/
def fnExactLawsOfSpec : ChangeSpec := { name := "fnExactLawsOf", vars := ["loop.example/g01195/impl.lawTexts"], fn := fun _ => fun
  | [d, g1] => { results := [.lit (.bool true)], args := [d], vars := [g1] }
  | _ => none }
def fnExactLawsOfRow : OpenClaim := { program := "ytpmemoabkbmljaadoor", sum := "85729962855fd64cf5fa616481d97bd3e480f1fa7f85bd2b0d392f505bab853a", func := "loop.example/g01195/laws.FnExactLawsOf", spec := "fnExactLawsOf", unfollowed := true, recurses := true, named := ["loop.example/g01195/impl.lawTexts"], apart := false, laid := [("loop.example/g01195/impl.lawTexts", laid_loop_example_g01195_impl_lawTexts)] }
def FnExactLawsOfSaid : Prop := fnExactLawsOfRow.holds Tryd.pinned (OpenSpec.ofChange fnExactLawsOfSpec)

/-- ITS FALSE NEIGHBOUR: 'it returns false'. Refute it at one input. -/
def fnExactLawsOfWrong : ChangeSpec := { name := "fnExactLawsOf", vars := ["loop.example/g01195/impl.lawTexts"], fn := fun _ => fun
  | [d, g1] => { results := [.lit (.bool false)], args := [d], vars := [g1] }
  | _ => none }
def FnExactLawsOfWrongFalsely : Prop := fnExactLawsOfRow.holds Tryd.pinned (OpenSpec.ofChange fnExactLawsOfWrong)

/-- 'laws.FnExactLawFails': WHATEVER THE INPUT: true; the input reads as it did. -/
def fnExactLawFailsSpec : ChangeSpec := { name := "fnExactLawFails", vars := ["loop.example/g01195/impl.lawTexts"], fn := fun _ => fun
  | [d1, d2, g1] => { results := [.lit (.bool true)], args := [d1, d2], vars := [g1] }
  | _ => none }
def fnExactLawFailsRow : OpenClaim := { program := "ytpmemoabkbmljaadoor", sum := "85729962855fd64cf5fa616481d97bd3e480f1fa7f85bd2b0d392f505bab853a", func := "loop.example/g01195/laws.FnExactLawFails", spec := "fnExactLawFails", unfollowed := true, recurses := true, named := ["loop.example/g01195/impl.lawTexts"], apart := false, laid := [("loop.example/g01195/impl.lawTexts", laid_loop_example_g01195_impl_lawTexts)] }
def FnExactLawFailsSaid : Prop := fnExactLawFailsRow.holds Tryd.pinned (OpenSpec.ofChange fnExactLawFailsSpec)

/-- ITS FALSE NEIGHBOUR: 'it returns false'. Refute it at one input. -/
def fnExactLawFailsWrong : ChangeSpec := { name := "fnExactLawFails", vars := ["loop.example/g01195/impl.lawTexts"], fn := fun _ => fun
  | [d1, d2, g1] => { results := [.lit (.bool false)], args := [d1, d2], vars := [g1] }
  | _ => none }
def FnExactLawFailsWrongFalsely : Prop := fnExactLawFailsRow.holds Tryd.pinned (OpenSpec.ofChange fnExactLawFailsWrong)

/-- 'laws.FnExactIsUniversal': WHATEVER THE INPUT: true; the input reads as it did. -/
def fnExactIsUniversalSpec : ChangeSpec := { name := "fnExactIsUniversal", vars := ["loop.example/g01195/impl.lawTexts"], fn := fun _ => fun
  | [d1, d2, g1] => { results := [.lit (.bool true)], args := [d1, d2], vars := [g1] }
  | _ => none }
def fnExactIsUniversalRow : OpenClaim := { program := "ytpmemoabkbmljaadoor", sum := "85729962855fd64cf5fa616481d97bd3e480f1fa7f85bd2b0d392f505bab853a", func := "loop.example/g01195/laws.FnExactIsUniversal", spec := "fnExactIsUniversal", unfollowed := true, recurses := true, named := ["loop.example/g01195/impl.lawTexts"], apart := false, laid := [("loop.example/g01195/impl.lawTexts", laid_loop_example_g01195_impl_lawTexts)] }
def FnExactIsUniversalSaid : Prop := fnExactIsUniversalRow.holds Tryd.pinned (OpenSpec.ofChange fnExactIsUniversalSpec)

/-- ITS FALSE NEIGHBOUR: 'it returns false'. Refute it at one input. -/
def fnExactIsUniversalWrong : ChangeSpec := { name := "fnExactIsUniversal", vars := ["loop.example/g01195/impl.lawTexts"], fn := fun _ => fun
  | [d1, d2, g1] => { results := [.lit (.bool false)], args := [d1, d2], vars := [g1] }
  | _ => none }
def FnExactIsUniversalWrongFalsely : Prop := fnExactIsUniversalRow.holds Tryd.pinned (OpenSpec.ofChange fnExactIsUniversalWrong)

/-- 'laws.FnExactUniversalLaws': WHATEVER THE INPUT: true; the input reads as it did. -/
def fnExactUniversalLawsSpec : ChangeSpec := { name := "fnExactUniversalLaws", vars := ["loop.example/g01195/impl.lawTexts"], fn := fun _ => fun
  | [d, g1] => { results := [.lit (.bool true)], args := [d], vars := [g1] }
  | _ => none }
def fnExactUniversalLawsRow : OpenClaim := { program := "ytpmemoabkbmljaadoor", sum := "85729962855fd64cf5fa616481d97bd3e480f1fa7f85bd2b0d392f505bab853a", func := "loop.example/g01195/laws.FnExactUniversalLaws", spec := "fnExactUniversalLaws", unfollowed := true, recurses := true, named := ["loop.example/g01195/impl.lawTexts"], apart := false, laid := [("loop.example/g01195/impl.lawTexts", laid_loop_example_g01195_impl_lawTexts)] }
def FnExactUniversalLawsSaid : Prop := fnExactUniversalLawsRow.holds Tryd.pinned (OpenSpec.ofChange fnExactUniversalLawsSpec)

/-- ITS FALSE NEIGHBOUR: 'it returns false'. Refute it at one input. -/
def fnExactUniversalLawsWrong : ChangeSpec := { name := "fnExactUniversalLaws", vars := ["loop.example/g01195/impl.lawTexts"], fn := fun _ => fun
  | [d, g1] => { results := [.lit (.bool false)], args := [d], vars := [g1] }
  | _ => none }
def FnExactUniversalLawsWrongFalsely : Prop := fnExactUniversalLawsRow.holds Tryd.pinned (OpenSpec.ofChange fnExactUniversalLawsWrong)

/- THE SECOND FORM. 'bulk': how many values and letters a reading holds, each counted each time it is reached (what is shared counts as often as it is met; a slice's spare places count too). A statement '..UptoSaid' is the law's where the arguments, and the package variables that the reading takes, are together of bulk at most 1048576: NARROWER than '..Said'. Prove '..Said' where nothing that the law and all that it calls make is longer than what came in: it says more and counts as full. Else prove '..UptoSaid'. A law counts once. -/
mutual
def uptoBulk {H : Type} : DataW H → Nat
  | .lit (.string bytes) => bytes.length + 1
  | .lit _ => 1
  | .nil => 1
  | .ptr d => uptoBulk d + 1
  | .slice elems spare => uptoBulkAll elems + uptoBulkAll spare + 1
  | .agg parts => uptoBulkAll parts + 1
  | .iface _ d => uptoBulk d + 1
  | .map entries => uptoBulkEntries entries + 1
  | .held _ => 1
def uptoBulkAll {H : Type} : List (DataW H) → Nat
  | [] => 0
  | d :: r => uptoBulk d + uptoBulkAll r
def uptoBulkEntries {H : Type} : List (Lit × DataW H) → Nat
  | [] => 0
  | x :: r => uptoBulkEntry x + uptoBulkEntries r
def uptoBulkEntry {H : Type} : Lit × DataW H → Nat
  | (.string bytes, d) => bytes.length + uptoBulk d + 1
  | (_, d) => uptoBulk d + 1
 end
def uptoSmall : (H : Type) → List (DataW H) → Bool := fun _ ds => decide (uptoBulkAll ds ≤ 1048576)
def OpenSpec.upto (s : _root_.Go.ChangeSpec) : _root_.Go.OpenSpec := { _root_.Go.OpenSpec.ofChange s with cond := some uptoSmall }

/-- 'laws.FnExactLawsOf', WHERE WHAT IT READS IS OF BULK AT MOST 1048576: true; the input reads as it did. -/
def fnExactLawsOfUptoRow : OpenClaim := { program := "ytpmemoabkbmljaadoor", sum := "85729962855fd64cf5fa616481d97bd3e480f1fa7f85bd2b0d392f505bab853a", func := "loop.example/g01195/laws.FnExactLawsOf", spec := "fnExactLawsOf", unfollowed := true, recurses := true, named := ["loop.example/g01195/impl.lawTexts"], apart := false, laid := [("loop.example/g01195/impl.lawTexts", laid_loop_example_g01195_impl_lawTexts)], narrowed := true }
def FnExactLawsOfUptoSaid : Prop := fnExactLawsOfUptoRow.holds Tryd.pinned (OpenSpec.upto fnExactLawsOfSpec)

/-- 'laws.FnExactLawFails', WHERE WHAT IT READS IS OF BULK AT MOST 1048576: true; the input reads as it did. -/
def fnExactLawFailsUptoRow : OpenClaim := { program := "ytpmemoabkbmljaadoor", sum := "85729962855fd64cf5fa616481d97bd3e480f1fa7f85bd2b0d392f505bab853a", func := "loop.example/g01195/laws.FnExactLawFails", spec := "fnExactLawFails", unfollowed := true, recurses := true, named := ["loop.example/g01195/impl.lawTexts"], apart := false, laid := [("loop.example/g01195/impl.lawTexts", laid_loop_example_g01195_impl_lawTexts)], narrowed := true }
def FnExactLawFailsUptoSaid : Prop := fnExactLawFailsUptoRow.holds Tryd.pinned (OpenSpec.upto fnExactLawFailsSpec)

/-- 'laws.FnExactIsUniversal', WHERE WHAT IT READS IS OF BULK AT MOST 1048576: true; the input reads as it did. -/
def fnExactIsUniversalUptoRow : OpenClaim := { program := "ytpmemoabkbmljaadoor", sum := "85729962855fd64cf5fa616481d97bd3e480f1fa7f85bd2b0d392f505bab853a", func := "loop.example/g01195/laws.FnExactIsUniversal", spec := "fnExactIsUniversal", unfollowed := true, recurses := true, named := ["loop.example/g01195/impl.lawTexts"], apart := false, laid := [("loop.example/g01195/impl.lawTexts", laid_loop_example_g01195_impl_lawTexts)], narrowed := true }
def FnExactIsUniversalUptoSaid : Prop := fnExactIsUniversalUptoRow.holds Tryd.pinned (OpenSpec.upto fnExactIsUniversalSpec)

/-- 'laws.FnExactUniversalLaws', WHERE WHAT IT READS IS OF BULK AT MOST 1048576: true; the input reads as it did. -/
def fnExactUniversalLawsUptoRow : OpenClaim := { program := "ytpmemoabkbmljaadoor", sum := "85729962855fd64cf5fa616481d97bd3e480f1fa7f85bd2b0d392f505bab853a", func := "loop.example/g01195/laws.FnExactUniversalLaws", spec := "fnExactUniversalLaws", unfollowed := true, recurses := true, named := ["loop.example/g01195/impl.lawTexts"], apart := false, laid := [("loop.example/g01195/impl.lawTexts", laid_loop_example_g01195_impl_lawTexts)], narrowed := true }
def FnExactUniversalLawsUptoSaid : Prop := fnExactUniversalLawsUptoRow.holds Tryd.pinned (OpenSpec.upto fnExactUniversalLawsSpec)

end Rows
end Go.Proofs.YtpmemoabkbmljaaDoor
