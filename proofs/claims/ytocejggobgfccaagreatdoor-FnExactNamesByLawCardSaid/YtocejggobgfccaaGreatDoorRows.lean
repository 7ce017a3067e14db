/-
  NARROWER THAN 'FOR EVERY INPUT', by the rows' own cells (each row's printed sentence says how): FnExactNamesByLaw: laid.
  DERIVED. THE GIVEN ROWS OF THIS SEAT. 1 by the template 'for every input the law returns true; each argument reads behind the call as it read before'; 0 by the template 'total and deterministic' (their statements: YtocejggobgfccaaGreatDoorTotals.lean).
  GIVEN WITH THE SEED: the statements are not yours to turn. If you find one false, say at which input.
  Laid BY PROGRAM, IN A SANDBOX (cutbox-rows.mjs): the forced cells as the released guide's own fill.sh prints them over the translation 8622fd706c230306… (all of the seat's roots in one cut). By AI agents, Wed Nov 11 2026. No macro, syntax, notation, axiom, sorry.
-/
import Derived.Test.YtocejggobgfccaaGreatDoorChecked
import GoSem.Claim
import GoSem.ClaimJoined
import GoSem.ClaimMapViews
import Derived.JoinedTies
import Derived.KernelRfl
namespace Go.Proofs.YtocejggobgfccaaGreatDoor
/- THE CELL 'sum', in the pinned program and in every row, IS THE sha256 OF THE DUMP (.gsa) THAT YtocejggobgfccaaGreatDoorProg.lean LOADS. Nothing in Lean hashes anything: it is a label: what it is worth is what the hold of that sum in a sandbox is worth. -/
noncomputable def Tryz.pinned : Pinned := { name := "ytocejggobgfccaagreatdoor", sum := "8622fd706c230306dfd37e611a7e032f813b8de2abc01443f10e6c9e3203d7aa", checked := Tryz.checked }
namespace Rows
def none {H : Type} : Left H := { results := [], args := [] }

/- WHAT THE LISTED PACKAGE-LEVEL VARIABLES READ AS WHEN THE CALL BEGINS. Each datum BY PROGRAM (the guide's laid-datum.mjs) off the statement by which the dump's own 'gosem.cut.vars' lays the variable. In a bare row this is a premise. The card (YtocejggobgfccaaGreatDoorCards.lean) ties it to the program's text. -/
def laid_loop_example_g01195_impl_lawTexts {H : Type} : DataW H := .agg [.lit (.string [40, 101, 47, 120, 41, 42, 40, 120, 42, 121, 41, 61, 121]), .lit (.string [40, 121, 42, 120, 41, 42, 40, 120, 92, 101, 41, 61, 121]), .lit (.string [40, 120, 42, 121, 41, 92, 101, 61, 40, 120, 92, 101, 41, 42, 40, 121, 92, 101, 41]), .lit (.string [40, 120, 42, 121, 41, 92, 101, 61, 40, 121, 92, 101, 41, 42, 40, 120, 92, 101, 41]), .lit (.string [120, 42, 40, 40, 121, 42, 120, 41, 92, 101, 41, 61, 121, 92, 101]), .lit (.string [40, 120, 42, 121, 41, 42, 40, 120, 92, 101, 41, 61, 121]), .lit (.string [120, 42, 40, 121, 42, 120, 41, 61, 40, 120, 42, 121, 41, 42, 120]), .lit (.string [120, 42, 40, 120, 42, 121, 41, 61, 40, 120, 42, 120, 41, 42, 121]), .lit (.string [40, 121, 42, 120, 41, 42, 120, 61, 121, 42, 40, 120, 42, 120, 41]), .lit (.string [120, 42, 40, 121, 42, 40, 120, 42, 122, 41, 41, 61, 40, 120, 42, 40, 121, 42, 120, 41, 41, 42, 122]), .lit (.string [40, 40, 122, 42, 120, 41, 42, 121, 41, 42, 120, 61, 122, 42, 40, 40, 120, 42, 121, 41, 42, 120, 41]), .lit (.string [40, 120, 42, 121, 41, 42, 40, 122, 42, 120, 41, 61, 40, 120, 42, 40, 121, 42, 122, 41, 41, 42, 120]), .lit (.string [120, 42, 40, 121, 42, 40, 122, 42, 120, 41, 41, 61, 40, 40, 120, 42, 121, 41, 42, 122, 41, 42, 120]), .lit (.string [120, 42, 40, 121, 42, 40, 121, 42, 122, 41, 41, 61, 40, 40, 120, 42, 121, 41, 42, 121, 41, 42, 122]), .lit (.string [120, 42, 40, 121, 42, 122, 41, 61, 40, 40, 120, 42, 121, 41, 47, 120, 41, 42, 40, 120, 42, 122, 41]), .lit (.string [40, 120, 42, 121, 41, 42, 122, 61, 40, 120, 42, 122, 41, 42, 40, 122, 92, 40, 121, 42, 122, 41, 41]), .lit (.string [120, 42, 121, 61, 121, 42, 120]), .lit (.string [40, 120, 42, 121, 41, 42, 122, 61, 120, 42, 40, 121, 42, 122, 41]), .lit (.string [120, 42, 120, 61, 101]), .lit (.string [120, 42, 40, 121, 42, 120, 41, 61, 121])]

/-- 'laws.FnExactNamesByLaw': WHATEVER THE INPUT: true; the input reads as it did. -/
def fnExactNamesByLawSpec : ChangeSpec := { name := "fnExactNamesByLaw", vars := ["loop.example/g01195/impl.lawTexts"], fn := fun _ => fun
  | [d1, d2, g1] => { results := [.lit (.bool true)], args := [d1, d2], vars := [g1] }
  | _ => none }
def fnExactNamesByLawRow : OpenClaim := { program := "ytocejggobgfccaagreatdoor", sum := "8622fd706c230306dfd37e611a7e032f813b8de2abc01443f10e6c9e3203d7aa", func := "loop.example/g01195/laws.FnExactNamesByLaw", spec := "fnExactNamesByLaw", unfollowed := true, recurses := true, named := ["loop.example/g01195/impl.lawTexts"], apart := false, laid := [("loop.example/g01195/impl.lawTexts", laid_loop_example_g01195_impl_lawTexts)] }
def FnExactNamesByLawSaid : Prop := fnExactNamesByLawRow.holds Tryz.pinned (OpenSpec.ofChange fnExactNamesByLawSpec)

/-- ITS FALSE NEIGHBOUR: 'it returns false'. Refute it at one input. -/
def fnExactNamesByLawWrong : ChangeSpec := { name := "fnExactNamesByLaw", vars := ["loop.example/g01195/impl.lawTexts"], fn := fun _ => fun
  | [d1, d2, g1] => { results := [.lit (.bool false)], args := [d1, d2], vars := [g1] }
  | _ => none }
def FnExactNamesByLawWrongFalsely : Prop := fnExactNamesByLawRow.holds Tryz.pinned (OpenSpec.ofChange fnExactNamesByLawWrong)

/- THE SECOND FORM. 'bulk': how many values and letters a reading holds, each counted each time it is reached (what is shared counts as often as it is met; a slice's spare places count too). A statement '..UptoSaid' is the law's where the arguments, and the package variables that the reading takes, are together of bulk at most 1048576: NARROWER than '..Said'. Prove '..Said' where nothing that the law and all that it calls make is longer than what came in: it says more and counts as full. Else prove '..UptoSaid'. A law counts once. -/
mutual
def uptoBulk {H : Type} : DataW H → Nat
  | .lit (.string bytes) => bytes.length + 1
  | .lit _ => 1
  | .nil => 1
  | .ptr d => uptoBulk d + 1
  | .slice elems spare => uptoBulkAll elems + uptoBulkAll spare + 1
  | .agg parts => uptoBulkAll parts + 1
  | .iface _ d => uptoBulk d + 1
  | .map entries => uptoBulkEntries entries + 1
  | .held _ => 1
def uptoBulkAll {H : Type} : List (DataW H) → Nat
  | [] => 0
  | d :: r => uptoBulk d + uptoBulkAll r
def uptoBulkEntries {H : Type} : List (Lit × DataW H) → Nat
  | [] => 0
  | x :: r => uptoBulkEntry x + uptoBulkEntries r
def uptoBulkEntry {H : Type} : Lit × DataW H → Nat
  | (.string bytes, d) => bytes.length + uptoBulk d + 1
  | (_, d) => uptoBulk d + 1
 end
def uptoSmall : (H : Type) → List (DataW H) → Bool := fun _ ds => decide (uptoBulkAll ds ≤ 1048576)
def OpenSpec.upto (s : _root_.Go.ChangeSpec) : _root_.Go.OpenSpec := { _root_.Go.OpenSpec.ofChange s with cond := some uptoSmall }

/-- 'laws.FnExactNamesByLaw', WHERE WHAT IT READS IS OF BULK AT MOST 1048576: true; the input reads as it did. -/
def fnExactNamesByLawUptoRow : OpenClaim := { program := "ytocejggobgfccaagreatdoor", sum := "8622fd706c230306dfd37e611a7e032f813b8de2abc01443f10e6c9e3203d7aa", func := "loop.example/g01195/laws.FnExactNamesByLaw", spec := "fnExactNamesByLaw", unfollowed := true, recurses := true, named := ["loop.example/g01195/impl.lawTexts"], apart := false, laid := [("loop.example/g01195/impl.lawTexts", laid_loop_example_g01195_impl_lawTexts)], narrowed := true }
def FnExactNamesByLawUptoSaid : Prop := fnExactNamesByLawUptoRow.holds Tryz.pinned (OpenSpec.upto fnExactNamesByLawSpec)

end Rows
end Go.Proofs.YtocejggobgfccaaGreatDoor
