/-
  No cell of these rows narrows 'for every input' (looked for: loops, veiled, ifaces, maps, wideKeys, modest, calm, conditions, laid).
  DERIVED. THE GIVEN ROWS OF THIS SEAT. 4 by the template 'for every input the law returns true; each argument reads behind the call as it read before'; 0 by the template 'total and deterministic' (their statements: YtinjjaoikofkdaaTotals.lean).
  GIVEN WITH THE SEED: the statements are not yours to turn. If you find one false, say at which input.
  Laid BY PROGRAM, IN A SANDBOX (cutbox-rows.mjs): the forced cells as the released guide's own fill.sh prints them over the translation 65a1f91ebc0ff4e2… (all of the seat's roots in one cut). By AI agents, Wed Nov 11 2026. No macro, syntax, notation, axiom, sorry.
-/
import Derived.Test.YtinjjaoikofkdaaChecked
import GoSem.Claim
import GoSem.ClaimJoined
import GoSem.ClaimMapViews
import Derived.JoinedTies
import Derived.KernelRfl
namespace Go.Proofs.Ytinjjaoikofkdaa
/- THE CELL 'sum', in the pinned program and in every row, IS THE sha256 OF THE DUMP (.gsa) THAT YtinjjaoikofkdaaProg.lean LOADS. Nothing in Lean hashes anything: it is a label: what it is worth is what the hold of that sum in a sandbox is worth. -/
noncomputable def Try.pinned : Pinned := { name := "ytinjjaoikofkdaa", sum := "65a1f91ebc0ff4e2b8756c7e71acf1b0ad85ce7fdf7867f76d825cb4d83e795d", checked := Try.checked }
namespace Rows
def none {H : Type} : Left H := { results := [], args := [] }

/-- 'laws.FnExactDropLoop': WHATEVER THE INPUT: true; the input reads as it did. -/
def fnExactDropLoopSpec : ChangeSpec := { name := "fnExactDropLoop", fn := fun _ => fun
  | [d1, d2] => { results := [.lit (.bool true)], args := [d1, d2] }
  | _ => none }
def fnExactDropLoopRow : OpenClaim := { program := "ytinjjaoikofkdaa", sum := "65a1f91ebc0ff4e2b8756c7e71acf1b0ad85ce7fdf7867f76d825cb4d83e795d", func := "loop.example/g01195/laws.FnExactDropLoop", spec := "fnExactDropLoop", unfollowed := true, recurses := true, apart := false }
def FnExactDropLoopSaid : Prop := fnExactDropLoopRow.holds Try.pinned (OpenSpec.ofChange fnExactDropLoopSpec)

/-- ITS FALSE NEIGHBOUR: 'it returns false'. Refute it at one input. -/
def fnExactDropLoopWrong : ChangeSpec := { name := "fnExactDropLoop", fn := fun _ => fun
  | [d1, d2] => { results := [.lit (.bool false)], args := [d1, d2] }
  | _ => none }
def FnExactDropLoopWrongFalsely : Prop := fnExactDropLoopRow.holds Try.pinned (OpenSpec.ofChange fnExactDropLoopWrong)

/-- 'laws.FnExactKeepLoop': WHATEVER THE INPUT: true; the input reads as it did. -/
def fnExactKeepLoopSpec : ChangeSpec := { name := "fnExactKeepLoop", fn := fun _ => fun
  | [d1, d2, d3] => { results := [.lit (.bool true)], args := [d1, d2, d3] }
  | _ => none }
def fnExactKeepLoopRow : OpenClaim := { program := "ytinjjaoikofkdaa", sum := "65a1f91ebc0ff4e2b8756c7e71acf1b0ad85ce7fdf7867f76d825cb4d83e795d", func := "loop.example/g01195/laws.FnExactKeepLoop", spec := "fnExactKeepLoop", unfollowed := true, recurses := true, apart := false }
def FnExactKeepLoopSaid : Prop := fnExactKeepLoopRow.holds Try.pinned (OpenSpec.ofChange fnExactKeepLoopSpec)

/-- ITS FALSE NEIGHBOUR: 'it returns false'. Refute it at one input. -/
def fnExactKeepLoopWrong : ChangeSpec := { name := "fnExactKeepLoop", fn := fun _ => fun
  | [d1, d2, d3] => { results := [.lit (.bool false)], args := [d1, d2, d3] }
  | _ => none }
def FnExactKeepLoopWrongFalsely : Prop := fnExactKeepLoopRow.holds Try.pinned (OpenSpec.ofChange fnExactKeepLoopWrong)

/-- 'laws.FnExactBookText': WHATEVER THE INPUT: true; the input reads as it did. -/
def fnExactBookTextSpec : ChangeSpec := { name := "fnExactBookText", fn := fun _ => fun
  | [d] => { results := [.lit (.bool true)], args := [d] }
  | _ => none }
def fnExactBookTextRow : OpenClaim := { program := "ytinjjaoikofkdaa", sum := "65a1f91ebc0ff4e2b8756c7e71acf1b0ad85ce7fdf7867f76d825cb4d83e795d", func := "loop.example/g01195/laws.FnExactBookText", spec := "fnExactBookText", inPlace := ["internal/abi.NoEscape", "internal/bytealg.MakeNoZero"], unfollowed := true, recurses := true, apart := false }
def FnExactBookTextSaid : Prop := fnExactBookTextRow.holds Try.pinned (OpenSpec.ofChange fnExactBookTextSpec)

/-- ITS FALSE NEIGHBOUR: 'it returns false'. Refute it at one input. -/
def fnExactBookTextWrong : ChangeSpec := { name := "fnExactBookText", fn := fun _ => fun
  | [d] => { results := [.lit (.bool false)], args := [d] }
  | _ => none }
def FnExactBookTextWrongFalsely : Prop := fnExactBookTextRow.holds Try.pinned (OpenSpec.ofChange fnExactBookTextWrong)

/-- 'laws.FnExactAkinClasses': WHATEVER THE INPUT: true; the input reads as it did. -/
def fnExactAkinClassesSpec : ChangeSpec := { name := "fnExactAkinClasses", fn := fun _ => fun
  | [d] => { results := [.lit (.bool true)], args := [d] }
  | _ => none }
def fnExactAkinClassesRow : OpenClaim := { program := "ytinjjaoikofkdaa", sum := "65a1f91ebc0ff4e2b8756c7e71acf1b0ad85ce7fdf7867f76d825cb4d83e795d", func := "loop.example/g01195/laws.FnExactAkinClasses", spec := "fnExactAkinClasses", unfollowed := true, recurses := true, apart := false }
def FnExactAkinClassesSaid : Prop := fnExactAkinClassesRow.holds Try.pinned (OpenSpec.ofChange fnExactAkinClassesSpec)

/-- ITS FALSE NEIGHBOUR: 'it returns false'. Refute it at one input. -/
def fnExactAkinClassesWrong : ChangeSpec := { name := "fnExactAkinClasses", fn := fun _ => fun
  | [d] => { results := [.lit (.bool false)], args := [d] }
  | _ => none }
def FnExactAkinClassesWrongFalsely : Prop := fnExactAkinClassesRow.holds Try.pinned (OpenSpec.ofChange fnExactAkinClassesWrong)

/- THE SECOND FORM. 'bulk': how many values and letters a reading holds, each counted each time it is reached (what is shared counts as often as it is met; a slice's spare places count too). A statement '..UptoSaid' is the law's where the arguments, and the package variables that the reading takes, are together of bulk at most 1048576: NARROWER than '..Said'. Prove '..Said' where nothing that the law and all that it calls make is longer than what came in: it says more and counts as full. Else prove '..UptoSaid'. A law counts once. -/
mutual
def uptoBulk {H : Type} : DataW H → Nat
  | .lit (.string bytes) => bytes.length + 1
  | .lit _ => 1
  | .nil => 1
  | .ptr d => uptoBulk d + 1
  | .slice elems spare => uptoBulkAll elems + uptoBulkAll spare + 1
  | .agg parts => uptoBulkAll parts + 1
  | .iface _ d => uptoBulk d + 1
  | .map entries => uptoBulkEntries entries + 1
  | .held _ => 1
def uptoBulkAll {H : Type} : List (DataW H) → Nat
  | [] => 0
  | d :: r => uptoBulk d + uptoBulkAll r
def uptoBulkEntries {H : Type} : List (Lit × DataW H) → Nat
  | [] => 0
  | x :: r => uptoBulkEntry x + uptoBulkEntries r
def uptoBulkEntry {H : Type} : Lit × DataW H → Nat
  | (.string bytes, d) => bytes.length + uptoBulk d + 1
  | (_, d) => uptoBulk d + 1
 end
def uptoSmall : (H : Type) → List (DataW H) → Bool := fun _ ds => decide (uptoBulkAll ds ≤ 1048576)
def OpenSpec.upto (s : _root_.Go.ChangeSpec) : _root_.Go.OpenSpec := { _root_.Go.OpenSpec.ofChange s with cond := some uptoSmall }

/-- 'laws.FnExactDropLoop', WHERE WHAT IT READS IS OF BULK AT MOST 1048576: true; the input reads as it did. -/
def fnExactDropLoopUptoRow : OpenClaim := { program := "ytinjjaoikofkdaa", sum := "65a1f91ebc0ff4e2b8756c7e71acf1b0ad85ce7fdf7867f76d825cb4d83e795d", func := "loop.example/g01195/laws.FnExactDropLoop", spec := "fnExactDropLoop", unfollowed := true, recurses := true, apart := false, narrowed := true }
def FnExactDropLoopUptoSaid : Prop := fnExactDropLoopUptoRow.holds Try.pinned (OpenSpec.upto fnExactDropLoopSpec)

/-- 'laws.FnExactKeepLoop', WHERE WHAT IT READS IS OF BULK AT MOST 1048576: true; the input reads as it did. -/
def fnExactKeepLoopUptoRow : OpenClaim := { program := "ytinjjaoikofkdaa", sum := "65a1f91ebc0ff4e2b8756c7e71acf1b0ad85ce7fdf7867f76d825cb4d83e795d", func := "loop.example/g01195/laws.FnExactKeepLoop", spec := "fnExactKeepLoop", unfollowed := true, recurses := true, apart := false, narrowed := true }
def FnExactKeepLoopUptoSaid : Prop := fnExactKeepLoopUptoRow.holds Try.pinned (OpenSpec.upto fnExactKeepLoopSpec)

/-- 'laws.FnExactBookText', WHERE WHAT IT READS IS OF BULK AT MOST 1048576: true; the input reads as it did. -/
def fnExactBookTextUptoRow : OpenClaim := { program := "ytinjjaoikofkdaa", sum := "65a1f91ebc0ff4e2b8756c7e71acf1b0ad85ce7fdf7867f76d825cb4d83e795d", func := "loop.example/g01195/laws.FnExactBookText", spec := "fnExactBookText", inPlace := ["internal/abi.NoEscape", "internal/bytealg.MakeNoZero"], unfollowed := true, recurses := true, apart := false, narrowed := true }
def FnExactBookTextUptoSaid : Prop := fnExactBookTextUptoRow.holds Try.pinned (OpenSpec.upto fnExactBookTextSpec)

/-- 'laws.FnExactAkinClasses', WHERE WHAT IT READS IS OF BULK AT MOST 1048576: true; the input reads as it did. -/
def fnExactAkinClassesUptoRow : OpenClaim := { program := "ytinjjaoikofkdaa", sum := "65a1f91ebc0ff4e2b8756c7e71acf1b0ad85ce7fdf7867f76d825cb4d83e795d", func := "loop.example/g01195/laws.FnExactAkinClasses", spec := "fnExactAkinClasses", unfollowed := true, recurses := true, apart := false, narrowed := true }
def FnExactAkinClassesUptoSaid : Prop := fnExactAkinClassesUptoRow.holds Try.pinned (OpenSpec.upto fnExactAkinClassesSpec)

end Rows
end Go.Proofs.Ytinjjaoikofkdaa
