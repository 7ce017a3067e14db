/-
  No cell of these rows narrows 'for every input' (looked for: loops, veiled, ifaces, maps, wideKeys, modest, calm, conditions, laid).
  DERIVED. THE GIVEN ROWS OF THIS SEAT. 11 by the template 'for every input the law returns true; each argument reads behind the call as it read before'; 0 by the template 'total and deterministic' (their statements: YtjdfjlgjpjgnhaaTotals.lean).
  GIVEN WITH THE SEED: the statements are not yours to turn. If you find one false, say at which input.
  Laid BY PROGRAM, IN A SANDBOX (cutbox-rows.mjs): the forced cells as the released guide's own fill.sh prints them over the translation 31942984b54086a6… (all of the seat's roots in one cut). By AI agents, Wed Nov 11 2026. No macro, syntax, notation, axiom, sorry.
-/
import Derived.Test.YtjdfjlgjpjgnhaaChecked
import GoSem.Claim
import GoSem.ClaimJoined
import GoSem.ClaimMapViews
import Derived.JoinedTies
import Derived.KernelRfl
namespace Go.Proofs.Ytjdfjlgjpjgnhaa
/- THE CELL 'sum', in the pinned program and in every row, IS THE sha256 OF THE DUMP (.gsa) THAT YtjdfjlgjpjgnhaaProg.lean LOADS. Nothing in Lean hashes anything: it is a label: what it is worth is what the hold of that sum in a sandbox is worth. -/
noncomputable def Try.pinned : Pinned := { name := "ytjdfjlgjpjgnhaa", sum := "31942984b54086a6d0d4fc05a0265d3f89f63292b2283ab3cc04d717cd913088", checked := Try.checked }
namespace Rows
def none {H : Type} : Left H := { results := [], args := [] }

/-- 'laws.FnExactCountIsotopisms': WHATEVER THE INPUT: true; the input reads as it did. -/
def fnExactCountIsotopismsSpec : ChangeSpec := { name := "fnExactCountIsotopisms", fn := fun _ => fun
  | [d1, d2] => { results := [.lit (.bool true)], args := [d1, d2] }
  | _ => none }
def fnExactCountIsotopismsRow : OpenClaim := { program := "ytjdfjlgjpjgnhaa", sum := "31942984b54086a6d0d4fc05a0265d3f89f63292b2283ab3cc04d717cd913088", func := "loop.example/g01195/laws.FnExactCountIsotopisms", spec := "fnExactCountIsotopisms", unfollowed := true, recurses := true, apart := false }
def FnExactCountIsotopismsSaid : Prop := fnExactCountIsotopismsRow.holds Try.pinned (OpenSpec.ofChange fnExactCountIsotopismsSpec)

/-- ITS FALSE NEIGHBOUR: 'it returns false'. Refute it at one input. -/
def fnExactCountIsotopismsWrong : ChangeSpec := { name := "fnExactCountIsotopisms", fn := fun _ => fun
  | [d1, d2] => { results := [.lit (.bool false)], args := [d1, d2] }
  | _ => none }
def FnExactCountIsotopismsWrongFalsely : Prop := fnExactCountIsotopismsRow.holds Try.pinned (OpenSpec.ofChange fnExactCountIsotopismsWrong)

/-- 'laws.FnExactIsotopismOf': WHATEVER THE INPUT: true; the input reads as it did. -/
def fnExactIsotopismOfSpec : ChangeSpec := { name := "fnExactIsotopismOf", fn := fun _ => fun
  | [d1, d2] => { results := [.lit (.bool true)], args := [d1, d2] }
  | _ => none }
def fnExactIsotopismOfRow : OpenClaim := { program := "ytjdfjlgjpjgnhaa", sum := "31942984b54086a6d0d4fc05a0265d3f89f63292b2283ab3cc04d717cd913088", func := "loop.example/g01195/laws.FnExactIsotopismOf", spec := "fnExactIsotopismOf", inPlace := ["internal/bytealg.Compare"], unfollowed := true, recurses := true, apart := false }
def FnExactIsotopismOfSaid : Prop := fnExactIsotopismOfRow.holds Try.pinned (OpenSpec.ofChange fnExactIsotopismOfSpec)

/-- ITS FALSE NEIGHBOUR: 'it returns false'. Refute it at one input. -/
def fnExactIsotopismOfWrong : ChangeSpec := { name := "fnExactIsotopismOf", fn := fun _ => fun
  | [d1, d2] => { results := [.lit (.bool false)], args := [d1, d2] }
  | _ => none }
def FnExactIsotopismOfWrongFalsely : Prop := fnExactIsotopismOfRow.holds Try.pinned (OpenSpec.ofChange fnExactIsotopismOfWrong)

/-- 'laws.FnExactIsBook': WHATEVER THE INPUT: true; the input reads as it did. -/
def fnExactIsBookSpec : ChangeSpec := { name := "fnExactIsBook", fn := fun _ => fun
  | [d] => { results := [.lit (.bool true)], args := [d] }
  | _ => none }
def fnExactIsBookRow : OpenClaim := { program := "ytjdfjlgjpjgnhaa", sum := "31942984b54086a6d0d4fc05a0265d3f89f63292b2283ab3cc04d717cd913088", func := "loop.example/g01195/laws.FnExactIsBook", spec := "fnExactIsBook", unfollowed := true, recurses := true, apart := false }
def FnExactIsBookSaid : Prop := fnExactIsBookRow.holds Try.pinned (OpenSpec.ofChange fnExactIsBookSpec)

/-- ITS FALSE NEIGHBOUR: 'it returns false'. Refute it at one input. -/
def fnExactIsBookWrong : ChangeSpec := { name := "fnExactIsBook", fn := fun _ => fun
  | [d] => { results := [.lit (.bool false)], args := [d] }
  | _ => none }
def FnExactIsBookWrongFalsely : Prop := fnExactIsBookRow.holds Try.pinned (OpenSpec.ofChange fnExactIsBookWrong)

/-- 'laws.FnExactNameOf': WHATEVER THE INPUT: true; the input reads as it did. -/
def fnExactNameOfSpec : ChangeSpec := { name := "fnExactNameOf", fn := fun _ => fun
  | [d1, d2] => { results := [.lit (.bool true)], args := [d1, d2] }
  | _ => none }
def fnExactNameOfRow : OpenClaim := { program := "ytjdfjlgjpjgnhaa", sum := "31942984b54086a6d0d4fc05a0265d3f89f63292b2283ab3cc04d717cd913088", func := "loop.example/g01195/laws.FnExactNameOf", spec := "fnExactNameOf", unfollowed := true, recurses := true, apart := false }
def FnExactNameOfSaid : Prop := fnExactNameOfRow.holds Try.pinned (OpenSpec.ofChange fnExactNameOfSpec)

/-- ITS FALSE NEIGHBOUR: 'it returns false'. Refute it at one input. -/
def fnExactNameOfWrong : ChangeSpec := { name := "fnExactNameOf", fn := fun _ => fun
  | [d1, d2] => { results := [.lit (.bool false)], args := [d1, d2] }
  | _ => none }
def FnExactNameOfWrongFalsely : Prop := fnExactNameOfRow.holds Try.pinned (OpenSpec.ofChange fnExactNameOfWrong)

/-- 'laws.FnExactLoopNamed': WHATEVER THE INPUT: true; the input reads as it did. -/
def fnExactLoopNamedSpec : ChangeSpec := { name := "fnExactLoopNamed", fn := fun _ => fun
  | [d1, d2] => { results := [.lit (.bool true)], args := [d1, d2] }
  | _ => none }
def fnExactLoopNamedRow : OpenClaim := { program := "ytjdfjlgjpjgnhaa", sum := "31942984b54086a6d0d4fc05a0265d3f89f63292b2283ab3cc04d717cd913088", func := "loop.example/g01195/laws.FnExactLoopNamed", spec := "fnExactLoopNamed", unfollowed := true, recurses := true, apart := false }
def FnExactLoopNamedSaid : Prop := fnExactLoopNamedRow.holds Try.pinned (OpenSpec.ofChange fnExactLoopNamedSpec)

/-- ITS FALSE NEIGHBOUR: 'it returns false'. Refute it at one input. -/
def fnExactLoopNamedWrong : ChangeSpec := { name := "fnExactLoopNamed", fn := fun _ => fun
  | [d1, d2] => { results := [.lit (.bool false)], args := [d1, d2] }
  | _ => none }
def FnExactLoopNamedWrongFalsely : Prop := fnExactLoopNamedRow.holds Try.pinned (OpenSpec.ofChange fnExactLoopNamedWrong)

/-- 'laws.FnExactAlikeClasses': WHATEVER THE INPUT: true; the input reads as it did. -/
def fnExactAlikeClassesSpec : ChangeSpec := { name := "fnExactAlikeClasses", fn := fun _ => fun
  | [d] => { results := [.lit (.bool true)], args := [d] }
  | _ => none }
def fnExactAlikeClassesRow : OpenClaim := { program := "ytjdfjlgjpjgnhaa", sum := "31942984b54086a6d0d4fc05a0265d3f89f63292b2283ab3cc04d717cd913088", func := "loop.example/g01195/laws.FnExactAlikeClasses", spec := "fnExactAlikeClasses", unfollowed := true, recurses := true, apart := false }
def FnExactAlikeClassesSaid : Prop := fnExactAlikeClassesRow.holds Try.pinned (OpenSpec.ofChange fnExactAlikeClassesSpec)

/-- ITS FALSE NEIGHBOUR: 'it returns false'. Refute it at one input. -/
def fnExactAlikeClassesWrong : ChangeSpec := { name := "fnExactAlikeClasses", fn := fun _ => fun
  | [d] => { results := [.lit (.bool false)], args := [d] }
  | _ => none }
def FnExactAlikeClassesWrongFalsely : Prop := fnExactAlikeClassesRow.holds Try.pinned (OpenSpec.ofChange fnExactAlikeClassesWrong)

/-- 'laws.FnExactIsDesk': WHATEVER THE INPUT: true; the input reads as it did. -/
def fnExactIsDeskSpec : ChangeSpec := { name := "fnExactIsDesk", fn := fun _ => fun
  | [d] => { results := [.lit (.bool true)], args := [d] }
  | _ => none }
def fnExactIsDeskRow : OpenClaim := { program := "ytjdfjlgjpjgnhaa", sum := "31942984b54086a6d0d4fc05a0265d3f89f63292b2283ab3cc04d717cd913088", func := "loop.example/g01195/laws.FnExactIsDesk", spec := "fnExactIsDesk", unfollowed := true, recurses := true, apart := false }
def FnExactIsDeskSaid : Prop := fnExactIsDeskRow.holds Try.pinned (OpenSpec.ofChange fnExactIsDeskSpec)

/-- ITS FALSE NEIGHBOUR: 'it returns false'. Refute it at one input. -/
def fnExactIsDeskWrong : ChangeSpec := { name := "fnExactIsDesk", fn := fun _ => fun
  | [d] => { results := [.lit (.bool false)], args := [d] }
  | _ => none }
def FnExactIsDeskWrongFalsely : Prop := fnExactIsDeskRow.holds Try.pinned (OpenSpec.ofChange fnExactIsDeskWrong)

/-- 'laws.FnExactKeepLoop': WHATEVER THE INPUT: true; the input reads as it did. -/
def fnExactKeepLoopSpec : ChangeSpec := { name := "fnExactKeepLoop", fn := fun _ => fun
  | [d1, d2, d3] => { results := [.lit (.bool true)], args := [d1, d2, d3] }
  | _ => none }
def fnExactKeepLoopRow : OpenClaim := { program := "ytjdfjlgjpjgnhaa", sum := "31942984b54086a6d0d4fc05a0265d3f89f63292b2283ab3cc04d717cd913088", func := "loop.example/g01195/laws.FnExactKeepLoop", spec := "fnExactKeepLoop", unfollowed := true, recurses := true, apart := false }
def FnExactKeepLoopSaid : Prop := fnExactKeepLoopRow.holds Try.pinned (OpenSpec.ofChange fnExactKeepLoopSpec)

/-- ITS FALSE NEIGHBOUR: 'it returns false'. Refute it at one input. -/
def fnExactKeepLoopWrong : ChangeSpec := { name := "fnExactKeepLoop", fn := fun _ => fun
  | [d1, d2, d3] => { results := [.lit (.bool false)], args := [d1, d2, d3] }
  | _ => none }
def FnExactKeepLoopWrongFalsely : Prop := fnExactKeepLoopRow.holds Try.pinned (OpenSpec.ofChange fnExactKeepLoopWrong)

/-- 'laws.FnExactDropLoop': WHATEVER THE INPUT: true; the input reads as it did. -/
def fnExactDropLoopSpec : ChangeSpec := { name := "fnExactDropLoop", fn := fun _ => fun
  | [d1, d2] => { results := [.lit (.bool true)], args := [d1, d2] }
  | _ => none }
def fnExactDropLoopRow : OpenClaim := { program := "ytjdfjlgjpjgnhaa", sum := "31942984b54086a6d0d4fc05a0265d3f89f63292b2283ab3cc04d717cd913088", func := "loop.example/g01195/laws.FnExactDropLoop", spec := "fnExactDropLoop", unfollowed := true, recurses := true, apart := false }
def FnExactDropLoopSaid : Prop := fnExactDropLoopRow.holds Try.pinned (OpenSpec.ofChange fnExactDropLoopSpec)

/-- ITS FALSE NEIGHBOUR: 'it returns false'. Refute it at one input. -/
def fnExactDropLoopWrong : ChangeSpec := { name := "fnExactDropLoop", fn := fun _ => fun
  | [d1, d2] => { results := [.lit (.bool false)], args := [d1, d2] }
  | _ => none }
def FnExactDropLoopWrongFalsely : Prop := fnExactDropLoopRow.holds Try.pinned (OpenSpec.ofChange fnExactDropLoopWrong)

/-- 'laws.FnExactAkinClasses': WHATEVER THE INPUT: true; the input reads as it did. -/
def fnExactAkinClassesSpec : ChangeSpec := { name := "fnExactAkinClasses", fn := fun _ => fun
  | [d] => { results := [.lit (.bool true)], args := [d] }
  | _ => none }
def fnExactAkinClassesRow : OpenClaim := { program := "ytjdfjlgjpjgnhaa", sum := "31942984b54086a6d0d4fc05a0265d3f89f63292b2283ab3cc04d717cd913088", func := "loop.example/g01195/laws.FnExactAkinClasses", spec := "fnExactAkinClasses", unfollowed := true, recurses := true, apart := false }
def FnExactAkinClassesSaid : Prop := fnExactAkinClassesRow.holds Try.pinned (OpenSpec.ofChange fnExactAkinClassesSpec)

/-- ITS FALSE NEIGHBOUR: 'it returns false'. Refute it at one input. -/
def fnExactAkinClassesWrong : ChangeSpec := { name := "fnExactAkinClasses", fn := fun _ => fun
  | [d] => { results := [.lit (.bool false)], args := [d] }
  | _ => none }
def FnExactAkinClassesWrongFalsely : Prop := fnExactAkinClassesRow.holds Try.pinned (OpenSpec.ofChange fnExactAkinClassesWrong)

/-- 'laws.FnExactBookText': WHATEVER THE INPUT: true; the input reads as it did. -/
def fnExactBookTextSpec : ChangeSpec := { name := "fnExactBookText", fn := fun _ => fun
  | [d] => { results := [.lit (.bool true)], args := [d] }
  | _ => none }
def fnExactBookTextRow : OpenClaim := { program := "ytjdfjlgjpjgnhaa", sum := "31942984b54086a6d0d4fc05a0265d3f89f63292b2283ab3cc04d717cd913088", func := "loop.example/g01195/laws.FnExactBookText", spec := "fnExactBookText", inPlace := ["internal/abi.NoEscape", "internal/bytealg.MakeNoZero"], unfollowed := true, recurses := true, apart := false }
def FnExactBookTextSaid : Prop := fnExactBookTextRow.holds Try.pinned (OpenSpec.ofChange fnExactBookTextSpec)

/-- ITS FALSE NEIGHBOUR: 'it returns false'. Refute it at one input. -/
def fnExactBookTextWrong : ChangeSpec := { name := "fnExactBookText", fn := fun _ => fun
  | [d] => { results := [.lit (.bool false)], args := [d] }
  | _ => none }
def FnExactBookTextWrongFalsely : Prop := fnExactBookTextRow.holds Try.pinned (OpenSpec.ofChange fnExactBookTextWrong)

/- THE SECOND FORM. 'bulk': how many values and letters a reading holds, each counted each time it is reached (what is shared counts as often as it is met; a slice's spare places count too). A statement '..UptoSaid' is the law's where the arguments, and the package variables that the reading takes, are together of bulk at most 1048576: NARROWER than '..Said'. Prove '..Said' where nothing that the law and all that it calls make is longer than what came in: it says more and counts as full. Else prove '..UptoSaid'. A law counts once. -/
mutual
def uptoBulk {H : Type} : DataW H → Nat
  | .lit (.string bytes) => bytes.length + 1
  | .lit _ => 1
  | .nil => 1
  | .ptr d => uptoBulk d + 1
  | .slice elems spare => uptoBulkAll elems + uptoBulkAll spare + 1
  | .agg parts => uptoBulkAll parts + 1
  | .iface _ d => uptoBulk d + 1
  | .map entries => uptoBulkEntries entries + 1
  | .held _ => 1
def uptoBulkAll {H : Type} : List (DataW H) → Nat
  | [] => 0
  | d :: r => uptoBulk d + uptoBulkAll r
def uptoBulkEntries {H : Type} : List (Lit × DataW H) → Nat
  | [] => 0
  | x :: r => uptoBulkEntry x + uptoBulkEntries r
def uptoBulkEntry {H : Type} : Lit × DataW H → Nat
  | (.string bytes, d) => bytes.length + uptoBulk d + 1
  | (_, d) => uptoBulk d + 1
 end
def uptoSmall : (H : Type) → List (DataW H) → Bool := fun _ ds => decide (uptoBulkAll ds ≤ 1048576)
def OpenSpec.upto (s : _root_.Go.ChangeSpec) : _root_.Go.OpenSpec := { _root_.Go.OpenSpec.ofChange s with cond := some uptoSmall }

/-- 'laws.FnExactCountIsotopisms', WHERE WHAT IT READS IS OF BULK AT MOST 1048576: true; the input reads as it did. -/
def fnExactCountIsotopismsUptoRow : OpenClaim := { program := "ytjdfjlgjpjgnhaa", sum := "31942984b54086a6d0d4fc05a0265d3f89f63292b2283ab3cc04d717cd913088", func := "loop.example/g01195/laws.FnExactCountIsotopisms", spec := "fnExactCountIsotopisms", unfollowed := true, recurses := true, apart := false, narrowed := true }
def FnExactCountIsotopismsUptoSaid : Prop := fnExactCountIsotopismsUptoRow.holds Try.pinned (OpenSpec.upto fnExactCountIsotopismsSpec)

/-- 'laws.FnExactIsotopismOf', WHERE WHAT IT READS IS OF BULK AT MOST 1048576: true; the input reads as it did. -/
def fnExactIsotopismOfUptoRow : OpenClaim := { program := "ytjdfjlgjpjgnhaa", sum := "31942984b54086a6d0d4fc05a0265d3f89f63292b2283ab3cc04d717cd913088", func := "loop.example/g01195/laws.FnExactIsotopismOf", spec := "fnExactIsotopismOf", inPlace := ["internal/bytealg.Compare"], unfollowed := true, recurses := true, apart := false, narrowed := true }
def FnExactIsotopismOfUptoSaid : Prop := fnExactIsotopismOfUptoRow.holds Try.pinned (OpenSpec.upto fnExactIsotopismOfSpec)

/-- 'laws.FnExactIsBook', WHERE WHAT IT READS IS OF BULK AT MOST 1048576: true; the input reads as it did. -/
def fnExactIsBookUptoRow : OpenClaim := { program := "ytjdfjlgjpjgnhaa", sum := "31942984b54086a6d0d4fc05a0265d3f89f63292b2283ab3cc04d717cd913088", func := "loop.example/g01195/laws.FnExactIsBook", spec := "fnExactIsBook", unfollowed := true, recurses := true, apart := false, narrowed := true }
def FnExactIsBookUptoSaid : Prop := fnExactIsBookUptoRow.holds Try.pinned (OpenSpec.upto fnExactIsBookSpec)

/-- 'laws.FnExactNameOf', WHERE WHAT IT READS IS OF BULK AT MOST 1048576: true; the input reads as it did. -/
def fnExactNameOfUptoRow : OpenClaim := { program := "ytjdfjlgjpjgnhaa", sum := "31942984b54086a6d0d4fc05a0265d3f89f63292b2283ab3cc04d717cd913088", func := "loop.example/g01195/laws.FnExactNameOf", spec := "fnExactNameOf", unfollowed := true, recurses := true, apart := false, narrowed := true }
def FnExactNameOfUptoSaid : Prop := fnExactNameOfUptoRow.holds Try.pinned (OpenSpec.upto fnExactNameOfSpec)

/-- 'laws.FnExactLoopNamed', WHERE WHAT IT READS IS OF BULK AT MOST 1048576: true; the input reads as it did. -/
def fnExactLoopNamedUptoRow : OpenClaim := { program := "ytjdfjlgjpjgnhaa", sum := "31942984b54086a6d0d4fc05a0265d3f89f63292b2283ab3cc04d717cd913088", func := "loop.example/g01195/laws.FnExactLoopNamed", spec := "fnExactLoopNamed", unfollowed := true, recurses := true, apart := false, narrowed := true }
def FnExactLoopNamedUptoSaid : Prop := fnExactLoopNamedUptoRow.holds Try.pinned (OpenSpec.upto fnExactLoopNamedSpec)

/-- 'laws.FnExactAlikeClasses', WHERE WHAT IT READS IS OF BULK AT MOST 1048576: true; the input reads as it did. -/
def fnExactAlikeClassesUptoRow : OpenClaim := { program := "ytjdfjlgjpjgnhaa", sum := "31942984b54086a6d0d4fc05a0265d3f89f63292b2283ab3cc04d717cd913088", func := "loop.example/g01195/laws.FnExactAlikeClasses", spec := "fnExactAlikeClasses", unfollowed := true, recurses := true, apart := false, narrowed := true }
def FnExactAlikeClassesUptoSaid : Prop := fnExactAlikeClassesUptoRow.holds Try.pinned (OpenSpec.upto fnExactAlikeClassesSpec)

/-- 'laws.FnExactIsDesk', WHERE WHAT IT READS IS OF BULK AT MOST 1048576: true; the input reads as it did. -/
def fnExactIsDeskUptoRow : OpenClaim := { program := "ytjdfjlgjpjgnhaa", sum := "31942984b54086a6d0d4fc05a0265d3f89f63292b2283ab3cc04d717cd913088", func := "loop.example/g01195/laws.FnExactIsDesk", spec := "fnExactIsDesk", unfollowed := true, recurses := true, apart := false, narrowed := true }
def FnExactIsDeskUptoSaid : Prop := fnExactIsDeskUptoRow.holds Try.pinned (OpenSpec.upto fnExactIsDeskSpec)

/-- 'laws.FnExactKeepLoop', WHERE WHAT IT READS IS OF BULK AT MOST 1048576: true; the input reads as it did. -/
def fnExactKeepLoopUptoRow : OpenClaim := { program := "ytjdfjlgjpjgnhaa", sum := "31942984b54086a6d0d4fc05a0265d3f89f63292b2283ab3cc04d717cd913088", func := "loop.example/g01195/laws.FnExactKeepLoop", spec := "fnExactKeepLoop", unfollowed := true, recurses := true, apart := false, narrowed := true }
def FnExactKeepLoopUptoSaid : Prop := fnExactKeepLoopUptoRow.holds Try.pinned (OpenSpec.upto fnExactKeepLoopSpec)

/-- 'laws.FnExactDropLoop', WHERE WHAT IT READS IS OF BULK AT MOST 1048576: true; the input reads as it did. -/
def fnExactDropLoopUptoRow : OpenClaim := { program := "ytjdfjlgjpjgnhaa", sum := "31942984b54086a6d0d4fc05a0265d3f89f63292b2283ab3cc04d717cd913088", func := "loop.example/g01195/laws.FnExactDropLoop", spec := "fnExactDropLoop", unfollowed := true, recurses := true, apart := false, narrowed := true }
def FnExactDropLoopUptoSaid : Prop := fnExactDropLoopUptoRow.holds Try.pinned (OpenSpec.upto fnExactDropLoopSpec)

/-- 'laws.FnExactAkinClasses', WHERE WHAT IT READS IS OF BULK AT MOST 1048576: true; the input reads as it did. -/
def fnExactAkinClassesUptoRow : OpenClaim := { program := "ytjdfjlgjpjgnhaa", sum := "31942984b54086a6d0d4fc05a0265d3f89f63292b2283ab3cc04d717cd913088", func := "loop.example/g01195/laws.FnExactAkinClasses", spec := "fnExactAkinClasses", unfollowed := true, recurses := true, apart := false, narrowed := true }
def FnExactAkinClassesUptoSaid : Prop := fnExactAkinClassesUptoRow.holds Try.pinned (OpenSpec.upto fnExactAkinClassesSpec)

/-- 'laws.FnExactBookText', WHERE WHAT IT READS IS OF BULK AT MOST 1048576: true; the input reads as it did. -/
def fnExactBookTextUptoRow : OpenClaim := { program := "ytjdfjlgjpjgnhaa", sum := "31942984b54086a6d0d4fc05a0265d3f89f63292b2283ab3cc04d717cd913088", func := "loop.example/g01195/laws.FnExactBookText", spec := "fnExactBookText", inPlace := ["internal/abi.NoEscape", "internal/bytealg.MakeNoZero"], unfollowed := true, recurses := true, apart := false, narrowed := true }
def FnExactBookTextUptoSaid : Prop := fnExactBookTextUptoRow.holds Try.pinned (OpenSpec.upto fnExactBookTextSpec)

end Rows
end Go.Proofs.Ytjdfjlgjpjgnhaa
