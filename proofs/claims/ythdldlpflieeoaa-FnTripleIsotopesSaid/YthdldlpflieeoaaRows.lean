/-
  No cell of these rows narrows 'for every input' (looked for: loops, veiled, ifaces, maps, wideKeys, modest, calm, conditions, laid).
  DERIVED. THE GIVEN ROWS OF THIS SEAT. 8 by the template 'for every input the law returns true; each argument reads behind the call as it read before'; 0 by the template 'total and deterministic' (their statements: YthdldlpflieeoaaTotals.lean).
  GIVEN WITH THE SEED: the statements are not yours to turn. If you find one false, say at which input.
  Laid BY PROGRAM, IN A SANDBOX (cutbox-rows.mjs): the forced cells as the released guide's own fill.sh prints them over the translation eb8fc2e5d3396544… (all of the seat's roots in one cut). By AI agents, Wed Nov 11 2026. No macro, syntax, notation, axiom, sorry.
-/
import Derived.Test.YthdldlpflieeoaaChecked
import GoSem.Claim
import GoSem.ClaimJoined
import GoSem.ClaimMapViews
import Derived.JoinedTies
import Derived.KernelRfl
namespace Go.Proofs.Ythdldlpflieeoaa
/- THE CELL 'sum', in the pinned program and in every row, IS THE sha256 OF THE DUMP (.gsa) THAT YthdldlpflieeoaaProg.lean LOADS. Nothing in Lean hashes anything: it is a label: what it is worth is what the hold of that sum in a sandbox is worth. -/
noncomputable def Try.pinned : Pinned := { name := "ythdldlpflieeoaa", sum := "eb8fc2e5d3396544fc8f803b3521b12386816f69f838e8ad09bc23bf23adbd80", checked := Try.checked }
namespace Rows
def none {H : Type} : Left H := { results := [], args := [] }

/-- 'laws.FnPermutations': WHATEVER THE INPUT: true; the input reads as it did. -/
def fnPermutationsSpec : ChangeSpec := { name := "fnPermutations", fn := fun _ => fun
  | [d] => { results := [.lit (.bool true)], args := [d] }
  | _ => none }
def fnPermutationsRow : OpenClaim := { program := "ythdldlpflieeoaa", sum := "eb8fc2e5d3396544fc8f803b3521b12386816f69f838e8ad09bc23bf23adbd80", func := "loop.example/g01195/laws.FnPermutations", spec := "fnPermutations", unfollowed := true, recurses := true, apart := false }
def FnPermutationsSaid : Prop := fnPermutationsRow.holds Try.pinned (OpenSpec.ofChange fnPermutationsSpec)

/-- ITS FALSE NEIGHBOUR: 'it returns false'. Refute it at one input. -/
def fnPermutationsWrong : ChangeSpec := { name := "fnPermutations", fn := fun _ => fun
  | [d] => { results := [.lit (.bool false)], args := [d] }
  | _ => none }
def FnPermutationsWrongFalsely : Prop := fnPermutationsRow.holds Try.pinned (OpenSpec.ofChange fnPermutationsWrong)

/-- 'laws.FnTripleIsotopes': WHATEVER THE INPUT: true; the input reads as it did. -/
def fnTripleIsotopesSpec : ChangeSpec := { name := "fnTripleIsotopes", fn := fun _ => fun
  | [d] => { results := [.lit (.bool true)], args := [d] }
  | _ => none }
def fnTripleIsotopesRow : OpenClaim := { program := "ythdldlpflieeoaa", sum := "eb8fc2e5d3396544fc8f803b3521b12386816f69f838e8ad09bc23bf23adbd80", func := "loop.example/g01195/laws.FnTripleIsotopes", spec := "fnTripleIsotopes", recurses := true, apart := false }
def FnTripleIsotopesSaid : Prop := fnTripleIsotopesRow.holds Try.pinned (OpenSpec.ofChange fnTripleIsotopesSpec)

/-- ITS FALSE NEIGHBOUR: 'it returns false'. Refute it at one input. -/
def fnTripleIsotopesWrong : ChangeSpec := { name := "fnTripleIsotopes", fn := fun _ => fun
  | [d] => { results := [.lit (.bool false)], args := [d] }
  | _ => none }
def FnTripleIsotopesWrongFalsely : Prop := fnTripleIsotopesRow.holds Try.pinned (OpenSpec.ofChange fnTripleIsotopesWrong)

/-- 'laws.FnIsomorphisms': WHATEVER THE INPUT: true; the input reads as it did. -/
def fnIsomorphismsSpec : ChangeSpec := { name := "fnIsomorphisms", fn := fun _ => fun
  | [d] => { results := [.lit (.bool true)], args := [d] }
  | _ => none }
def fnIsomorphismsRow : OpenClaim := { program := "ythdldlpflieeoaa", sum := "eb8fc2e5d3396544fc8f803b3521b12386816f69f838e8ad09bc23bf23adbd80", func := "loop.example/g01195/laws.FnIsomorphisms", spec := "fnIsomorphisms", inPlace := ["internal/bytealg.Compare"], unfollowed := true, recurses := true, apart := false }
def FnIsomorphismsSaid : Prop := fnIsomorphismsRow.holds Try.pinned (OpenSpec.ofChange fnIsomorphismsSpec)

/-- ITS FALSE NEIGHBOUR: 'it returns false'. Refute it at one input. -/
def fnIsomorphismsWrong : ChangeSpec := { name := "fnIsomorphisms", fn := fun _ => fun
  | [d] => { results := [.lit (.bool false)], args := [d] }
  | _ => none }
def FnIsomorphismsWrongFalsely : Prop := fnIsomorphismsRow.holds Try.pinned (OpenSpec.ofChange fnIsomorphismsWrong)

/-- 'laws.FnCanonicals': WHATEVER THE INPUT: true; the input reads as it did. -/
def fnCanonicalsSpec : ChangeSpec := { name := "fnCanonicals", fn := fun _ => fun
  | [d] => { results := [.lit (.bool true)], args := [d] }
  | _ => none }
def fnCanonicalsRow : OpenClaim := { program := "ythdldlpflieeoaa", sum := "eb8fc2e5d3396544fc8f803b3521b12386816f69f838e8ad09bc23bf23adbd80", func := "loop.example/g01195/laws.FnCanonicals", spec := "fnCanonicals", inPlace := ["internal/bytealg.Compare"], unfollowed := true, recurses := true, apart := false }
def FnCanonicalsSaid : Prop := fnCanonicalsRow.holds Try.pinned (OpenSpec.ofChange fnCanonicalsSpec)

/-- ITS FALSE NEIGHBOUR: 'it returns false'. Refute it at one input. -/
def fnCanonicalsWrong : ChangeSpec := { name := "fnCanonicals", fn := fun _ => fun
  | [d] => { results := [.lit (.bool false)], args := [d] }
  | _ => none }
def FnCanonicalsWrongFalsely : Prop := fnCanonicalsRow.holds Try.pinned (OpenSpec.ofChange fnCanonicalsWrong)

/-- 'laws.FnTransversals': WHATEVER THE INPUT: true; the input reads as it did. -/
def fnTransversalsSpec : ChangeSpec := { name := "fnTransversals", fn := fun _ => fun
  | [d] => { results := [.lit (.bool true)], args := [d] }
  | _ => none }
def fnTransversalsRow : OpenClaim := { program := "ythdldlpflieeoaa", sum := "eb8fc2e5d3396544fc8f803b3521b12386816f69f838e8ad09bc23bf23adbd80", func := "loop.example/g01195/laws.FnTransversals", spec := "fnTransversals", unfollowed := true, recurses := true, apart := false }
def FnTransversalsSaid : Prop := fnTransversalsRow.holds Try.pinned (OpenSpec.ofChange fnTransversalsSpec)

/-- ITS FALSE NEIGHBOUR: 'it returns false'. Refute it at one input. -/
def fnTransversalsWrong : ChangeSpec := { name := "fnTransversals", fn := fun _ => fun
  | [d] => { results := [.lit (.bool false)], args := [d] }
  | _ => none }
def FnTransversalsWrongFalsely : Prop := fnTransversalsRow.holds Try.pinned (OpenSpec.ofChange fnTransversalsWrong)

/-- 'laws.FnTriples': WHATEVER THE INPUT: true; the input reads as it did. -/
def fnTriplesSpec : ChangeSpec := { name := "fnTriples", fn := fun _ => fun
  | [d] => { results := [.lit (.bool true)], args := [d] }
  | _ => none }
def fnTriplesRow : OpenClaim := { program := "ythdldlpflieeoaa", sum := "eb8fc2e5d3396544fc8f803b3521b12386816f69f838e8ad09bc23bf23adbd80", func := "loop.example/g01195/laws.FnTriples", spec := "fnTriples", unfollowed := true, recurses := true, apart := false }
def FnTriplesSaid : Prop := fnTriplesRow.holds Try.pinned (OpenSpec.ofChange fnTriplesSpec)

/-- ITS FALSE NEIGHBOUR: 'it returns false'. Refute it at one input. -/
def fnTriplesWrong : ChangeSpec := { name := "fnTriples", fn := fun _ => fun
  | [d] => { results := [.lit (.bool false)], args := [d] }
  | _ => none }
def FnTriplesWrongFalsely : Prop := fnTriplesRow.holds Try.pinned (OpenSpec.ofChange fnTriplesWrong)

/-- 'laws.FnOrthomorphisms': WHATEVER THE INPUT: true; the input reads as it did. -/
def fnOrthomorphismsSpec : ChangeSpec := { name := "fnOrthomorphisms", fn := fun _ => fun
  | [d] => { results := [.lit (.bool true)], args := [d] }
  | _ => none }
def fnOrthomorphismsRow : OpenClaim := { program := "ythdldlpflieeoaa", sum := "eb8fc2e5d3396544fc8f803b3521b12386816f69f838e8ad09bc23bf23adbd80", func := "loop.example/g01195/laws.FnOrthomorphisms", spec := "fnOrthomorphisms", unfollowed := true, recurses := true, apart := false }
def FnOrthomorphismsSaid : Prop := fnOrthomorphismsRow.holds Try.pinned (OpenSpec.ofChange fnOrthomorphismsSpec)

/-- ITS FALSE NEIGHBOUR: 'it returns false'. Refute it at one input. -/
def fnOrthomorphismsWrong : ChangeSpec := { name := "fnOrthomorphisms", fn := fun _ => fun
  | [d] => { results := [.lit (.bool false)], args := [d] }
  | _ => none }
def FnOrthomorphismsWrongFalsely : Prop := fnOrthomorphismsRow.holds Try.pinned (OpenSpec.ofChange fnOrthomorphismsWrong)

/-- 'laws.FnSquares': WHATEVER THE INPUT: true; the input reads as it did. -/
def fnSquaresSpec : ChangeSpec := { name := "fnSquares", fn := fun _ => fun
  | [d] => { results := [.lit (.bool true)], args := [d] }
  | _ => none }
def fnSquaresRow : OpenClaim := { program := "ythdldlpflieeoaa", sum := "eb8fc2e5d3396544fc8f803b3521b12386816f69f838e8ad09bc23bf23adbd80", func := "loop.example/g01195/laws.FnSquares", spec := "fnSquares", unfollowed := true, recurses := true, apart := false }
def FnSquaresSaid : Prop := fnSquaresRow.holds Try.pinned (OpenSpec.ofChange fnSquaresSpec)

/-- ITS FALSE NEIGHBOUR: 'it returns false'. Refute it at one input. -/
def fnSquaresWrong : ChangeSpec := { name := "fnSquares", fn := fun _ => fun
  | [d] => { results := [.lit (.bool false)], args := [d] }
  | _ => none }
def FnSquaresWrongFalsely : Prop := fnSquaresRow.holds Try.pinned (OpenSpec.ofChange fnSquaresWrong)

/- THE SECOND FORM. 'bulk': how many values and letters a reading holds, each counted each time it is reached (what is shared counts as often as it is met; a slice's spare places count too). A statement '..UptoSaid' is the law's where the arguments, and the package variables that the reading takes, are together of bulk at most 1048576: NARROWER than '..Said'. Prove '..Said' where nothing that the law and all that it calls make is longer than what came in: it says more and counts as full. Else prove '..UptoSaid'. A law counts once. -/
mutual
def uptoBulk {H : Type} : DataW H → Nat
  | .lit (.string bytes) => bytes.length + 1
  | .lit _ => 1
  | .nil => 1
  | .ptr d => uptoBulk d + 1
  | .slice elems spare => uptoBulkAll elems + uptoBulkAll spare + 1
  | .agg parts => uptoBulkAll parts + 1
  | .iface _ d => uptoBulk d + 1
  | .map entries => uptoBulkEntries entries + 1
  | .held _ => 1
def uptoBulkAll {H : Type} : List (DataW H) → Nat
  | [] => 0
  | d :: r => uptoBulk d + uptoBulkAll r
def uptoBulkEntries {H : Type} : List (Lit × DataW H) → Nat
  | [] => 0
  | x :: r => uptoBulkEntry x + uptoBulkEntries r
def uptoBulkEntry {H : Type} : Lit × DataW H → Nat
  | (.string bytes, d) => bytes.length + uptoBulk d + 1
  | (_, d) => uptoBulk d + 1
 end
def uptoSmall : (H : Type) → List (DataW H) → Bool := fun _ ds => decide (uptoBulkAll ds ≤ 1048576)
def OpenSpec.upto (s : _root_.Go.ChangeSpec) : _root_.Go.OpenSpec := { _root_.Go.OpenSpec.ofChange s with cond := some uptoSmall }

/-- 'laws.FnPermutations', WHERE WHAT IT READS IS OF BULK AT MOST 1048576: true; the input reads as it did. -/
def fnPermutationsUptoRow : OpenClaim := { program := "ythdldlpflieeoaa", sum := "eb8fc2e5d3396544fc8f803b3521b12386816f69f838e8ad09bc23bf23adbd80", func := "loop.example/g01195/laws.FnPermutations", spec := "fnPermutations", unfollowed := true, recurses := true, apart := false, narrowed := true }
def FnPermutationsUptoSaid : Prop := fnPermutationsUptoRow.holds Try.pinned (OpenSpec.upto fnPermutationsSpec)

/-- 'laws.FnTripleIsotopes', WHERE WHAT IT READS IS OF BULK AT MOST 1048576: true; the input reads as it did. -/
def fnTripleIsotopesUptoRow : OpenClaim := { program := "ythdldlpflieeoaa", sum := "eb8fc2e5d3396544fc8f803b3521b12386816f69f838e8ad09bc23bf23adbd80", func := "loop.example/g01195/laws.FnTripleIsotopes", spec := "fnTripleIsotopes", recurses := true, apart := false, narrowed := true }
def FnTripleIsotopesUptoSaid : Prop := fnTripleIsotopesUptoRow.holds Try.pinned (OpenSpec.upto fnTripleIsotopesSpec)

/-- 'laws.FnIsomorphisms', WHERE WHAT IT READS IS OF BULK AT MOST 1048576: true; the input reads as it did. -/
def fnIsomorphismsUptoRow : OpenClaim := { program := "ythdldlpflieeoaa", sum := "eb8fc2e5d3396544fc8f803b3521b12386816f69f838e8ad09bc23bf23adbd80", func := "loop.example/g01195/laws.FnIsomorphisms", spec := "fnIsomorphisms", inPlace := ["internal/bytealg.Compare"], unfollowed := true, recurses := true, apart := false, narrowed := true }
def FnIsomorphismsUptoSaid : Prop := fnIsomorphismsUptoRow.holds Try.pinned (OpenSpec.upto fnIsomorphismsSpec)

/-- 'laws.FnCanonicals', WHERE WHAT IT READS IS OF BULK AT MOST 1048576: true; the input reads as it did. -/
def fnCanonicalsUptoRow : OpenClaim := { program := "ythdldlpflieeoaa", sum := "eb8fc2e5d3396544fc8f803b3521b12386816f69f838e8ad09bc23bf23adbd80", func := "loop.example/g01195/laws.FnCanonicals", spec := "fnCanonicals", inPlace := ["internal/bytealg.Compare"], unfollowed := true, recurses := true, apart := false, narrowed := true }
def FnCanonicalsUptoSaid : Prop := fnCanonicalsUptoRow.holds Try.pinned (OpenSpec.upto fnCanonicalsSpec)

/-- 'laws.FnTransversals', WHERE WHAT IT READS IS OF BULK AT MOST 1048576: true; the input reads as it did. -/
def fnTransversalsUptoRow : OpenClaim := { program := "ythdldlpflieeoaa", sum := "eb8fc2e5d3396544fc8f803b3521b12386816f69f838e8ad09bc23bf23adbd80", func := "loop.example/g01195/laws.FnTransversals", spec := "fnTransversals", unfollowed := true, recurses := true, apart := false, narrowed := true }
def FnTransversalsUptoSaid : Prop := fnTransversalsUptoRow.holds Try.pinned (OpenSpec.upto fnTransversalsSpec)

/-- 'laws.FnTriples', WHERE WHAT IT READS IS OF BULK AT MOST 1048576: true; the input reads as it did. -/
def fnTriplesUptoRow : OpenClaim := { program := "ythdldlpflieeoaa", sum := "eb8fc2e5d3396544fc8f803b3521b12386816f69f838e8ad09bc23bf23adbd80", func := "loop.example/g01195/laws.FnTriples", spec := "fnTriples", unfollowed := true, recurses := true, apart := false, narrowed := true }
def FnTriplesUptoSaid : Prop := fnTriplesUptoRow.holds Try.pinned (OpenSpec.upto fnTriplesSpec)

/-- 'laws.FnOrthomorphisms', WHERE WHAT IT READS IS OF BULK AT MOST 1048576: true; the input reads as it did. -/
def fnOrthomorphismsUptoRow : OpenClaim := { program := "ythdldlpflieeoaa", sum := "eb8fc2e5d3396544fc8f803b3521b12386816f69f838e8ad09bc23bf23adbd80", func := "loop.example/g01195/laws.FnOrthomorphisms", spec := "fnOrthomorphisms", unfollowed := true, recurses := true, apart := false, narrowed := true }
def FnOrthomorphismsUptoSaid : Prop := fnOrthomorphismsUptoRow.holds Try.pinned (OpenSpec.upto fnOrthomorphismsSpec)

/-- 'laws.FnSquares', WHERE WHAT IT READS IS OF BULK AT MOST 1048576: true; the input reads as it did. -/
def fnSquaresUptoRow : OpenClaim := { program := "ythdldlpflieeoaa", sum := "eb8fc2e5d3396544fc8f803b3521b12386816f69f838e8ad09bc23bf23adbd80", func := "loop.example/g01195/laws.FnSquares", spec := "fnSquares", unfollowed := true, recurses := true, apart := false, narrowed := true }
def FnSquaresUptoSaid : Prop := fnSquaresUptoRow.holds Try.pinned (OpenSpec.upto fnSquaresSpec)

end Rows
end Go.Proofs.Ythdldlpflieeoaa
