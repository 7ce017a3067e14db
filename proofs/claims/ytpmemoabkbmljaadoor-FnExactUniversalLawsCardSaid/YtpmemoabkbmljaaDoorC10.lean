/- Triples of permutations: contracts. -/
import Derived.Test.YtpmemoabkbmljaaDoorC9
import Derived.Test.YtpmemoabkbmljaaDoorK3
import Derived.Test.YtpmemoabkbmljaaDoorRT
namespace Go.Proofs.YtpmemoabkbmljaaDoor
set_option linter.unusedSimpArgs false
set_option linter.unusedVariables false
open Go.RowKit

theorem zero_trp (w : World) : (zeroValue 101).run Tryd.prog w = .ok (.agg (trs (fun _ => 0) (fun _ => 0) (fun _ => 0))) w := by kernel_rfl
theorem und_trp : Tryd.prog.underlying 101 = some (.struct (Tryd.prog.fieldsOf 101)) := by kernel_rfl
theorem inf_trp : (Tryd.prog.info? 101).map (·.size) = some 30 := by kernel_rfl
theorem build_trp (f g h : Nat → Nat) (w : World) : (Instr.build 101 #[(0, .agg (bys f)), (1, .agg (bys g)), (2, .agg (bys h))]).run Tryd.prog w = .ok (.agg (trs f g h)) w := by kernel_rfl

end Go.Proofs.YtpmemoabkbmljaaDoor
