/- Permutations made in one loop: contracts. -/
import Derived.Test.YteonahoboligdaaDoorC1
import Derived.Test.YteonahoboligdaaDoorM
namespace Go.Proofs.YteonahoboligdaaDoor
set_option linter.unusedSimpArgs false
set_option linter.unusedVariables false
open Go.RowKit

theorem build_plc (w : World) : (Instr.build 95 #[]).run Tryd.prog w = .ok (.agg (bys fun _ => 0)) w := by kernel_rfl

end Go.Proofs.YteonahoboligdaaDoor
