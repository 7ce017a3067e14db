/- Permutations made in one loop: contracts. -/
import Derived.Test.YteonahoboligdaaC1
import Derived.Test.YteonahoboligdaaM
namespace Go.Proofs.Yteonahoboligdaa
set_option linter.unusedSimpArgs false
set_option linter.unusedVariables false
open Go.RowKit

theorem build_plc (w : World) : (Instr.build 66 #[]).run Try.prog w = .ok (.agg (bys fun _ => 0)) w := by kernel_rfl

end Go.Proofs.Yteonahoboligdaa
