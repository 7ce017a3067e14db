/- A square of the laws: what it is. -/
import Derived.Test.YteonahoboligdaaDoorC1
namespace Go.Proofs.YteonahoboligdaaDoor
set_option linter.unusedSimpArgs false
set_option linter.unusedVariables false
open Go Go.RowKit

theorem und_sq0 : Tryd.prog.underlying 25 = some (.struct (Tryd.prog.fieldsOf 25)) := by kernel_rfl
theorem inf_sq0 : (Tryd.prog.info? 25).map (·.size) = some 101 := by kernel_rfl
end Go.Proofs.YteonahoboligdaaDoor
