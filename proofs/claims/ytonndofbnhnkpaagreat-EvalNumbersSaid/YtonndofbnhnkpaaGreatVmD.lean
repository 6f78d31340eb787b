/- Tasks of package vm: what an instruction does alone. -/
import Derived.Test.YtonndofbnhnkpaaGreatVmK
set_option linter.unusedVariables false
set_option linter.unusedSimpArgs false
set_option linter.unusedSectionVars false
namespace Go.Proofs.YtonndofbnhnkpaaGreat.VmA
open Go.RowKit Num KeyM KeyW StatW Blk
end Go.Proofs.YtonndofbnhnkpaaGreat.VmA
