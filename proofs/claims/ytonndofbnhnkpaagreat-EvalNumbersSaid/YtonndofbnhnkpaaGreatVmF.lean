/- Tasks of package vm: a fork. -/
import Derived.Test.YtonndofbnhnkpaaGreatVmB
import Derived.Test.YtonndofbnhnkpaaGreatKeyB
set_option linter.unusedVariables false
set_option linter.unusedSimpArgs false
set_option linter.unusedSectionVars false
namespace Go.Proofs.YtonndofbnhnkpaaGreat.VmA
open Go.RowKit Num KeyM KeyW StatW Blk
end Go.Proofs.YtonndofbnhnkpaaGreat.VmA
