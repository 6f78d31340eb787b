/- Tasks of package vm: what an instruction asks. -/
import Derived.Test.YtonndofbnhnkpaaGreatVmF
import Derived.BigRegion
set_option linter.unusedVariables false
set_option linter.unusedSimpArgs false
set_option linter.unusedSectionVars false
namespace Go.Proofs.YtonndofbnhnkpaaGreat.VmA
open Go.RowKit Num KeyM KeyW StatW Blk
set_option maxRecDepth 100000 in
set_option maxHeartbeats 4000000 in
theorem row_four {w : World} {B : Nat} {t : TypeId} {a b c d a' b' c' d' : Value} (h : w.rowIs B t 4 (four a b c d)) : ((((w.setCell ⟨B, 0, none⟩ a').setCell ⟨B, 1, none⟩ b').setCell ⟨B, 2, none⟩ c').setCell ⟨B, 3, none⟩ d').rowIs B t 4 (four a' b' c' d') := by
  refine World.rowIs.congr ((((h.set 0 a').set 1 b').set 2 c').set 3 d') ?_
  repeat refine all_lt ?_ rfl
  exact all_none
end Go.Proofs.YtonndofbnhnkpaaGreat.VmA
