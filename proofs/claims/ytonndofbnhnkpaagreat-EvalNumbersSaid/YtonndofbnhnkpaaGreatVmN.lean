/- Tasks of package vm: the next instruction. -/
import Derived.Test.YtonndofbnhnkpaaGreatVmD
set_option linter.unusedVariables false
set_option linter.unusedSimpArgs false
set_option linter.unusedSectionVars false
namespace Go.Proofs.YtonndofbnhnkpaaGreat.VmA
open Go.RowKit Num KeyM KeyW StatW Blk
theorem rows_at (w : World) (p1 p2 : Addr) (v1 v2 a b c d e f g h : Value) (t u : TypeId) :
    ((((w.setCell p1 v1).setCell p2 v2).alloc (.cells #[a, b, c, d] t)).alloc (.cells #[e, f, g, h] u)).drew.rowIs w.heap.size t 4 (four a b c d) ∧
    ((((w.setCell p1 v1).setCell p2 v2).alloc (.cells #[a, b, c, d] t)).alloc (.cells #[e, f, g, h] u)).drew.rowIs (w.heap.size + 1) u 4 (four e f g h) := by
  have hs : ((w.setCell p1 v1).setCell p2 v2).heap.size = w.heap.size := by simp [World.setCell]
  have h1 := row4_alloc ((w.setCell p1 v1).setCell p2 v2) a b c d t
  have h2 := row4_alloc1 ((w.setCell p1 v1).setCell p2 v2) (.cells #[a, b, c, d] t) e f g h u
  rw [hs] at h1 h2
  exact ⟨World.rowIs.drew (World.rowIs.alloc h1 _), World.rowIs.drew h2⟩
theorem forkM_kind (t : Tk) (i : Ins) : (forkM t i).1 = Act.zero ∨ (forkM t i).1.kind = 1 := by
  unfold forkM; repeat' split
  all_goals simp
theorem askM_kind (t : Tk) (i : Ins) : (askM t i).1 = Act.zero ∨ 1 ≤ (askM t i).1.kind ∧ (askM t i).1.kind ≤ 6 := by
  unfold askM
  have := forkM_kind t i
  repeat' split
  all_goals first | (simp; done) | (rcases this with h | h <;> simp [h])
end Go.Proofs.YtonndofbnhnkpaaGreat.VmA
