/- Programs as they lie in memory. -/
import Derived.Test.YtonndofbnhnkpaaVmS
namespace Go.Proofs.Ytonndofbnhnkpaa.VmA
open Go.RowKit Num KeyM KeyW StatW Blk
def icell (x : Ins) : List Value := [.int .i64 x.op, .int .i64 x.a, .int .i64 x.b, .int .i64 x.c]
def icells (f : List Ins) : List Value := f.flatMap icell
theorem icells_len (f : List Ins) : (icells f).length = f.length * 4 := by
  induction f with
  | nil => rfl
  | cons r m ih => unfold icells at *; rw [List.flatMap_cons, List.length_append, ih, List.length_cons]; simp [icell]; omega
theorem icells_get (m : List Ins) (i f : Nat) (r : Ins) (h : m[i]? = some r) (hf : f < 4) : (icells m)[i * 4 + f]? = (icell r)[f]? := by
  induction m generalizing i with
  | nil => simp at h
  | cons s m ih =>
    unfold icells at *
    rw [List.flatMap_cons]
    cases i with
    | zero =>
      simp at h; subst h
      rw [List.getElem?_append_left (by simp [icell]; omega)]; simp
    | succ i =>
      rw [List.getElem?_append_right (by simp [icell]; omega)]
      have : (i + 1) * 4 + f - (icell s).length = i * 4 + f := by simp [icell]; omega
      rw [this]
      exact ih i (by simpa using h)
theorem cells_cell {w : World} {g j : Nat} {cs : List Value} {t : TypeId} {fr : Nat × Nat} {v : Value} (hg : w.heap[g]? = some (.cells cs.toArray t fr)) (h : cs[j]? = some v) : w.cell? ⟨g, j, none⟩ = some v := by
  rw [cell_of_row w g j _ t fr hg]; simpa using h
/-- A function in a block of its own. -/
theorem code_fn {w : World} {g K : Nat} {f : List Ins} {fr : Nat × Nat} (hg : w.heap[g]? = some (.cells (icells f).toArray 48 fr)) (hK : g < K) :
    ∀ (j : Nat) (x : Ins), f[j]? = some x → ∃ b' off', (some (⟨g, 0, none⟩ : Addr)) = some ⟨b', off', none⟩ ∧ b' < K ∧ w.cell? ⟨b', off' + j * 4, none⟩ = some (.int .i64 x.op) ∧ w.cell? ⟨b', off' + j * 4 + 1, none⟩ = some (.int .i64 x.a) ∧
      w.cell? ⟨b', off' + j * 4 + 2, none⟩ = some (.int .i64 x.b) ∧ w.cell? ⟨b', off' + j * 4 + 3, none⟩ = some (.int .i64 x.c) := by
  intro j x hx
  refine ⟨g, 0, rfl, hK, ?_, ?_, ?_, ?_⟩
  all_goals
    rw [Nat.zero_add]
    refine cells_cell hg ?_
  · exact (icells_get f j 0 x hx (by decide))
  · exact (icells_get f j 1 x hx (by decide))
  · exact (icells_get f j 2 x hx (by decide))
  · exact (icells_get f j 3 x hx (by decide))
theorem heap2 (w : World) (A B : Obj) : ((w.alloc A).alloc B).heap[w.heap.size]? = some A ∧ ((w.alloc A).alloc B).heap[w.heap.size + 1]? = some B := ⟨heap_alloc2_old w A B, heap_alloc2_new w A B⟩
/-- One function, in new blocks. -/
theorem code_one (w : World) (f : List Ins) : CodeAt (w.heap.size + 2) ((w.alloc (.cells (icells f).toArray 48)).alloc (.cells #[.slice (some ⟨w.heap.size, 0, none⟩) f.length f.length] 49)) (some ⟨w.heap.size + 1, 0, none⟩) [f] := by
  intro i g hg
  obtain ⟨rfl, rfl⟩ : i = 0 ∧ g = f := by
    cases i with
    | zero => simp at hg; exact ⟨rfl, hg.symm⟩
    | succ i => simp at hg
  obtain ⟨h1, h2⟩ := heap2 w (.cells (icells g).toArray 48) (.cells #[.slice (some ⟨w.heap.size, 0, none⟩) g.length g.length] 49)
  exact ⟨_, _, rfl, by omega, _, _, (cells_cell (cs := [_]) h2 rfl), code_fn h1 (by omega)⟩
end Go.Proofs.Ytonndofbnhnkpaa.VmA
