/- The contract of the laws' make1: the key of forks by numbers. -/
import Derived.Test.YtonndofbnhnkpaaKeyAll
import Derived.Test.YtonndofbnhnkpaaKeyMk
import Derived.Test.YtonndofbnhnkpaaVal
import Derived.Test.YtonndofbnhnkpaaFrm
import Derived.OpenShut
namespace Go.Proofs.Ytonndofbnhnkpaa.KeyL
open Go.RowKit Num KeyM KeyW Frm
/-- The cells of a slice that has an element. -/
theorem row_at {k : IntKind} {w : World} {a : Option Addr} {len cap : Nat} {zs : List Int} (h : IsRow k w a len cap zs) (h0 : 0 < len) :
    ∃ b off, a = some ⟨b, off, none⟩ ∧ len ≤ cap ∧ cap ≤ 9223372036854775807 ∧ zs.length = cap ∧ (∀ i, i < zs.length → w.cell? ⟨b, off + i, none⟩ = some (.int k (zs.getD i 0))) := by
  rcases h with ⟨_, h, _⟩ | ⟨x, rfl, h1, h2, h3, h4, h5⟩
  · omega
  · unfold maxLen at h2
    obtain ⟨b, off, rfl, hx⟩ := ints_at h4 (by omega)
    exact ⟨b, off, rfl, h1, h2, h3, hx⟩
/-- A cell that is there is there later. -/
theorem bl_cell {w w' : World} {p : Addr} {v : Value} (hB : Bl w w') (h : w.cell? p = some v) : w'.cell? p = some v := by
  have hb : p.block < w.heap.size := by
    have hc := h
    unfold World.cell? at hc
    rcases Nat.lt_or_ge p.block w.heap.size with g | g
    · exact g
    · simp [Array.getElem?_eq_none g] at hc
  exact (Below.cell hB hb).trans h
/-- The row lies in the heap. -/
theorem row_lt {k : IntKind} {w : World} {a : Option Addr} {len cap : Nat} {zs : List Int} (h : IsRow k w a len cap zs) (h0 : 0 < len) {b off : Nat} {sp : Option Nat} (e : a = some ⟨b, off, sp⟩) : b < w.heap.size := by
  obtain ⟨b', off', e', h1, h2, h3, h4⟩ := row_at h h0
  rw [e] at e'
  obtain ⟨rfl, rfl, rfl⟩ := by simpa using e'
  have hc := h4 0 (by omega)
  unfold World.cell? at hc
  rcases Nat.lt_or_ge b w.heap.size with g | g
  · exact g
  · simp [Array.getElem?_eq_none g] at hc
/-- In a later world it is the same row. -/
theorem row_later {k : IntKind} {w w' : World} {a : Option Addr} {len cap : Nat} {zs : List Int} (h : IsRow k w a len cap zs) (hB : Bl w w') : IsRow k w' a len cap zs := by
  rcases h with h | ⟨x, rfl, h1, h2, h3, h4, h5⟩
  · exact Or.inl h
  · refine Or.inr ⟨x, rfl, h1, h2, h3, fun i hi => ?_, h5⟩
    have hc := h4 i hi
    have hb : (x.add i).block < w.heap.size := by
      unfold World.cell? at hc
      rcases Nat.lt_or_ge (x.add i).block w.heap.size with g | g
      · exact g
      · simp [Array.getElem?_eq_none g] at hc
    exact (Below.cell hB hb).trans hc
end Go.Proofs.Ytonndofbnhnkpaa.KeyL
