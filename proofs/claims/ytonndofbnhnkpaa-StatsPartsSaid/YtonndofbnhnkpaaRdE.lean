/- A slice of events that came in reads as a list of events. -/
import Derived.Test.YtonndofbnhnkpaaFrs
import Derived.Test.YtonndofbnhnkpaaStatO
import Derived.OpenShut
namespace Go.Proofs.Ytonndofbnhnkpaa.RdE
open Go.RowKit StatM StatO Frm
theorem rd_of {w : World} {a : Option Addr} {len cap : Nat} {F : Nat → Nat → Int} (h : IsRows w 4 a len cap F) :
    ∃ es : List Ev, es.length = len ∧ RdEv w a es ∧ len ≤ cap ∧ cap ≤ maxLen ∧ (a = none → cap = 0) := by
  refine ⟨(List.range len).map fun i => ⟨F i 0, F i 1, F i 2, F i 3⟩, by simp, ?_⟩
  rcases h with ⟨rfl, rfl, rfl⟩ | ⟨x, rfl, h1, h2, h3⟩
  · exact ⟨fun h0 => by simp at h0, by omega, by unfold maxLen; omega, fun _ => rfl⟩
  · refine ⟨fun h0 => ?_, h1, h2, fun h => by cases h⟩
    have h0 : 0 < len := by simpa using h0
    obtain ⟨b, off, spot⟩ := x
    have hspot : spot = none := by simpa [Addr.add] using World.cell?_spot (h3 0 0 h0 (by omega))
    subst hspot
    refine ⟨b, off, rfl, fun i e he => ?_⟩
    have hi : i < len := by have := (List.getElem?_eq_some_iff.1 he).1; simpa using this
    rw [List.getElem?_map, List.getElem?_range hi] at he
    have he : (⟨F i 0, F i 1, F i 2, F i 3⟩ : Ev) = e := by simpa using he
    subst he
    have g : ∀ j, j < 4 → w.cell? ⟨b, off + (i * 4 + j), none⟩ = some (.int .i64 (F i j)) := fun j hj => by rw [← Go.WideShapes.add_plain]; exact h3 i j hi hj
    exact ⟨g 0 (by omega), by have := g 1 (by omega); rw [← Nat.add_assoc] at this; exact this, by have := g 2 (by omega); rw [← Nat.add_assoc] at this; exact this, by have := g 3 (by omega); rw [← Nat.add_assoc] at this; exact this⟩
end Go.Proofs.Ytonndofbnhnkpaa.RdE
