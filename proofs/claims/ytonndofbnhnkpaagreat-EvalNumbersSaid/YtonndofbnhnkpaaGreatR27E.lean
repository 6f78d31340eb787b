/- The reference of chapter 27: how tasks ended. -/
import Derived.Test.YtonndofbnhnkpaaGreatApp
import Derived.Test.YtonndofbnhnkpaaGreatStatD
import Derived.Test.YtonndofbnhnkpaaGreatStatB
import Derived.BigRegion
set_option linter.unusedVariables false
set_option linter.unusedSimpArgs false
set_option linter.unusedSectionVars false
namespace Go.Proofs.YtonndofbnhnkpaaGreat.R27
open Go.RowKit Num KeyM KeyW StatM StatW StatO KeyT StatE StatP StatN App
theorem rcs_app (a b : List Ran) : rcs (a ++ b) = rcs a ++ rcs b := by unfold rcs; rw [List.flatMap_append]
theorem rcs_cut (m : List Ran) (k : Nat) : rcs m = rcs (m.take k) ++ rcs (m.drop k) := by rw [← rcs_app, List.take_append_drop]
theorem rcs_take (m : List Ran) (k : Nat) (h : k ≤ m.length) : (rcs m).take (k * 5) = rcs (m.take k) := by
  rw [rcs_cut m k, List.take_left' (by rw [rcs_len, List.length_take]; omega)]
theorem rcs_drop (m : List Ran) (k : Nat) (h : k ≤ m.length) : (rcs m).drop (k * 5) = rcs (m.drop k) := by
  rw [rcs_cut m k, List.drop_left' (by rw [rcs_len, List.length_take]; omega)]
theorem rcs_one (m : List Ran) : ∀ u ∈ rcs m, u.oneCell' = true := by
  intro u hu
  unfold rcs at hu
  rw [List.mem_flatMap] at hu
  obtain ⟨r, _, hr⟩ := hu
  simp [rc] at hr
  rcases hr with rfl | rfl | rfl | rfl <;> rfl
theorem own_cases {base n : Nat} {e : TypeId} {v : Value} {xs : List Value} {w : World} (h : w.ownsRow base e 5 v n xs) :
    (v = .slice none 0 0 ∧ n = 0) ∨ ∃ g cap, v = .slice (some ⟨g, 0, none⟩) n cap ∧ base ≤ g ∧ g < w.heap.size ∧ n ≤ cap := by
  have hlt := World.ownsRow.lt h
  obtain ⟨h1, h2⟩ := h
  rcases h2 with ⟨rfl, rfl⟩ | ⟨g, cap, cur, hv, _, _, hc, _⟩
  · exact Or.inl ⟨rfl, by simp at h1; omega⟩
  · subst hv
    exact Or.inr ⟨g, cap, rfl, (hlt g rfl).1, (hlt g rfl).2, hc⟩
def five (a b c d e : Value) (j : Nat) : Value := if j = 0 then a else if j = 1 then b else if j = 2 then c else if j = 3 then d else e
theorem row5_alloc (w : World) (a b c d e : Value) (t : TypeId) : (w.alloc (.cells #[a, b, c, d, e] t)).rowIs w.heap.size t 5 (five a b c d e) :=
  World.rowIs_alloc w #[a, b, c, d, e] t _ (fun i hi => by
    have hi : i < 5 := hi
    obtain rfl | rfl | rfl | rfl | rfl : i = 0 ∨ i = 1 ∨ i = 2 ∨ i = 3 ∨ i = 4 := by omega
    all_goals rfl)
end Go.Proofs.YtonndofbnhnkpaaGreat.R27
