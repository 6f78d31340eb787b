/- KeyTrees: the walk. -/
import Derived.Test.YtonndofbnhnkpaaKeyL
import Derived.Laws.AppendOwn
import Derived.OwnWalk
namespace Go.Proofs.Ytonndofbnhnkpaa.KeyT
open Go.RowKit Num KeyM KeyW KeyL Frm
/-- The numbers of the forks. -/
def nums (zs : List Int) (j : Nat) : List Int := (List.range j).map fun i => 1 + zs.getD i 0 % 1000
theorem nums_succ (zs : List Int) (j : Nat) : nums zs (j + 1) = nums zs j ++ [1 + zs.getD j 0 % 1000] := by
  unfold nums; rw [List.range_succ, List.map_append]; rfl
theorem nums_len (zs : List Int) (j : Nat) : (nums zs j).length = j := by simp [nums]
theorem nums_get (zs : List Int) (j i : Nat) (h : i < j) : (nums zs j)[i]? = some (1 + zs.getD i 0 % 1000) := by simp [nums, h]
theorem under_the_root {c : Int} (h : chk c = true) (h0 : 0 < dep c) : under c 1125899906842624 = true := by
  obtain ⟨r1, r2⟩ := root_ok
  have oc := ok_of_chk h
  have oroot := ok_of_chk r1
  have u := (up_ok oc).1
  have v := (up_ok oroot).1
  unfold under; rw [h, r1, r2, u, v]; simpa using h0
theorem own_later {base : Nat} {e : TypeId} {size : Nat} {v : Value} {n : Nat} {xs : List Value} {w w' : World} (h : w.ownsRow base e size v n xs) (hB : Bl w w') : w'.ownsRow base e size v n xs := by
  obtain ⟨h1, h2⟩ := h
  refine ⟨h1, ?_⟩
  rcases h2 with h2 | ⟨g, cap, cur, hv, hg, hh, r⟩
  · exact Or.inl h2
  · refine Or.inr ⟨g, cap, cur, hv, hg, ?_, r⟩
    have hlt : g < w.heap.size := by
      rcases Nat.lt_or_ge g w.heap.size with k | k
      · exact k
      · simp [Array.getElem?_eq_none k] at hh
    rw [hB.block g hlt]; exact hh
theorem info3 : (Try.prog.info? 3).map (fun i => (i.zero, i.size, i.bytes)) = some (some (.int .i64 0), 1, 8) := by kernel_rfl
/-- The slice after so many. -/
theorem own_shape {base : Nat} {e : TypeId} {v : Value} {n : Nat} {xs : List Value} {w : World} (h : w.ownsRow base e 1 v n xs) : ∃ a cap, v = .slice a n cap ∧ (0 < n → ∃ g, a = some ⟨g, 0, none⟩) := by
  obtain ⟨h1, h2⟩ := h
  rcases h2 with ⟨rfl, rfl⟩ | ⟨g, cap, cur, hv, _⟩
  · exact ⟨none, 0, rfl, fun h => by omega⟩
  · exact ⟨some ⟨g, 0, none⟩, cap, hv, fun _ => ⟨g, rfl⟩⟩
end Go.Proofs.Ytonndofbnhnkpaa.KeyT
