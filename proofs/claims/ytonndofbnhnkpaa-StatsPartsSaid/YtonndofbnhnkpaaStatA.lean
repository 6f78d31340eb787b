/- The awake of the statements of package stats. -/
import Derived.Test.YtonndofbnhnkpaaStatE
namespace Go.Proofs.Ytonndofbnhnkpaa.StatA
open Go.RowKit Num KeyM KeyW StatM StatW StatO KeyT StatE StatR
theorem rd_nil (w : World) (A : Option Addr) : RdEv w A [] := fun h => absurd h (by decide)
theorem of_root : ofM [⟨1, 1125899906842624, 0, 0⟩] = ⟨1, 0, 0, 0, 0, 0, 1⟩ := by kernel_rfl
theorem calls_eq {P : Program} {f : FuncId} {a b : Array Value} {w : World} {Q} (h : a = b) (c : Calls P f a w Q) : Calls P f b w Q := h ▸ c
set_option maxRecDepth 100000 in
set_option maxHeartbeats 4000000 in
theorem awake_any (w : World) : Calls Try.prog 18 #[] w fun e w' => e = .returned (.bool true) ∧ Bl w w' := by
  have h1 : ∀ w : World, RdEv (w.alloc (.cells #[.int .i64 1, .int .i64 1125899906842624, .int .i64 0, .int .i64 0] 44)) (some ⟨w.heap.size, 0, none⟩) [⟨1, 1125899906842624, 0, 0⟩] := by
    intro w _
    refine ⟨_, _, rfl, fun i e he => ?_⟩
    cases i with
    | zero =>
      simp at he; subst he
      exact ⟨by go_simp, by go_simp, by go_simp, by go_simp⟩
    | succ i => simp at he
  have c1 := fun w => of_any _ 1 _ _ (h1 w) (by decide)
  rw [of_root] at c1
  have c2 := fun w => order_any none 0 [] w (rd_nil w none) (by decide)
  have c3 := fun w => ends_loop none 0 [] w (rd_nil w none) (by decide)
  have o0 : ordM [] = true := by rw [ordM_true]; exact List.Pairwise.nil
  rw [o0] at c2
  clear h1 o0
  simp only [stV, List.length_cons, List.length_nil] at c1 c2 c3
  go_enter Try.func18, Try.ntmps18
  go_wp2_with (first
    | (go_at_call 19; refine (c1 _).mono ?_; rintro e w2 ⟨rfl, hb2⟩)
    | (go_at_call 21; refine (c2 _).mono ?_; rintro e w3 ⟨rfl, hb3⟩; have d0 := st_cell (p := ⟨w2.heap.size, 0, none⟩) (v := .int .i64 1) hb3 (by go_simp); have d6 := st_cell (p := ⟨w2.heap.size, 6, none⟩) (v := .int .i64 1) hb3 (by go_simp))
    | (go_at_call 24; refine (c3 _).mono ?_; rintro e w4 ⟨v, rfl, hown, hb4⟩; obtain ⟨ao, cp, rfl, _⟩ := own_shape5 hown))
  go_ret
  exact ⟨rfl, by repeat (first | exact Bl.refl _ | assumption | apply Bl.drewN | apply Bl.alloc | refine Bl.trans ?_ (by assumption))⟩
end Go.Proofs.Ytonndofbnhnkpaa.StatA
