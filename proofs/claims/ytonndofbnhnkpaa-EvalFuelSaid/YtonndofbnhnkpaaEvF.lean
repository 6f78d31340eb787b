/- The law of loops without an end: the walk. -/
import Derived.Test.YtonndofbnhnkpaaEvE
set_option linter.unusedVariables false
set_option linter.unusedSimpArgs false
set_option linter.unusedSectionVars false
namespace Go.Proofs.Ytonndofbnhnkpaa.Evl
open Go.RowKit Num KeyM KeyW StatW Blk VmA VmG Prg EvM Rf PutA CodA
def jf0 : List Ins := [⟨7, 0, 0, 0⟩]
def ff3 : List Ins := [⟨9, 0, 1, 0⟩, ⟨10, 0, 0, 0⟩, ⟨15, 0, 0, 0⟩]
/-- A jump to itself goes on till the fuel is out. -/
theorem jump_run {fs : List (List Ins)} {depth fuel0 most : Int} (i : Nat) (hf : fs[i]? = some jf0) : ∀ (m : Nat) (t : RT) (S : RS), t.fn = i → t.place = 0 → t.how = 0 → t.fuel = m → S.over = false → S.steps + m ≤ most →
    ∃ u S', evLoop fs depth fuel0 most (m + 1) t S = some (u, S') ∧ u.how = 5 ∧ S'.steps = S.steps + m ∧ S'.over = false := by
  intro m
  induction m with
  | zero =>
    intro t S h1 h2 h3 h4 h5 h6
    refine ⟨t.ends 5, S, ?_, rfl, by simp, h5⟩
    unfold evLoop
    rw [if_neg (by rw [h3, h5]; simp), if_pos (by rw [h4]; rfl)]
  | succ m ih =>
    intro t S h1 h2 h3 h4 h5 h6
    obtain ⟨u, S', g1, g2, g3, g4⟩ := ih { t with fuel := t.fuel - 1, place := 0 } { S with steps := S.steps + 1 } h1 rfl h3 (by show t.fuel - 1 = m; omega) h5 (by show S.steps + 1 + m ≤ most; omega)
    refine ⟨u, S', ?_, g2, by rw [g3]; show S.steps + 1 + (m : Int) = _; omega, g4⟩
    have hi : insAt fs t = some ⟨7, 0, 0, 0⟩ := by
      unfold insAt
      rw [h1, h2]
      simp [hf, jf0]
    unfold evLoop
    rw [if_neg (by rw [h3, h5]; simp), if_neg (by omega), if_neg (by omega), hi]
    exact g1
theorem pv_jumps {k : Int} (h1 : 1 ≤ k) (h2 : k ≤ 500) : PV [jf0, jf0] 0 1 k := by
  refine ⟨by decide, by decide, by decide, by decide, by decide, by decide, h1, h2, ?_⟩
  intro g hg
  simp only [List.mem_cons, List.not_mem_nil, or_false] at hg
  obtain rfl : g = jf0 := by rcases hg with h | h <;> exact h
  refine ⟨by decide, by decide, fun x hx => ?_, ⟨⟨7, 0, 0, 0⟩, rfl, by decide⟩⟩
  obtain rfl := List.mem_singleton.1 hx
  simp [InsIn, InsOk, Rg, jf0]
theorem pv_inner {k : Int} (h1 : 1 ≤ k) (h2 : k ≤ 500) : PV [ff3, jf0] 0 1 k := by
  refine ⟨by decide, by decide, by decide, by decide, by decide, by decide, h1, h2, ?_⟩
  intro g hg
  simp only [List.mem_cons, List.not_mem_nil, or_false] at hg
  rcases hg with rfl | rfl
  · refine ⟨by decide, by decide, fun x hx => ?_, ⟨⟨15, 0, 0, 0⟩, rfl, by decide⟩⟩
    simp [ff3] at hx
    rcases hx with rfl | rfl | rfl <;> simp [InsIn, InsOk, Rg, ff3]
  · refine ⟨by decide, by decide, fun x hx => ?_, ⟨⟨7, 0, 0, 0⟩, rfl, by decide⟩⟩
    obtain rfl := List.mem_singleton.1 hx
    simp [InsIn, InsOk, Rg, jf0]
def FuE (fs : List (List Ins)) (k want : Int) : Prop := ∃ n u S2, evLoop fs 1 k 5000 n (rt0 0 0 rootK k) s0e = some (u, S2) ∧ u.how = 5 ∧ S2.over = false ∧ S2.steps = want
theorem fu_jumps {k : Int} (h1 : 1 ≤ k) (h2 : k ≤ 500) : FuE [jf0, jf0] k k := by
  obtain ⟨u, S', g1, g2, g3, g4⟩ := jump_run (fs := [jf0, jf0]) (depth := 1) (fuel0 := k) (most := 5000) 0 rfl k.toNat (rt0 0 0 rootK k) s0e rfl rfl rfl (by show k = _; omega) rfl (by show (0 : Int) + _ ≤ _; omega)
  exact ⟨_, u, S', g1, g2, g4, by rw [g3]; show (0 : Int) + _ = _; omega⟩
theorem fu_inner {k : Int} (h1 : 2 ≤ k) (h2 : k ≤ 500) : FuE [ff3, jf0] k (k + 2) := by
  obtain ⟨r1, r2, r3⟩ := root_facts
  obtain ⟨A, hA⟩ : ∃ A, A = (rt0 0 0 rootK k).reg 0 := ⟨_, rfl⟩
  obtain ⟨u, S', g1, g2, g3, g4⟩ := jump_run (fs := [ff3, jf0]) (depth := 1) (fuel0 := k) (most := 5000) 1 rfl k.toNat (rt0 1 A (child rootK (0 + 1)) k) { s0e with steps := 0 + 1, forks := 0 + 1 } rfl rfl rfl (by show k = _; omega) rfl (by show (0 : Int) + 1 + _ ≤ _; omega)
  have hk : ((k.toNat : Nat) : Int) = k := by omega
  change S'.steps = 0 + 1 + ((k.toNat : Nat) : Int) at g3
  rw [hk] at g3
  have hfin : (finish u S' A).steps = S'.steps ∧ (finish u S' A).over = false := by unfold finish; rw [if_neg (by rw [g4]; decide)]; exact ⟨rfl, g4⟩
  have e1 : ∀ m (t : RT) (S : RS), t.fn = 0 → t.place = 1 → t.how = 0 → t.fuel ≠ 0 → S.over = false → ¬ 5000 ≤ S.steps → t.has 0 = true → t.hh 0 = 5 → evLoop [ff3, jf0] 1 k 5000 (m + 2) t S = some ({ t with fuel := t.fuel - 1, place := t.place + 1, has := EvM.upd t.has 0 false, how := 5 }, { S with steps := S.steps + 1 }) := by
    intro m t S a1 a2 a3 a4 a5 a6 a7 a8
    have hi : insAt [ff3, jf0] t = some ⟨10, 0, 0, 0⟩ := by
      unfold insAt
      rw [a1, a2]
      rfl
    have ho : oneM { t with fuel := t.fuel - 1, place := t.place + 1 } { S with steps := S.steps + 1 } ⟨10, 0, 0, 0⟩ = ({ t with fuel := t.fuel - 1, place := t.place + 1, has := EvM.upd t.has 0 false, how := 5 }, { S with steps := S.steps + 1 }) := by
      simp [oneM, a7, a8]
    unfold evLoop
    rw [if_neg (by rw [a3, a5]; simp), if_neg a4, if_neg a6, hi]
    simp only
    rw [if_neg (by decide), ho]
    unfold evLoop
    exact if_pos (Or.inl (by show (5 : Int) ≠ 0; decide))
  have h0 : evLoop [ff3, jf0] 1 k 5000 (k.toNat + 1) (rt0 1 A (child rootK (0 + 1)) k) { s0e with steps := 0 + 1, forks := 0 + 1 } = some (u, S') := g1
  have hstep : evLoop [ff3, jf0] 1 k 5000 (k.toNat + 1 + 1) (rt0 0 0 rootK k) s0e = evLoop [ff3, jf0] 1 k 5000 (k.toNat + 1) { rt0 0 0 rootK k with fuel := k - 1, place := 0 + 1, forks := 0 + 1, has := EvM.upd (fun _ => false) 0 true, hh := EvM.upd (fun _ => 0) 0 u.how, hv := EvM.upd (fun _ => 0) 0 u.val } (finish u S' A) := by
    conv => lhs; unfold evLoop
    rw [if_neg (by show ¬ ((0 : Int) ≠ 0 ∨ false = true); simp), if_neg (by show ¬ k = 0; omega), if_neg (by show ¬ (5000 : Int) ≤ 0; decide), show insAt [ff3, jf0] (rt0 0 0 rootK k) = some ⟨9, 0, 1, 0⟩ from rfl]
    simp only
    rw [if_pos trivial, if_neg (by show ¬ (1 : Int) ≤ dep rootK; rw [r2]; decide), if_neg (by show ¬ (1000 : Int) ≤ 0; decide), ← hA]
    change (match evLoop [ff3, jf0] 1 k 5000 (k.toNat + 1) (rt0 1 A (child rootK (0 + 1)) k) { s0e with steps := 0 + 1, forks := 0 + 1 } with
      | none => none
      | some (u, S2) => _) = _
    rw [h0]
    rfl
  obtain ⟨m, hm⟩ : ∃ m, k.toNat + 1 = m + 2 := ⟨k.toNat - 1, by omega⟩
  rw [hm] at hstep
  rw [e1 m _ _ rfl rfl rfl (by show k - 1 ≠ 0; omega) hfin.2 (by rw [hfin.1, g3]; omega) rfl g2] at hstep
  exact ⟨m + 2 + 1, _, _, hstep, rfl, hfin.2, by show (finish u S' A).steps + 1 = _; rw [hfin.1, g3]; omega⟩
structure FuW (w : World) (k : Int) (fs : List (List Ins)) (W : World) : Prop where
  row : W.rowIs (w.heap.size + 1 + 1 + 1) 52 4 (four (.slice (some ⟨w.heap.size + 1 + 1, 0, none⟩) 2 2) (.int .i64 0) (.int .i64 1) (.int .i64 k))
  code : CodeAt W.heap.size W (some ⟨w.heap.size + 1 + 1, 0, none⟩) fs
  bl : Bl w W
theorem fu_size {w : World} {o : Obj} : (w.alloc o).heap.size = w.heap.size + 1 := by simp
theorem fu_world (w : World) (k : Int) : FuW w k [jf0, jf0] ((((w.alloc (.cells #[.int .i64 7, .int .i64 0, .int .i64 0, .int .i64 0] 48)).alloc (.cells #[.int .i64 7, .int .i64 0, .int .i64 0, .int .i64 0] 48)).alloc (.cells #[.slice (some ⟨w.heap.size, 0, none⟩) 1 1, .slice (some ⟨w.heap.size + 1, 0, none⟩) 1 1] 49)).alloc (.cells #[.slice (some ⟨w.heap.size + 1 + 1, 0, none⟩) 2 2, .int .i64 0, .int .i64 1, .int .i64 k] 52)) := by
  have hf : ((((w.alloc (.cells #[.int .i64 7, .int .i64 0, .int .i64 0, .int .i64 0] 48)).alloc (.cells #[.int .i64 7, .int .i64 0, .int .i64 0, .int .i64 0] 48)).alloc (.cells #[.slice (some ⟨w.heap.size, 0, none⟩) 1 1, .slice (some ⟨w.heap.size + 1, 0, none⟩) 1 1] 49)).alloc (.cells #[.slice (some ⟨w.heap.size + 1 + 1, 0, none⟩) 2 2, .int .i64 0, .int .i64 1, .int .i64 k] 52)).heap[w.heap.size + 1 + 1]? = some (.cells #[.slice (some ⟨w.heap.size, 0, none⟩) 1 1, .slice (some ⟨w.heap.size + 1, 0, none⟩) 1 1] 49) := by
    repeat (first | (refine heap_at ?_; (simp; done)) | refine heap_up ?_)
  have h0 : ((((w.alloc (.cells #[.int .i64 7, .int .i64 0, .int .i64 0, .int .i64 0] 48)).alloc (.cells #[.int .i64 7, .int .i64 0, .int .i64 0, .int .i64 0] 48)).alloc (.cells #[.slice (some ⟨w.heap.size, 0, none⟩) 1 1, .slice (some ⟨w.heap.size + 1, 0, none⟩) 1 1] 49)).alloc (.cells #[.slice (some ⟨w.heap.size + 1 + 1, 0, none⟩) 2 2, .int .i64 0, .int .i64 1, .int .i64 k] 52)).heap[w.heap.size]? = some (.cells (icells jf0).toArray 48) := by
    repeat (first | (refine heap_at ?_; (simp; done)) | refine heap_up ?_)
  have h1 : ((((w.alloc (.cells #[.int .i64 7, .int .i64 0, .int .i64 0, .int .i64 0] 48)).alloc (.cells #[.int .i64 7, .int .i64 0, .int .i64 0, .int .i64 0] 48)).alloc (.cells #[.slice (some ⟨w.heap.size, 0, none⟩) 1 1, .slice (some ⟨w.heap.size + 1, 0, none⟩) 1 1] 49)).alloc (.cells #[.slice (some ⟨w.heap.size + 1 + 1, 0, none⟩) 2 2, .int .i64 0, .int .i64 1, .int .i64 k] 52)).heap[w.heap.size + 1]? = some (.cells (icells jf0).toArray 48) := by
    repeat (first | (refine heap_at ?_; (simp; done)) | refine heap_up ?_)
  have hr := row4_alloc (((w.alloc (.cells #[.int .i64 7, .int .i64 0, .int .i64 0, .int .i64 0] 48)).alloc (.cells #[.int .i64 7, .int .i64 0, .int .i64 0, .int .i64 0] 48)).alloc (.cells #[.slice (some ⟨w.heap.size, 0, none⟩) 1 1, .slice (some ⟨w.heap.size + 1, 0, none⟩) 1 1] 49)) (.slice (some ⟨w.heap.size + 1 + 1, 0, none⟩) 2 2) (.int .i64 0) (.int .i64 1) (.int .i64 k) 52
  have hs : (((w.alloc (.cells #[.int .i64 7, .int .i64 0, .int .i64 0, .int .i64 0] 48)).alloc (.cells #[.int .i64 7, .int .i64 0, .int .i64 0, .int .i64 0] 48)).alloc (.cells #[.slice (some ⟨w.heap.size, 0, none⟩) 1 1, .slice (some ⟨w.heap.size + 1, 0, none⟩) 1 1] 49)).heap.size = w.heap.size + 1 + 1 + 1 := by simp
  rw [hs] at hr
  have hsz : ((((w.alloc (.cells #[.int .i64 7, .int .i64 0, .int .i64 0, .int .i64 0] 48)).alloc (.cells #[.int .i64 7, .int .i64 0, .int .i64 0, .int .i64 0] 48)).alloc (.cells #[.slice (some ⟨w.heap.size, 0, none⟩) 1 1, .slice (some ⟨w.heap.size + 1, 0, none⟩) 1 1] 49)).alloc (.cells #[.slice (some ⟨w.heap.size + 1 + 1, 0, none⟩) 2 2, .int .i64 0, .int .i64 1, .int .i64 k] 52)).heap.size = w.heap.size + 4 := by simp
  refine ⟨hr, codeAt_of (by rw [hsz]; omega) (fun i f hi => ?_), ?_⟩
  · rcases i with _ | _ | i
    · obtain rfl : jf0 = f := by simpa using hi
      exact ⟨_, _, cell_of_row _ _ 0 _ 49 _ hf, by rw [hsz]; omega, _, h0⟩
    · obtain rfl : jf0 = f := by simpa using hi
      exact ⟨_, _, cell_of_row _ _ 1 _ 49 _ hf, by rw [hsz]; omega, _, h1⟩
    · simp at hi
  · repeat (first | exact Bl.refl _ | refine Bl.alloc ?_ _)
theorem fu_world3 (w : World) (k : Int) : FuW w k [ff3, jf0] (((((w.alloc (.cells #[.int .i64 7, .int .i64 0, .int .i64 0, .int .i64 0] 48)).alloc (.cells #[.int .i64 7, .int .i64 0, .int .i64 0, .int .i64 0] 48)).alloc (.cells #[.slice (some ⟨w.heap.size + 1 + 1 + 1 + 1, 0, none⟩) 3 3, .slice (some ⟨w.heap.size + 1, 0, none⟩) 1 1] 49)).alloc (.cells #[.slice (some ⟨w.heap.size + 1 + 1, 0, none⟩) 2 2, .int .i64 0, .int .i64 1, .int .i64 k] 52)).alloc (.cells #[.int .i64 9, .int .i64 0, .int .i64 1, .int .i64 0, .int .i64 10, .int .i64 0, .int .i64 0, .int .i64 0, .int .i64 15, .int .i64 0, .int .i64 0, .int .i64 0] 48)) := by
  have hf : (((((w.alloc (.cells #[.int .i64 7, .int .i64 0, .int .i64 0, .int .i64 0] 48)).alloc (.cells #[.int .i64 7, .int .i64 0, .int .i64 0, .int .i64 0] 48)).alloc (.cells #[.slice (some ⟨w.heap.size + 1 + 1 + 1 + 1, 0, none⟩) 3 3, .slice (some ⟨w.heap.size + 1, 0, none⟩) 1 1] 49)).alloc (.cells #[.slice (some ⟨w.heap.size + 1 + 1, 0, none⟩) 2 2, .int .i64 0, .int .i64 1, .int .i64 k] 52)).alloc (.cells #[.int .i64 9, .int .i64 0, .int .i64 1, .int .i64 0, .int .i64 10, .int .i64 0, .int .i64 0, .int .i64 0, .int .i64 15, .int .i64 0, .int .i64 0, .int .i64 0] 48)).heap[w.heap.size + 1 + 1]? = some (.cells #[.slice (some ⟨w.heap.size + 1 + 1 + 1 + 1, 0, none⟩) 3 3, .slice (some ⟨w.heap.size + 1, 0, none⟩) 1 1] 49) := by
    repeat (first | (refine heap_at ?_; (simp; done)) | refine heap_up ?_)
  have h0 : (((((w.alloc (.cells #[.int .i64 7, .int .i64 0, .int .i64 0, .int .i64 0] 48)).alloc (.cells #[.int .i64 7, .int .i64 0, .int .i64 0, .int .i64 0] 48)).alloc (.cells #[.slice (some ⟨w.heap.size + 1 + 1 + 1 + 1, 0, none⟩) 3 3, .slice (some ⟨w.heap.size + 1, 0, none⟩) 1 1] 49)).alloc (.cells #[.slice (some ⟨w.heap.size + 1 + 1, 0, none⟩) 2 2, .int .i64 0, .int .i64 1, .int .i64 k] 52)).alloc (.cells #[.int .i64 9, .int .i64 0, .int .i64 1, .int .i64 0, .int .i64 10, .int .i64 0, .int .i64 0, .int .i64 0, .int .i64 15, .int .i64 0, .int .i64 0, .int .i64 0] 48)).heap[w.heap.size + 1 + 1 + 1 + 1]? = some (.cells (icells ff3).toArray 48) := by
    repeat (first | (refine heap_at ?_; (simp; done)) | refine heap_up ?_)
  have h1 : (((((w.alloc (.cells #[.int .i64 7, .int .i64 0, .int .i64 0, .int .i64 0] 48)).alloc (.cells #[.int .i64 7, .int .i64 0, .int .i64 0, .int .i64 0] 48)).alloc (.cells #[.slice (some ⟨w.heap.size + 1 + 1 + 1 + 1, 0, none⟩) 3 3, .slice (some ⟨w.heap.size + 1, 0, none⟩) 1 1] 49)).alloc (.cells #[.slice (some ⟨w.heap.size + 1 + 1, 0, none⟩) 2 2, .int .i64 0, .int .i64 1, .int .i64 k] 52)).alloc (.cells #[.int .i64 9, .int .i64 0, .int .i64 1, .int .i64 0, .int .i64 10, .int .i64 0, .int .i64 0, .int .i64 0, .int .i64 15, .int .i64 0, .int .i64 0, .int .i64 0] 48)).heap[w.heap.size + 1]? = some (.cells (icells jf0).toArray 48) := by
    repeat (first | (refine heap_at ?_; (simp; done)) | refine heap_up ?_)
  have hr := row4_alloc (((w.alloc (.cells #[.int .i64 7, .int .i64 0, .int .i64 0, .int .i64 0] 48)).alloc (.cells #[.int .i64 7, .int .i64 0, .int .i64 0, .int .i64 0] 48)).alloc (.cells #[.slice (some ⟨w.heap.size + 1 + 1 + 1 + 1, 0, none⟩) 3 3, .slice (some ⟨w.heap.size + 1, 0, none⟩) 1 1] 49)) (.slice (some ⟨w.heap.size + 1 + 1, 0, none⟩) 2 2) (.int .i64 0) (.int .i64 1) (.int .i64 k) 52
  have hs : (((w.alloc (.cells #[.int .i64 7, .int .i64 0, .int .i64 0, .int .i64 0] 48)).alloc (.cells #[.int .i64 7, .int .i64 0, .int .i64 0, .int .i64 0] 48)).alloc (.cells #[.slice (some ⟨w.heap.size + 1 + 1 + 1 + 1, 0, none⟩) 3 3, .slice (some ⟨w.heap.size + 1, 0, none⟩) 1 1] 49)).heap.size = w.heap.size + 1 + 1 + 1 := by simp
  rw [hs] at hr
  have hsz : (((((w.alloc (.cells #[.int .i64 7, .int .i64 0, .int .i64 0, .int .i64 0] 48)).alloc (.cells #[.int .i64 7, .int .i64 0, .int .i64 0, .int .i64 0] 48)).alloc (.cells #[.slice (some ⟨w.heap.size + 1 + 1 + 1 + 1, 0, none⟩) 3 3, .slice (some ⟨w.heap.size + 1, 0, none⟩) 1 1] 49)).alloc (.cells #[.slice (some ⟨w.heap.size + 1 + 1, 0, none⟩) 2 2, .int .i64 0, .int .i64 1, .int .i64 k] 52)).alloc (.cells #[.int .i64 9, .int .i64 0, .int .i64 1, .int .i64 0, .int .i64 10, .int .i64 0, .int .i64 0, .int .i64 0, .int .i64 15, .int .i64 0, .int .i64 0, .int .i64 0] 48)).heap.size = w.heap.size + 5 := by simp
  refine ⟨World.rowIs.alloc hr _, codeAt_of (by rw [hsz]; omega) (fun i f hi => ?_), ?_⟩
  · rcases i with _ | _ | i
    · obtain rfl : ff3 = f := by simpa using hi
      exact ⟨_, _, cell_of_row _ _ 0 _ 49 _ hf, by rw [hsz]; omega, _, h0⟩
    · obtain rfl : jf0 = f := by simpa using hi
      exact ⟨_, _, cell_of_row _ _ 1 _ 49 _ hf, by rw [hsz]; omega, _, h1⟩
    · simp at hi
  · repeat (first | exact Bl.refl _ | refine Bl.alloc ?_ _)
set_option maxRecDepth 100000 in
set_option maxHeartbeats 8000000 in
theorem fuel_no (fuel : Int) (w : World)  : Calls Try.prog 11 #[.int .i64 fuel, .bool false] w fun e w' => e = .returned (.bool true) ∧ Bl w w' := by
  have f0 : 0 ≤ fuel % 500 := Int.emod_nonneg _ (by decide)
  have f1 : fuel % 500 < 500 := Int.emod_lt_of_pos _ (by decide)
  go_enter Try.func11, Try.ntmps11
  go_wp2_with fail
  refine (Val.place_any fuel 500 w (by decide) (by decide)).mono ?_
  rintro e w1 ⟨rfl, rfl⟩
  go_upto_region 2 with fail
  generalize hk : 1 + fuel % 500 = k at *
  obtain ⟨n, u, S2, hev, e1, e2, e3⟩ := fu_jumps (k := k) (by omega) (by omega)
  have hE := fun W (hC : CodeAt W.heap.size W (some ⟨w.heap.size + 1 + 1, 0, none⟩) [jf0, jf0]) => eval_any (some ⟨w.heap.size + 1 + 1, 0, none⟩) 2 0 1 k 0 5000 _ W (pv_jumps (by omega) (by omega)) hC (by decide) (by decide) n u S2 hev e2
  rw [e1, e3] at hE
  have HE := Lib.hid hE
  clear hev e1 e2 e3 hE
  go_upto_region 5 with fail
  refine at_w (fun W => FuW w k [jf0, jf0] W) (fu_world w k) ?_
  rintro W ⟨hrow, hcode, hbl⟩
  have hE := HE.out W hcode
  have HB := Lib.hid hbl
  obtain ⟨⟨x0, x1, x2, x3⟩, _⟩ := row4_cells hrow
  have lZ := hrow.lt
  clear hrow hcode hbl
  unfold progV resAgg at hE
  go_wp2_with fail
  refine hE.mono ?_
  rintro e w2 ⟨FB, WB, ra, rn, rc, rfl, _, _, _, _, _, hb2⟩
  have HB2 := Lib.hid hb2
  clear hb2 hE x0 x1 x2 x3 lZ
  go_wp2_with (first | (go_at_call 44; refine (awake44 _).mono ?_; rintro e w9 ⟨rfl, hb9⟩))
  refine bodyPost_ret (v := .bool true) (by simp [results, Try.results11, go_sem]) rfl ⟨rfl, ?_⟩
  exact Bl.trans HB.out (Bl.trans HB2.out (Bl.trans ((Bl.refl _).alloc _) hb9))
set_option maxRecDepth 100000 in
set_option maxHeartbeats 8000000 in
theorem fuel_small (fuel : Int) (w : World) (hs : ¬ 2 ≤ 1 + fuel % 500) : Calls Try.prog 11 #[.int .i64 fuel, .bool true] w fun e w' => e = .returned (.bool true) ∧ Bl w w' := by
  have f0 : 0 ≤ fuel % 500 := Int.emod_nonneg _ (by decide)
  have f1 : fuel % 500 < 500 := Int.emod_lt_of_pos _ (by decide)
  go_enter Try.func11, Try.ntmps11
  go_wp2_with fail
  refine (Val.place_any fuel 500 w (by decide) (by decide)).mono ?_
  rintro e w1 ⟨rfl, rfl⟩
  go_upto_region 2 with fail
  generalize hk : 1 + fuel % 500 = k at *
  obtain ⟨n, u, S2, hev, e1, e2, e3⟩ := fu_jumps (k := k) (by omega) (by omega)
  have hE := fun W (hC : CodeAt W.heap.size W (some ⟨w.heap.size + 1 + 1, 0, none⟩) [jf0, jf0]) => eval_any (some ⟨w.heap.size + 1 + 1, 0, none⟩) 2 0 1 k 0 5000 _ W (pv_jumps (by omega) (by omega)) hC (by decide) (by decide) n u S2 hev e2
  rw [e1, e3] at hE
  have HE := Lib.hid hE
  clear hev e1 e2 e3 hE
  go_upto_region 5 with fail
  refine at_w (fun W => FuW w k [jf0, jf0] W) (fu_world w k) ?_
  rintro W ⟨hrow, hcode, hbl⟩
  have hE := HE.out W hcode
  have HB := Lib.hid hbl
  obtain ⟨⟨x0, x1, x2, x3⟩, _⟩ := row4_cells hrow
  have lZ := hrow.lt
  clear hrow hcode hbl
  unfold progV resAgg at hE
  go_wp2_with fail
  refine hE.mono ?_
  rintro e w2 ⟨FB, WB, ra, rn, rc, rfl, _, _, _, _, _, hb2⟩
  have HB2 := Lib.hid hb2
  clear hb2 hE x0 x1 x2 x3 lZ
  go_wp2_with (first | (go_at_call 44; refine (awake44 _).mono ?_; rintro e w9 ⟨rfl, hb9⟩))
  refine bodyPost_ret (v := .bool true) (by simp [results, Try.results11, go_sem]) rfl ⟨rfl, ?_⟩
  exact Bl.trans HB.out (Bl.trans HB2.out (Bl.trans ((Bl.refl _).alloc _) hb9))
set_option maxRecDepth 100000 in
set_option maxHeartbeats 8000000 in
theorem fuel_inner (fuel : Int) (w : World) (hs : 2 ≤ 1 + fuel % 500) : Calls Try.prog 11 #[.int .i64 fuel, .bool true] w fun e w' => e = .returned (.bool true) ∧ Bl w w' := by
  have f0 : 0 ≤ fuel % 500 := Int.emod_nonneg _ (by decide)
  have f1 : fuel % 500 < 500 := Int.emod_lt_of_pos _ (by decide)
  go_enter Try.func11, Try.ntmps11
  go_wp2_with fail
  refine (Val.place_any fuel 500 w (by decide) (by decide)).mono ?_
  rintro e w1 ⟨rfl, rfl⟩
  go_upto_region 2 with fail
  generalize hk : 1 + fuel % 500 = k at *
  obtain ⟨n, u, S2, hev, e1, e2, e3⟩ := fu_inner (k := k) (by omega) (by omega)
  have hE := fun W (hC : CodeAt W.heap.size W (some ⟨w.heap.size + 1 + 1, 0, none⟩) [ff3, jf0]) => eval_any (some ⟨w.heap.size + 1 + 1, 0, none⟩) 2 0 1 k 0 5000 _ W (pv_inner (by omega) (by omega)) hC (by decide) (by decide) n u S2 hev e2
  rw [e1, e3] at hE
  have HE := Lib.hid hE
  clear hev e1 e2 e3 hE
  go_upto_region 5 with fail
  refine at_w (fun W => FuW w k [ff3, jf0] W) (fu_world3 w k) ?_
  rintro W ⟨hrow, hcode, hbl⟩
  have hE := HE.out W hcode
  have HB := Lib.hid hbl
  obtain ⟨⟨x0, x1, x2, x3⟩, _⟩ := row4_cells hrow
  have lZ := hrow.lt
  clear hrow hcode hbl
  unfold progV resAgg at hE
  go_wp2_with fail
  refine hE.mono ?_
  rintro e w2 ⟨FB, WB, ra, rn, rc, rfl, _, _, _, _, _, hb2⟩
  have HB2 := Lib.hid hb2
  clear hb2 hE x0 x1 x2 x3 lZ
  go_wp2_with (first | (go_at_call 44; refine (awake44 _).mono ?_; rintro e w9 ⟨rfl, hb9⟩))
  refine bodyPost_ret (v := .bool true) (by simp [results, Try.results11, go_sem]) rfl ⟨rfl, ?_⟩
  exact Bl.trans HB.out (Bl.trans HB2.out (Bl.trans ((Bl.refl _).alloc _) hb9))
theorem fuel_any (fuel : Int) (inner : Bool) (w : World) (h1 : (Lit.int .i64 fuel).wf = true) : Calls Try.prog 11 #[.int .i64 fuel, .bool inner] w fun e w' => e = .returned (.bool true) ∧ Bl w w' := by
  cases inner
  · exact fuel_no fuel w
  · by_cases h : 2 ≤ 1 + fuel % 500
    · exact fuel_inner fuel w h
    · exact fuel_small fuel w h
end Go.Proofs.Ytonndofbnhnkpaa.Evl
