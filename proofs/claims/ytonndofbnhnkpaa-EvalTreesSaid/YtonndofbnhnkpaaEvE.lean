/- The law of the ways to end without a value: the walk. -/
import Derived.Test.YtonndofbnhnkpaaEvlXJ
import Derived.Deep.CutBlock
set_option linter.unusedVariables false
set_option linter.unusedSimpArgs false
set_option linter.unusedSectionVars false
namespace Go.Proofs.Ytonndofbnhnkpaa.Evl
open Go.RowKit Num KeyM KeyW StatW Blk VmA VmG Prg EvM Rf PutA CodA
/-- The programs of the law. -/
def rt15 : Ins := ⟨15, 0, 0, 0⟩
def ef (k : Nat) : List Ins := if k = 0 then [⟨5, 0, 0, 1⟩, rt15] else if k = 1 then [⟨11, 0, 0, 0⟩, ⟨11, 0, 0, 0⟩, rt15] else if k = 2 then [⟨12, 0, 0, 0⟩, rt15] else if k = 3 then [⟨7, 0, 0, 0⟩, rt15] else if k = 4 then [⟨9, 0, 1, 0⟩, ⟨10, 0, 0, 0⟩, rt15] else if k = 5 then [⟨10, 0, 2, 0⟩, rt15] else if k = 6 then [⟨13, 1, 0, 0⟩, rt15] else [⟨14, 0, 0, 0⟩, rt15]
def ew (k : Nat) : Int := if k = 0 then 2 else if k = 1 then 3 else if k = 2 then 4 else if k = 3 then 5 else if k = 4 then 6 else if k = 5 then 7 else if k = 6 then 7 else 1
theorem eight {P : Nat → Prop} (h0 : P 0) (h1 : P 1) (h2 : P 2) (h3 : P 3) (h4 : P 4) (h5 : P 5) (h6 : P 6) (h7 : P 7) : ∀ k, k < 8 → P k := fun k hk => by
  obtain rfl | rfl | rfl | rfl | rfl | rfl | rfl | rfl : k = 0 ∨ k = 1 ∨ k = 2 ∨ k = 3 ∨ k = 4 ∨ k = 5 ∨ k = 6 ∨ k = 7 := by omega
  all_goals assumption
theorem pv_two {f : List Ins} (h1 : 1 ≤ f.length) (h2 : f.length ≤ 40) (hx : ∀ x ∈ f, InsIn 2 1 f.length x) (hl : ∃ x, f[f.length - 1]? = some x ∧ (x.op = 7 ∨ x.op = 15)) : PV [f, [rt15]] 1 0 20 := by
  refine ⟨by show 1 ≤ 2; decide, by show 2 ≤ 12; decide, by decide, by decide, by decide, by decide, by decide, by decide, ?_⟩
  intro g hg
  simp only [List.mem_cons, List.not_mem_nil, or_false] at hg
  rcases hg with rfl | rfl
  · exact ⟨h1, h2, hx, hl⟩
  · refine ⟨by decide, by decide, fun x hx => ?_, ⟨rt15, rfl, by decide⟩⟩
    obtain rfl := List.mem_singleton.1 hx
    simp [InsIn, InsOk, Rg, rt15]
theorem ef_pv : ∀ k, k < 8 → PV [ef k, [rt15]] 1 0 20 := by
  refine eight ?_ ?_ ?_ ?_ ?_ ?_ ?_ ?_
  all_goals
    refine pv_two (by decide) (by decide) ?_ ⟨rt15, rfl, by decide⟩
    intro x hx
    simp [ef] at hx
    first | (rcases hx with rfl | rfl | rfl <;> simp [InsIn, InsOk, Rg, rt15, ef]) | (rcases hx with rfl | rfl <;> simp [InsIn, InsOk, Rg, rt15, ef])
def EvE (arg : Int) (k : Nat) : Prop := ∃ u S2, evLoop [ef k, [rt15]] 0 20 100 25 (rt0 0 arg rootK 20) s0e = some (u, S2) ∧ u.how = ew k ∧ S2.over = false ∧ S2.ran = [] ∧ u.key = rootK ∧ S2.was 0 = decide (k = 1)
theorem ev_get {o : Option (RT × RS)} {h : Int} {b : Bool} {key : Int} {wa : Bool} (e : o.map (fun q => (q.1.how, q.2.over, q.2.ran.length, q.1.key, q.2.was 0)) = some (h, b, 0, key, wa)) : ∃ u S2, o = some (u, S2) ∧ u.how = h ∧ S2.over = b ∧ S2.ran = [] ∧ u.key = key ∧ S2.was 0 = wa := by
  obtain ⟨⟨u, S2⟩, h1, h2⟩ := Option.map_eq_some_iff.1 e
  injection h2 with a1 a2
  injection a2 with a2 a3
  injection a3 with a3 a4
  injection a4 with a4 a5
  exact ⟨u, S2, h1, a1, a2, List.eq_nil_of_length_eq_zero a3, a4, a5⟩
theorem ef_ev (arg : Int) : ∀ k, k < 8 → EvE arg k := by
  refine eight ?_ ?_ ?_ ?_ ?_ ?_ ?_ ?_
  all_goals exact ev_get (by kernel_rfl)
theorem idx88 (n : Nat) (w : World) : ∀ k, k < 8 → (Instr.index 88 (.agg #[.slice (some ⟨n + 1 + 1, 0, none⟩) 2 2, .slice (some ⟨n + 1 + 1 + 1, 0, none⟩) 3 3, .slice (some ⟨n + 1 + 1 + 1 + 1, 0, none⟩) 2 2, .slice (some ⟨n + 1 + 1 + 1 + 1 + 1, 0, none⟩) 2 2, .slice (some ⟨n + 1 + 1 + 1 + 1 + 1 + 1, 0, none⟩) 3 3, .slice (some ⟨n + 1 + 1 + 1 + 1 + 1 + 1 + 1, 0, none⟩) 2 2, .slice (some ⟨n + 1 + 1 + 1 + 1 + 1 + 1 + 1 + 1, 0, none⟩) 2 2, .slice (some ⟨n + 1 + 1 + 1 + 1 + 1 + 1 + 1 + 1 + 1, 0, none⟩) 2 2]) (.int .i64 (k : Nat))).run Try.prog w = .ok (.slice (some ⟨n + 2 + k, 0, none⟩) (ef k).length (ef k).length) w := by
  refine eight ?_ ?_ ?_ ?_ ?_ ?_ ?_ ?_
  all_goals kernel_rfl
theorem idx89 (w : World) : ∀ k, k < 8 → (Instr.index 89 (.agg #[.int .i64 2, .int .i64 3, .int .i64 4, .int .i64 5, .int .i64 6, .int .i64 7, .int .i64 7, .int .i64 1]) (.int .i64 (k : Nat))).run Try.prog w = .ok (.int .i64 (ew k)) w := by
  refine eight ?_ ?_ ?_ ?_ ?_ ?_ ?_ ?_
  all_goals kernel_rfl
def eW (w : World) (k : Nat) : World := ((((((((((((w.alloc (.cells #[.int .i64 15, .int .i64 0, .int .i64 0, .int .i64 0] 48)).alloc (.cells #[.int .i64 15, .int .i64 0, .int .i64 0, .int .i64 0] 48)).alloc (.cells #[.int .i64 5, .int .i64 0, .int .i64 0, .int .i64 1, .int .i64 15, .int .i64 0, .int .i64 0, .int .i64 0] 48)).alloc (.cells #[.int .i64 11, .int .i64 0, .int .i64 0, .int .i64 0, .int .i64 11, .int .i64 0, .int .i64 0, .int .i64 0, .int .i64 15, .int .i64 0, .int .i64 0, .int .i64 0] 48)).alloc (.cells #[.int .i64 12, .int .i64 0, .int .i64 0, .int .i64 0, .int .i64 15, .int .i64 0, .int .i64 0, .int .i64 0] 48)).alloc (.cells #[.int .i64 7, .int .i64 0, .int .i64 0, .int .i64 0, .int .i64 15, .int .i64 0, .int .i64 0, .int .i64 0] 48)).alloc (.cells #[.int .i64 9, .int .i64 0, .int .i64 1, .int .i64 0, .int .i64 10, .int .i64 0, .int .i64 0, .int .i64 0, .int .i64 15, .int .i64 0, .int .i64 0, .int .i64 0] 48)).alloc (.cells #[.int .i64 10, .int .i64 0, .int .i64 2, .int .i64 0, .int .i64 15, .int .i64 0, .int .i64 0, .int .i64 0] 48)).alloc (.cells #[.int .i64 13, .int .i64 1, .int .i64 0, .int .i64 0, .int .i64 15, .int .i64 0, .int .i64 0, .int .i64 0] 48)).alloc (.cells #[.int .i64 14, .int .i64 0, .int .i64 0, .int .i64 0, .int .i64 15, .int .i64 0, .int .i64 0, .int .i64 0] 48)).alloc (.cells #[.slice (some ⟨w.heap.size + 2 + k, 0, none⟩) (ef k).length (ef k).length, .slice (some ⟨w.heap.size + 1, 0, none⟩) 1 1] 49)).alloc (.cells #[.slice (some ⟨w.heap.size + 1 + 1 + 1 + 1 + 1 + 1 + 1 + 1 + 1 + 1, 0, none⟩) 2 2, .int .i64 1, .int .i64 0, .int .i64 20] 52))
theorem heap_at {w : World} {o : Obj} {g : Nat} (h : w.heap.size = g) : (w.alloc o).heap[g]? = some o := by subst h; exact heap_alloc_new w o
theorem heap_up {w : World} {o o' : Obj} {g : Nat} (h : w.heap[g]? = some o) : (w.alloc o').heap[g]? = some o := by
  rcases Nat.lt_or_ge g w.heap.size with q | q
  · exact (heap_alloc_old w o' q).trans h
  · rw [Array.getElem?_eq_none q] at h; cases h
structure ErW (w : World) (k : Nat) (W : World) : Prop where
  row : W.rowIs (w.heap.size + 1 + 1 + 1 + 1 + 1 + 1 + 1 + 1 + 1 + 1 + 1) 52 4 (four (.slice (some ⟨w.heap.size + 1 + 1 + 1 + 1 + 1 + 1 + 1 + 1 + 1 + 1, 0, none⟩) 2 2) (.int .i64 1) (.int .i64 0) (.int .i64 20))
  code : CodeAt W.heap.size W (some ⟨w.heap.size + 1 + 1 + 1 + 1 + 1 + 1 + 1 + 1 + 1 + 1, 0, none⟩) [ef k, [rt15]]
  bl : Bl w W
theorem er_fn (w : World) : ∀ k, k < 8 → (eW w k).heap[w.heap.size + 2 + k]? = some (.cells (icells (ef k)).toArray 48) := by
  refine eight ?_ ?_ ?_ ?_ ?_ ?_ ?_ ?_
  all_goals
    unfold eW
    repeat (first | exact heap_at (by simp) | refine heap_up ?_)
theorem er_rt (w : World) (k : Nat) : (eW w k).heap[w.heap.size + 1]? = some (.cells (icells [rt15]).toArray 48) := by
  unfold eW
  repeat (first | exact heap_at (by simp) | refine heap_up ?_)
theorem er_fs (w : World) (k : Nat) : (eW w k).heap[w.heap.size + 1 + 1 + 1 + 1 + 1 + 1 + 1 + 1 + 1 + 1]? = some (.cells #[.slice (some ⟨w.heap.size + 2 + k, 0, none⟩) (ef k).length (ef k).length, .slice (some ⟨w.heap.size + 1, 0, none⟩) 1 1] 49) := by
  unfold eW
  repeat (first | exact heap_at (by simp) | refine heap_up ?_)
theorem er_size (w : World) (k : Nat) : (eW w k).heap.size = w.heap.size + 12 := by unfold eW; simp
theorem er_world (w : World) (k : Nat) (hk : k < 8) : ErW w k (eW w k) := by
  refine ⟨?_, ?_, ?_⟩
  · unfold eW
    have h := row4_alloc (((((((((((w.alloc (.cells #[.int .i64 15, .int .i64 0, .int .i64 0, .int .i64 0] 48)).alloc (.cells #[.int .i64 15, .int .i64 0, .int .i64 0, .int .i64 0] 48)).alloc (.cells #[.int .i64 5, .int .i64 0, .int .i64 0, .int .i64 1, .int .i64 15, .int .i64 0, .int .i64 0, .int .i64 0] 48)).alloc (.cells #[.int .i64 11, .int .i64 0, .int .i64 0, .int .i64 0, .int .i64 11, .int .i64 0, .int .i64 0, .int .i64 0, .int .i64 15, .int .i64 0, .int .i64 0, .int .i64 0] 48)).alloc (.cells #[.int .i64 12, .int .i64 0, .int .i64 0, .int .i64 0, .int .i64 15, .int .i64 0, .int .i64 0, .int .i64 0] 48)).alloc (.cells #[.int .i64 7, .int .i64 0, .int .i64 0, .int .i64 0, .int .i64 15, .int .i64 0, .int .i64 0, .int .i64 0] 48)).alloc (.cells #[.int .i64 9, .int .i64 0, .int .i64 1, .int .i64 0, .int .i64 10, .int .i64 0, .int .i64 0, .int .i64 0, .int .i64 15, .int .i64 0, .int .i64 0, .int .i64 0] 48)).alloc (.cells #[.int .i64 10, .int .i64 0, .int .i64 2, .int .i64 0, .int .i64 15, .int .i64 0, .int .i64 0, .int .i64 0] 48)).alloc (.cells #[.int .i64 13, .int .i64 1, .int .i64 0, .int .i64 0, .int .i64 15, .int .i64 0, .int .i64 0, .int .i64 0] 48)).alloc (.cells #[.int .i64 14, .int .i64 0, .int .i64 0, .int .i64 0, .int .i64 15, .int .i64 0, .int .i64 0, .int .i64 0] 48)).alloc (.cells #[.slice (some ⟨w.heap.size + 2 + k, 0, none⟩) (ef k).length (ef k).length, .slice (some ⟨w.heap.size + 1, 0, none⟩) 1 1] 49)) (.slice (some ⟨w.heap.size + 1 + 1 + 1 + 1 + 1 + 1 + 1 + 1 + 1 + 1, 0, none⟩) 2 2) (.int .i64 1) (.int .i64 0) (.int .i64 20) 52
    have hs : ((((((((((((w.alloc (.cells #[.int .i64 15, .int .i64 0, .int .i64 0, .int .i64 0] 48)).alloc (.cells #[.int .i64 15, .int .i64 0, .int .i64 0, .int .i64 0] 48)).alloc (.cells #[.int .i64 5, .int .i64 0, .int .i64 0, .int .i64 1, .int .i64 15, .int .i64 0, .int .i64 0, .int .i64 0] 48)).alloc (.cells #[.int .i64 11, .int .i64 0, .int .i64 0, .int .i64 0, .int .i64 11, .int .i64 0, .int .i64 0, .int .i64 0, .int .i64 15, .int .i64 0, .int .i64 0, .int .i64 0] 48)).alloc (.cells #[.int .i64 12, .int .i64 0, .int .i64 0, .int .i64 0, .int .i64 15, .int .i64 0, .int .i64 0, .int .i64 0] 48)).alloc (.cells #[.int .i64 7, .int .i64 0, .int .i64 0, .int .i64 0, .int .i64 15, .int .i64 0, .int .i64 0, .int .i64 0] 48)).alloc (.cells #[.int .i64 9, .int .i64 0, .int .i64 1, .int .i64 0, .int .i64 10, .int .i64 0, .int .i64 0, .int .i64 0, .int .i64 15, .int .i64 0, .int .i64 0, .int .i64 0] 48)).alloc (.cells #[.int .i64 10, .int .i64 0, .int .i64 2, .int .i64 0, .int .i64 15, .int .i64 0, .int .i64 0, .int .i64 0] 48)).alloc (.cells #[.int .i64 13, .int .i64 1, .int .i64 0, .int .i64 0, .int .i64 15, .int .i64 0, .int .i64 0, .int .i64 0] 48)).alloc (.cells #[.int .i64 14, .int .i64 0, .int .i64 0, .int .i64 0, .int .i64 15, .int .i64 0, .int .i64 0, .int .i64 0] 48)).alloc (.cells #[.slice (some ⟨w.heap.size + 2 + k, 0, none⟩) (ef k).length (ef k).length, .slice (some ⟨w.heap.size + 1, 0, none⟩) 1 1] 49))).heap.size = w.heap.size + 1 + 1 + 1 + 1 + 1 + 1 + 1 + 1 + 1 + 1 + 1 := by simp
    rw [hs] at h
    exact h
  · have hsz := er_size w k
    have hf := er_fs w k
    refine codeAt_of (by rw [hsz]; omega) (fun i f hi => ?_)
    rcases i with _ | _ | i
    · obtain rfl : ef k = f := by simpa using hi
      exact ⟨_, _, cell_of_row _ _ 0 _ 49 _ hf, by rw [hsz]; omega, _, er_fn w k hk⟩
    · obtain rfl : [rt15] = f := by simpa using hi
      exact ⟨_, _, cell_of_row _ _ 1 _ 49 _ hf, by rw [hsz]; omega, _, er_rt w k⟩
    · simp at hi
  · unfold eW
    repeat (first | exact Bl.refl _ | refine Bl.alloc ?_ _)
theorem own_cells {w : World} {base n g cap size : Nat} {e : TypeId} {xs : List Value} (h : w.ownsRow base e size (.slice (some ⟨g, 0, none⟩) n cap) n xs) {k : Nat} {u : Value} (hk : xs[k]? = some u) : w.cell? ⟨g, k, none⟩ = some u := by
  obtain ⟨h1, ⟨h2, _⟩ | ⟨g', cap', cur, h2, h3, h4, h5, h6, h7, h8⟩⟩ := h
  · cases h2
  · injection h2 with h2 _ _
    injection h2 with h2
    injection h2 with h2
    subst h2
    rw [cell_of_row w g k cur e (0, 0) h4]
    have hlt : k < xs.length := (List.getElem?_eq_some_iff.1 hk).1
    have : (cur.toList.take (n * size))[k]? = some u := by rw [h8]; exact hk
    rw [List.getElem?_take, if_pos (by omega)] at this
    simpa using this
theorem own_one {w : World} {base n size : Nat} {e : TypeId} {ra : Option Addr} {rn rc : Nat} {xs : List Value} (h : w.ownsRow base e size (.slice ra rn rc) n xs) (hn : 1 ≤ n) : ∃ g, ra = some ⟨g, 0, none⟩ ∧ rn = n := by
  obtain ⟨h1, ⟨h2, h3⟩ | ⟨g', cap', cur, h2, _⟩⟩ := h
  · omega
  · injection h2 with h2 h3 h4
    exact ⟨g', h2, h3⟩
set_option maxRecDepth 100000 in
set_option maxHeartbeats 8000000 in
theorem errors_k (how arg : Int) (w : World) (k : Nat) (h : how % 8 = k) (hk : k < 8) : Calls Try.prog 12 #[.int .i64 how, .int .i64 arg] w fun e w' => e = .returned (.bool true) ∧ Bl w w' := by
  have h88 := fun W => idx88 w.heap.size W k hk
  have h89 := fun W => idx89 W k hk
  obtain ⟨u, S2, hev, e1, e2, e3, e4, e5⟩ := ef_ev arg k hk
  have hfin : (finish u S2 arg).ran = [⟨rootK, u.fn, wrap32 arg, ew k, u.val⟩] := by unfold finish; rw [if_neg (by rw [e2]; decide), e3, e1, e4]; rfl
  have hE := fun W (hC : CodeAt W.heap.size W (some ⟨w.heap.size + 1 + 1 + 1 + 1 + 1 + 1 + 1 + 1 + 1 + 1, 0, none⟩) [ef k, [rt15]]) => eval_any (some ⟨w.heap.size + 1 + 1 + 1 + 1 + 1 + 1 + 1 + 1 + 1 + 1, 0, none⟩) 2 1 0 20 arg 100 _ W (ef_pv k hk) hC (by decide) (by decide) 25 u S2 hev e2
  rw [hfin] at hE
  have hkk : ((k : Int) == 1) = decide (k = 1) := by by_cases e : k = 1 <;> simp [e]; omega
  have HFIN := Lib.hid hfin
  have HE := Lib.hid hE
  have E1 := Lib.hid e1
  have E5 := Lib.hid e5
  clear hev e1 e2 e3 e4 e5 hfin hE
  go_enter Try.func12, Try.ntmps12
  go_wp2_with fail
  refine (Val.place_any how 8 w (by decide) (by decide)).mono ?_
  rintro e w1 ⟨rfl, rfl⟩
  rw [h]
  clear h
  go_upto_region 7 with fail
  refine at_w (fun W => ErW w k W) (er_world w k hk) ?_
  rintro W ⟨hrow, hcode, hbl⟩
  have hE := HE.out W hcode
  have HB := Lib.hid hbl
  obtain ⟨⟨x0, x1, x2, x3⟩, _⟩ := row4_cells hrow
  have lZ := hrow.lt
  clear hrow hcode hbl h88 h89
  unfold progV resAgg at hE
  go_wp2_with fail
  refine hE.mono ?_
  rintro e w2 ⟨FB, WB, ra, rn, rc, rfl, ho, hF, hW, _, _, hb2⟩
  obtain ⟨g, rfl, rfl⟩ := own_one ho (by show 1 ≤ 1; decide)
  have y0 : w2.cell? ⟨g, 0, none⟩ = some (.int .i64 1125899906842624) := own_cells ho rfl
  have y3 : w2.cell? ⟨g, 3, none⟩ = some (.int .i64 (ew k)) := own_cells ho rfl
  have z0 : w2.cell? ⟨WB, 0, none⟩ = some (.bool (decide (k = 1))) := (hW.cell (i := 0) (by decide)).trans (by rw [E5.out])
  have ly := lt_of_cell y0
  have lz := lt_of_cell z0
  simp only at ly lz
  have e1 := E1.out
  have HB2 := Lib.hid hb2
  rw [e1]
  clear hb2 ho hE hF hW x0 x1 x2 x3 lZ e1
  have hly : g < w2.heap.size + 1 := by omega
  have hlz : WB < w2.heap.size + 1 := by omega
  go_wp2_with (first | (go_at_call 44; refine (awake44 _).mono ?_; rintro e w9 ⟨rfl, hb9⟩))
  refine bodyPost_ret (v := .bool true) (by simp [results, Try.results12, go_sem]) rfl ⟨rfl, ?_⟩
  exact Bl.trans HB.out (Bl.trans HB2.out (Bl.trans ((Bl.refl _).alloc _) hb9))
theorem errors_any (how arg : Int) (w : World) (h1 : (Lit.int .i64 how).wf = true) (h2 : (Lit.int .i64 arg).wf = true) : Calls Try.prog 12 #[.int .i64 how, .int .i64 arg] w fun e w' => e = .returned (.bool true) ∧ Bl w w' :=
  errors_k how arg w (how % 8).toNat (by omega) (by omega)
end Go.Proofs.Ytonndofbnhnkpaa.Evl
