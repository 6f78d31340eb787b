/- The program's package code: the shapes of instructions that may be. -/
import Derived.Test.YtonndofbnhnkpaaGreatPutA
import Derived.Test.YtonndofbnhnkpaaGreatTabJ
set_option linter.unusedVariables false
set_option linter.unusedSimpArgs false
set_option linter.unusedSectionVars false
namespace Go.Proofs.YtonndofbnhnkpaaGreat.CodA
open Go.RowKit Num KeyM KeyW StatW Blk VmA Prg PutA
def three (a b c : Value) (j : Nat) : Value := if j = 0 then a else if j = 1 then b else c
theorem three_alloc (w : World) (a b c : Value) (t : TypeId) : (w.alloc (.cells #[a, b, c] t)).rowIs w.heap.size t 3 (three a b c) :=
  World.rowIs_alloc w #[a, b, c] t _ (fun i hi => by
    have hi : i < 3 := hi
    obtain rfl | rfl | rfl : i = 0 ∨ i = 1 ∨ i = 2 := by omega
    all_goals rfl)
set_option maxHeartbeats 4000000 in
theorem operands_ok (op : Int) (w : World) (h : op = 1 ∨ op = 2 ∨ op = 3 ∨ op = 4 ∨ op = 5 ∨ op = 6 ∨ op = 7 ∨ op = 8 ∨ op = 9 ∨ op = 10 ∨ op = 11 ∨ op = 12 ∨ op = 13 ∨ op = 14 ∨ op = 15) :
    Calls Tryz.prog 98 #[.int .i64 op] w fun e w' => e = .returned (.tuple #[.agg #[.int .i64 (kindsM op).1, .int .i64 (kindsM op).2.1, .int .i64 (kindsM op).2.2], .bool true]) ∧ Bl w w' := by
  rcases h with rfl | rfl | rfl | rfl | rfl | rfl | rfl | rfl | rfl | rfl | rfl | rfl | rfl | rfl | rfl
  all_goals
    go_enter Tryz.func98, Tryz.ntmps98
    go_wp2_with fail
    refine bodyPost_ret (by simp [results, Tryz.results98, go_sem, kindsM]) rfl ⟨rfl, ?_⟩
    exact (Bl.refl _).alloc _
set_option maxHeartbeats 2000000 in
theorem fits_ok (k v : Int) (w : World) (h : fitsM k v) : Calls Tryz.prog 100 #[.int .i64 k, .int .i64 v] w fun e w' => e = .returned (.bool true) ∧ Bl w w' := by
  have i0 := idx0
  have i1 := idx1
  have i2 := idx2
  have i3 := idx3
  have i4 := idx4
  have i5 := idx5
  rcases h with ⟨rfl, h1, h2⟩ | ⟨rfl, rfl⟩ | ⟨rfl, h1, h2⟩ | ⟨rfl, h1, h2⟩ | ⟨rfl, h1, h2⟩ | ⟨rfl, h1, h2⟩ | ⟨rfl, h1, h2⟩
  all_goals
    go_enter Tryz.func100, Tryz.ntmps100
    go_wp2_with fail
    go_ret
    exact ⟨rfl, by repeat (first | exact Bl.refl _ | assumption | apply Bl.drewN | apply Bl.alloc | refine Bl.trans ?_ (by assumption))⟩
def idxF : List (Nat × Nat) := [(0, 3), (1, 4), (2, 5), (3, 6), (4, 7), (5, 8), (6, 9), (7, 10), (8, 11), (9, 12)]
def VF (B : Nat) : Nat → Value := fun d => match d with
  | 3 => .pointer (some ⟨B, 0, none⟩)
  | 4 => .pointer (some ⟨B, 0, none⟩)
  | 5 => .pointer (some ⟨B, 1, none⟩)
  | 6 => .pointer (some ⟨B, 0, none⟩)
  | 7 => .pointer (some ⟨B, 0, none⟩)
  | 8 => .pointer (some ⟨B, 2, none⟩)
  | 9 => .pointer (some ⟨B, 0, none⟩)
  | 10 => .pointer (some ⟨B, 0, none⟩)
  | 11 => .pointer (some ⟨B, 3, none⟩)
  | 12 => .agg #[.pointer (some ⟨B, 1, none⟩), .pointer (some ⟨B, 2, none⟩), .pointer (some ⟨B, 3, none⟩)]
  | _ => undef
/-- The three cells are laid, or not yet. -/
def WF (w : World) (G : Nat) (B : Nat) (L : Array Bool) (w' : World) : Prop :=
  w'.rowIs G 142 3 (if L[10]? = some true then three (.pointer (some ⟨B, 1, none⟩)) (.pointer (some ⟨B, 2, none⟩)) (.pointer (some ⟨B, 3, none⟩)) else three (.pointer none) (.pointer none) (.pointer none)) ∧ Below w.heap.size w w'
set_option maxRecDepth 100000 in
set_option maxHeartbeats 4000000 in
theorem fields_any (B : Nat) (w : World) : Calls Tryz.prog 99 #[.pointer (some ⟨B, 0, none⟩)] w fun e w' => e = .returned (.agg #[.pointer (some ⟨B, 1, none⟩), .pointer (some ⟨B, 2, none⟩), .pointer (some ⟨B, 3, none⟩)]) ∧ Bl w w' := by
  have hE := three_alloc w (.pointer none) (.pointer none) (.pointer none) 142
  have HB : Hid (Below w.heap.size w (w.alloc (.cells #[.pointer none, .pointer none, .pointer none] 142))) := (Bl.refl w).alloc _
  have HE := Lib.hid hE
  clear hE
  go_enter Tryz.func99, Tryz.ntmps99
  go_wp2_with fail
  refine Tab.region_tab2 (by kernel_rfl) idxF [] 13 (VF B) (WF w w.heap.size B) (by kernel_rfl) (by rfl) (by kernel_rfl) (by intro g hg; cases hg) ?_ ?_ ?_
  · unfold WF
    rw [if_neg (by decide)]
    exact ⟨World.rowIs.drew HE.out, Bl.drew HB.out⟩
  · intro L a w8 hT hs hd hW
    unfold WF at hW
    rw [if_pos (hd 10 (by decide))] at hW
    obtain ⟨h1, h2⟩ := hW
    have r2 : a.tmps[2]? = some (.pointer (some ⟨w.heap.size, 0, none⟩)) := (hT.out 2 (by decide)).trans rfl
    have hdf : a.defers = [] := hT.dfs
    have z0 : w8.cell? ⟨w.heap.size, 0, none⟩ = some (.pointer (some ⟨B, 1, none⟩)) := h1.cell (i := 0) (by omega)
    have z1 : w8.cell? ⟨w.heap.size, 1, none⟩ = some (.pointer (some ⟨B, 2, none⟩)) := h1.cell (i := 1) (by omega)
    have z2 : w8.cell? ⟨w.heap.size, 2, none⟩ = some (.pointer (some ⟨B, 3, none⟩)) := h1.cell (i := 2) (by omega)
    have zl := h1.lt
    clear hT hs hd h1
    go_wp2_with fail
    refine bodyPost_ret (by simp [results, Tryz.results99, go_sem, r2, z0, z1, z2, zl]) hdf ⟨rfl, h2⟩
  · intro i' o L a w8 K' Q' hT hs hW hL ho hd hK
    have hi' : i' < 11 := (Array.getElem?_eq_some_iff.1 ho).1
    have r0 : a.tmps[0]? = some (.pointer (some ⟨B, 0, none⟩)) := (hT.out 0 (by decide)).trans rfl
    have r2 : a.tmps[2]? = some (.pointer (some ⟨w.heap.size, 0, none⟩)) := (hT.out 2 (by decide)).trans rfl
    have HT : Hid (∀ q ∈ idxF, L[q.1]? = some true → a.tmps[q.2]? = some (VF B q.2)) := hT.tab
    have HW := Lib.hid hW
    clear hT hs hW
    have hsk : ∀ i, i ≠ 10 → WF w w.heap.size B (L.setIfInBounds i true) w8 := fun i hi => by
      have := HW.out
      unfold WF at this ⊢
      rw [Tab.get_ne (fun e => hi e.symm)]
      exact this
    obtain rfl | rfl | rfl | rfl | rfl | rfl | rfl | rfl | rfl | rfl | rfl : i' = 0 ∨ i' = 1 ∨ i' = 2 ∨ i' = 3 ∨ i' = 4 ∨ i' = 5 ∨ i' = 6 ∨ i' = 7 ∨ i' = 8 ∨ i' = 9 ∨ i' = 10 := by omega
    · cases ho
      clear hd HT
      go_simp
      exact hK _ (hsk _ (by decide))
    · have s3 : a.tmps[3]? = some (.pointer (some ⟨B, 0, none⟩)) := HT.out (0, 3) (by decide) (by cases ho; exact hd ⟨0, .data⟩ (by simp) rfl)
      cases ho
      clear hd HT
      go_simp
      exact hK _ (hsk _ (by decide))
    · have s4 : a.tmps[4]? = some (.pointer (some ⟨B, 0, none⟩)) := HT.out (1, 4) (by decide) (by cases ho; exact hd ⟨1, .data⟩ (by simp) rfl)
      cases ho
      clear hd HT
      go_simp
      exact hK _ (hsk _ (by decide))
    · cases ho
      clear hd HT
      go_simp
      exact hK _ (hsk _ (by decide))
    · have s6 : a.tmps[6]? = some (.pointer (some ⟨B, 0, none⟩)) := HT.out (3, 6) (by decide) (by cases ho; exact hd ⟨3, .data⟩ (by simp) rfl)
      cases ho
      clear hd HT
      go_simp
      exact hK _ (hsk _ (by decide))
    · have s7 : a.tmps[7]? = some (.pointer (some ⟨B, 0, none⟩)) := HT.out (4, 7) (by decide) (by cases ho; exact hd ⟨4, .data⟩ (by simp) rfl)
      cases ho
      clear hd HT
      go_simp
      exact hK _ (hsk _ (by decide))
    · cases ho
      clear hd HT
      go_simp
      exact hK _ (hsk _ (by decide))
    · have s9 : a.tmps[9]? = some (.pointer (some ⟨B, 0, none⟩)) := HT.out (6, 9) (by decide) (by cases ho; exact hd ⟨6, .data⟩ (by simp) rfl)
      cases ho
      clear hd HT
      go_simp
      exact hK _ (hsk _ (by decide))
    · have s10 : a.tmps[10]? = some (.pointer (some ⟨B, 0, none⟩)) := HT.out (7, 10) (by decide) (by cases ho; exact hd ⟨7, .data⟩ (by simp) rfl)
      cases ho
      clear hd HT
      go_simp
      exact hK _ (hsk _ (by decide))
    · have s5 : a.tmps[5]? = some (.pointer (some ⟨B, 1, none⟩)) := HT.out (2, 5) (by decide) (by cases ho; exact hd ⟨2, .data⟩ (by simp) rfl)
      have s8 : a.tmps[8]? = some (.pointer (some ⟨B, 2, none⟩)) := HT.out (5, 8) (by decide) (by cases ho; exact hd ⟨5, .data⟩ (by simp) rfl)
      have s11 : a.tmps[11]? = some (.pointer (some ⟨B, 3, none⟩)) := HT.out (8, 11) (by decide) (by cases ho; exact hd ⟨8, .data⟩ (by simp) rfl)
      cases ho
      clear hd HT
      go_simp
      exact hK _ (hsk _ (by decide))
    · have s12 : a.tmps[12]? = some (.agg #[.pointer (some ⟨B, 1, none⟩), .pointer (some ⟨B, 2, none⟩), .pointer (some ⟨B, 3, none⟩)]) := HT.out (9, 12) (by decide) (by cases ho; exact hd ⟨9, .data⟩ (by simp) rfl)
      cases ho
      clear hd HT
      have hw := HW.out
      unfold WF at hw
      rw [if_neg (by rw [hL]; decide)] at hw
      obtain ⟨h1, h2⟩ := hw
      have z0 : w8.cell? ⟨w.heap.size, 0, none⟩ = some (.pointer none) := h1.cell (i := 0) (by omega)
      have z1 : w8.cell? ⟨w.heap.size, 1, none⟩ = some (.pointer none) := h1.cell (i := 1) (by omega)
      have z2 : w8.cell? ⟨w.heap.size, 2, none⟩ = some (.pointer none) := h1.cell (i := 2) (by omega)
      have y0 := h1.frozen 0
      have y1 := h1.frozen 1
      have y2 := h1.frozen 2
      have zl := h1.lt
      clear hsk
      go_simp
      refine hK _ ?_
      unfold WF
      rw [if_pos (Tab.get_self hL)]
      refine ⟨World.rowIs.congr (((h1.set 0 (.pointer (some ⟨B, 1, none⟩))).set 1 (.pointer (some ⟨B, 2, none⟩))).set 2 (.pointer (some ⟨B, 3, none⟩))) (fun i hi => ?_), Below.setCell (Below.setCell (Below.setCell h2 (by exact Nat.le_refl _) _) (by exact Nat.le_refl _) _) (by exact Nat.le_refl _) _⟩
      obtain rfl | rfl | rfl : i = 0 ∨ i = 1 ∨ i = 2 := by omega
      all_goals rfl
end Go.Proofs.YtonndofbnhnkpaaGreat.CodA
