/- The contracts of package stats' counters. -/
import Derived.Test.YtonndofbnhnkpaaKeyX
import Derived.Test.YtonndofbnhnkpaaStatM
import Derived.Deep.OwnRows
import Derived.Deep.RegionHeld3
import Derived.Deep.RegionWith
import Derived.WalkLawsBesides
namespace Go.Proofs.Ytonndofbnhnkpaa.StatW
open Go.RowKit Num KeyM KeyW StatM

/-- The counts' cells. -/
def stF (s : St) (j : Nat) : Value := .int .i64 (if j = 0 then s.st else if j = 1 then s.fi else if j = 2 then s.va else if j = 3 then s.er else if j = 4 then s.se else if j = 5 then s.de else s.op)
def evV (e : Ev) : Value := .agg #[.int .i64 e.kind, .int .i64 e.key, .int .i64 e.how, .int .i64 e.val]

/-- Only block B has turned, and what is new. -/
def On (B : Nat) (w w' : World) : Prop := w.grownBy w' (some B)
theorem on_refl (B : Nat) (w : World) : On B w w := ⟨rfl, rfl, rfl, Nat.le_refl _, fun _ _ _ => rfl⟩
theorem on_alloc {B : Nat} {a w : World} (h : On B a w) (o : Obj) : On B a (w.alloc o) :=
  ⟨h.os, h.tape, h.output, Nat.le_trans h.size (by simp), fun i hi hne => (Below.heap_alloc w o i (Nat.lt_of_lt_of_le hi h.size)).trans (h.block i hi hne)⟩
theorem on_drewN {B : Nat} {a w : World} (h : On B a w) (n : Nat) : On B a (w.drewN n) := ⟨h.os, h.tape, h.output, h.size, h.block⟩
theorem on_drew {B : Nat} {a w : World} (h : On B a w) : On B a w.drew := ⟨h.os, h.tape, h.output, h.size, h.block⟩
theorem on_bl {B : Nat} {a w w' : World} (h : On B a w) (k : Bl w w') : On B a w' :=
  ⟨k.os.trans h.os, k.tape.trans h.tape, k.output.trans h.output, Nat.le_trans h.size k.size, fun i hi hne => (k.block i (Nat.lt_of_lt_of_le hi h.size)).trans (h.block i hi hne)⟩
theorem on_set {B : Nat} {a w : World} (h : On B a w) {p : Addr} (hp : p.block = B ∨ a.heap.size ≤ p.block) (u : Value) : On B a (w.setCell p u) :=
  ⟨h.os, h.tape, h.output, by simpa [World.setCell] using h.size, fun i hi hne => (Below.heap_setCell w p u i (by
    rintro rfl
    rcases hp with hp | hp
    · exact hne (by rw [hp])
    · omega)).trans (h.block i hi hne)⟩

theorem on_setB {B : Nat} {a w : World} (h : On B a w) {o : Nat} {sp : Option Nat} (u : Value) : On B a (w.setCell ⟨B, o, sp⟩ u) := on_set h (Or.inl rfl) u

theorem Bl.drew {w w' : World} (h : Bl w w') : Bl w w'.drew := Bl.drewN h 1
theorem st_cell {w w' : World} {p : Addr} {v : Value} (hB : Bl w w') (h : w.cell? p = some v) : w'.cell? p = some v := by
  have hb : p.block < w.heap.size := by
    have hc := h
    unfold World.cell? at hc
    rcases Nat.lt_or_ge p.block w.heap.size with g | g
    · exact g
    · simp [Array.getElem?_eq_none g] at hc
  exact (Below.cell hB hb).trans h
theorem st_frozen {w w' : World} {p : Addr} {v : Value} (hB : Bl w w') (h : w.cell? p = some v) (hf : w.frozen? p = false) : w'.frozen? p = false := by
  have hb : p.block < w.heap.size := by
    have hc := h
    unfold World.cell? at hc
    rcases Nat.lt_or_ge p.block w.heap.size with g | g
    · exact g
    · simp [Array.getElem?_eq_none g] at hc
  exact (Below.frozen hB hb).trans hf

theorem row_bl {w w' : World} {b n : Nat} {t : TypeId} {f : Nat → Value} (h : w.rowIs b t n f) (hB : Bl w w') : w'.rowIs b t n f := h.of_block (hB.block b h.lt)

theorem set_any (B : Nat) (s : St) (e : Ev) (w : World) (h : w.rowIs B 25 7 (stF s)) (hb : 0 ≤ s.se) (hb' : s.se ≤ 9000000000000000000) :
    Calls Try.prog 54 #[.pointer (some ⟨B, 0, none⟩), evV e] w fun x w' => x = .returned (.tuple #[]) ∧ w'.rowIs B 25 7 (stF { s with se := s.se + 1 }) ∧ On B w w' := by
  have c4 : w.cell? ⟨B, 4, none⟩ = some (.int .i64 s.se) := h.cell (i := 4) (by omega)
  have f4 := h.frozen 4
  have hlt := h.lt
  have HR : Hid (w.rowIs B 25 7 (stF s)) := h
  clear h
  unfold evV
  go_enter Try.func54, Try.ntmps54
  go_wp2
  go_end0
  refine ⟨rfl, World.rowIs.congr (by repeat (first | with_reducible exact HR.out | with_reducible apply World.rowIs.alloc | with_reducible apply World.rowIs.drew | with_reducible apply World.rowIs.set)) ?_, by repeat (first | with_reducible exact on_refl _ _ | with_reducible apply on_alloc | with_reducible apply on_drewN | with_reducible apply on_drew | with_reducible apply on_setB)⟩
  intro i hi
  obtain rfl | rfl | rfl | rfl | rfl | rfl | rfl : i = 0 ∨ i = 1 ∨ i = 2 ∨ i = 3 ∨ i = 4 ∨ i = 5 ∨ i = 6 := by omega
  all_goals rfl
theorem finish_any (B : Nat) (s : St) (e : Ev) (w : World) (h : w.rowIs B 25 7 (stF s)) {n : Int} (hb : Bd s n) (hn : n ≤ 9000000000000000000) :
    Calls Try.prog 53 #[.pointer (some ⟨B, 0, none⟩), evV e] w fun x w' => x = .returned (.tuple #[]) ∧
      w'.rowIs B 25 7 (stF (if e.how = 1 then { s with fi := s.fi + 1, op := s.op - 1, va := s.va + 1 } else { s with fi := s.fi + 1, op := s.op - 1, er := s.er + 1 })) ∧ On B w w' := by
  have c1 : w.cell? ⟨B, 1, none⟩ = some (.int .i64 s.fi) := h.cell (i := 1) (by omega)
  have c2 : w.cell? ⟨B, 2, none⟩ = some (.int .i64 s.va) := h.cell (i := 2) (by omega)
  have c3 : w.cell? ⟨B, 3, none⟩ = some (.int .i64 s.er) := h.cell (i := 3) (by omega)
  have c6 : w.cell? ⟨B, 6, none⟩ = some (.int .i64 s.op) := h.cell (i := 6) (by omega)
  have f1 := h.frozen 1
  have f2 := h.frozen 2
  have f3 := h.frozen 3
  have f6 := h.frozen 6
  have hlt := h.lt
  have HR : Hid (w.rowIs B 25 7 (stF s)) := h
  obtain ⟨b1, b2, b3, b4, b5, b6, b7, b8, b9, b10, b11, b12, b13, b14, b15⟩ := hb
  have b16 : -9000000000000000000 ≤ s.op := by omega
  have b17 : s.op ≤ 9000000000000000000 := by omega
  clear h b13 b14
  unfold evV
  by_cases hv : e.how = 1
  · have hv' : (e.how == 1) = true := by simpa using hv
    rw [if_pos hv]
    clear hv
    go_enter Try.func53, Try.ntmps53
    go_wp2
    go_end0
    refine ⟨rfl, World.rowIs.congr (by repeat (first | with_reducible exact HR.out | with_reducible apply World.rowIs.alloc | with_reducible apply World.rowIs.drew | with_reducible apply World.rowIs.set)) ?_, by repeat (first | with_reducible exact on_refl _ _ | with_reducible apply on_alloc | with_reducible apply on_drewN | with_reducible apply on_drew | with_reducible apply on_setB)⟩
    intro i hi
    obtain rfl | rfl | rfl | rfl | rfl | rfl | rfl : i = 0 ∨ i = 1 ∨ i = 2 ∨ i = 3 ∨ i = 4 ∨ i = 5 ∨ i = 6 := by omega
    all_goals rfl
  · have hv' : (e.how == 1) = false := by simpa using hv
    rw [if_neg hv]
    clear hv
    go_enter Try.func53, Try.ntmps53
    go_wp2
    go_end0
    refine ⟨rfl, World.rowIs.congr (by repeat (first | with_reducible exact HR.out | with_reducible apply World.rowIs.alloc | with_reducible apply World.rowIs.drew | with_reducible apply World.rowIs.set)) ?_, by repeat (first | with_reducible exact on_refl _ _ | with_reducible apply on_alloc | with_reducible apply on_drewN | with_reducible apply on_drew | with_reducible apply on_setB)⟩
    intro i hi
    obtain rfl | rfl | rfl | rfl | rfl | rfl | rfl : i = 0 ∨ i = 1 ∨ i = 2 ∨ i = 3 ∨ i = 4 ∨ i = 5 ∨ i = 6 := by omega
    all_goals rfl
set_option maxHeartbeats 8000000 in
theorem start_any (B : Nat) (s : St) (e : Ev) (w : World) (h : w.rowIs B 25 7 (stF s)) {n : Int} (hb : Bd s n) (hn : n ≤ 9000000000000000000) :
    Calls Try.prog 52 #[.pointer (some ⟨B, 0, none⟩), evV e] w fun x w' => x = .returned (.tuple #[]) ∧
      w'.rowIs B 25 7 (stF { s with st := s.st + 1, op := s.op + 1, de := max s.de (dep e.key) }) ∧ On B w w' := by
  have c0 : w.cell? ⟨B, 0, none⟩ = some (.int .i64 s.st) := h.cell (i := 0) (by omega)
  have c5 : w.cell? ⟨B, 5, none⟩ = some (.int .i64 s.de) := h.cell (i := 5) (by omega)
  have c6 : w.cell? ⟨B, 6, none⟩ = some (.int .i64 s.op) := h.cell (i := 6) (by omega)
  have f0 := h.frozen 0
  have f5 := h.frozen 5
  have f6 := h.frozen 6
  have hlt := h.lt
  have HR : Hid (w.rowIs B 25 7 (stF s)) := h
  obtain ⟨b1, b2, b3, b4, b5, b6, b7, b8, b9, b10, b11, b12, b13, b14, b15⟩ := hb
  have b16 : -9000000000000000000 ≤ s.op := by omega
  have b17 : s.op ≤ 9000000000000000000 := by omega
  clear h b13 b14
  unfold evV
  go_enter Try.func52, Try.ntmps52
  go_wp2_with fail
  obtain ⟨W0, hW0⟩ : ∃ W0, W0 = ((w.setCell ⟨B, 0, none⟩ (.int .i64 (s.st + 1))).setCell ⟨B, 6, none⟩ (.int .i64 (s.op + 1))).alloc (.cells #[.int .i64 e.kind, .int .i64 e.key, .int .i64 e.how, .int .i64 e.val] 44) := ⟨_, rfl⟩
  have HR0 : Hid (W0.rowIs B 25 7 (stF { s with st := s.st + 1, op := s.op + 1 })) := by
    show World.rowIs _ _ _ _ _
    rw [hW0]
    refine World.rowIs.congr (by repeat (first | with_reducible exact HR.out | with_reducible apply World.rowIs.alloc | with_reducible apply World.rowIs.drew | with_reducible apply World.rowIs.set)) ?_
    intro i hi
    obtain rfl | rfl | rfl | rfl | rfl | rfl | rfl : i = 0 ∨ i = 1 ∨ i = 2 ∨ i = 3 ∨ i = 4 ∨ i = 5 ∨ i = 6 := by omega
    all_goals rfl
  have HO : Hid (On B w W0) := by
    show On _ _ _
    rw [hW0]
    repeat (first | with_reducible exact on_refl _ _ | with_reducible apply on_alloc | with_reducible apply on_drewN | with_reducible apply on_drew | with_reducible apply on_setB)
  have k1 : W0.cell? ⟨w.heap.size, 1, none⟩ = some (.int .i64 e.key) := by rw [hW0]; go_simp
  have k2 : W0.cell? ⟨B, 5, none⟩ = some (.int .i64 s.de) := HR0.out.cell (i := 5) (by omega)
  have k3 := HR0.out.frozen 5
  have k4 := HR0.out.lt
  rw [← hW0]
  clear hW0 c0 c5 c6 f0 f5 f6 HR
  go_region_with (go_at_call 85; refine (depth_any _ _).mono ?_; rintro x w1 ⟨rfl, hb1⟩; have k5 := st_cell hb1 (show W0.drew.cell? _ = _ from k2); have k6 := st_frozen hb1 (show W0.drew.cell? _ = _ from k2) k3)
  all_goals
    go_end0
    refine ⟨rfl, World.rowIs.congr ((row_bl HR0.out (Bl.trans (Bl.drew (Bl.refl _)) hb1)).set 5 _) ?_, on_setB (on_bl (on_drew HO.out) hb1) _⟩
    intro i hi
    obtain rfl | rfl | rfl | rfl | rfl | rfl | rfl : i = 0 ∨ i = 1 ∨ i = 2 ∨ i = 3 ∨ i = 4 ∨ i = 5 ∨ i = 6 := by omega
    all_goals first | rfl | (simp [stF]; omega)
end Go.Proofs.Ytonndofbnhnkpaa.StatW
