/- The laws' Eval: what a program means. -/
import Derived.Test.YtonndofbnhnkpaaRfV
namespace Go.Proofs.Ytonndofbnhnkpaa.Rf
open Go.RowKit Num KeyM KeyW StatW StatE Blk VmA VmG Prg EvM PutA
theorem rebase {K K' R FB WB pc futs : Nat} {pa : Option Addr} {fs : List (List Ins)} {depth fuel most : Int} {w : World} {S : RS} (h : IsR ⟨K, R, FB, WB, pa, pc, fs, futs, depth, fuel, most⟩ K w S) (hC : CodeAt K' w pa fs) (hK : K' ≤ K) :
    IsR ⟨K', R, FB, WB, pa, pc, fs, futs, depth, fuel, most⟩ K' w S := by
  obtain ⟨⟨vr, h1, h2⟩, h3, h4, h5, h6, h7, h8⟩ := h
  exact ⟨⟨vr, h1, own_base h2 hK⟩, h3, h4, hC, Nat.le_trans hK h6, Nat.le_trans hK h7, Nat.le_trans hK h8⟩
set_option maxRecDepth 100000 in
set_option maxHeartbeats 8000000 in
theorem eval_yes (pa : Option Addr) (pc futs : Nat) (depth fuel arg most : Int) (fs : List (List Ins)) (w : World) (hP : PV fs futs depth fuel) (hC : CodeAt w.heap.size w pa fs) (hm0 : 0 ≤ most) (hm1 : most ≤ 20000) (n : Nat) (u : RT) (S2 : RS)
    (hev : evLoop fs depth fuel most n (rt0 0 arg 1125899906842624 fuel) s0 = some (u, S2)) (hov : S2.over = false) :
    Calls Try.prog 37 #[progV pa fs.length pc futs depth fuel, .int .i64 arg, .int .i64 most] w fun e w' => ∃ (R FB WB : Nat), e = .returned (.tuple #[.agg #[.int .i64 u.how, .int .i64 u.val], .pointer (some ⟨R, 0, none⟩), .bool true]) ∧
      IsR ⟨w.heap.size, R, FB, WB, pa, pc, fs, futs, depth, fuel, most⟩ w.heap.size w' (finish u S2 arg) ∧ Bl w w' := by
  have hrun := fun w' (hb : Bl w w') => run_any pa pc futs depth fuel arg most fs w' hP (Prg.CodeAt.mono (hC.bl hb) hb.size) hm0 hm1 n u S2 hev hov
  have HC := Lib.hid hC
  clear hP hC hev
  unfold progV at *
  go_enter Try.func37, Try.ntmps37
  go_wp2_with fail
  refine (hrun _ (by repeat (first | exact Bl.refl _ | assumption | apply Bl.drewN | apply Bl.drew | apply Bl.alloc | refine Bl.trans ?_ (by assumption)))).mono ?_
  rintro e w1 ⟨R, FB, WB, rfl, hI, hb1⟩
  generalize hK : ((w.alloc (.cells #[.slice pa fs.length pc, .int .i64 futs, .int .i64 depth, .int .i64 fuel] 52)).alloc (.cells #[.int .i64 0, .int .i64 0] 35)).heap.size = K at hI
  have hKw : w.heap.size ≤ K := by rw [← hK]; simp; omega
  have hE1 : w1.rowIs (w.heap.size + 1) 35 2 (fun _ => .int .i64 0) := by
    have h := World.rowIs_alloc (w.alloc (.cells #[.slice pa fs.length pc, .int .i64 futs, .int .i64 depth, .int .i64 fuel] 52)) #[.int .i64 0, .int .i64 0] 35 (fun _ => .int .i64 0) (fun i hi => by
      have hi : i < 2 := hi
      obtain rfl | rfl : i = 0 ∨ i = 1 := by omega
      all_goals rfl)
    have hs : (w.alloc (.cells #[.slice pa fs.length pc, .int .i64 futs, .int .i64 depth, .int .i64 fuel] 52)).heap.size = w.heap.size + 1 := by simp
    rw [hs] at h
    exact row_bl h hb1
  have hB1 : Bl w w1 := Bl.trans (((Bl.refl _).alloc _).alloc _) hb1
  have z0 : w1.cell? ⟨w.heap.size + 1, 0, none⟩ = some (.int .i64 0) := hE1.cell (i := 0) (by omega)
  have z1 : w1.cell? ⟨w.heap.size + 1, 1, none⟩ = some (.int .i64 0) := hE1.cell (i := 1) (by omega)
  have y0 := hE1.frozen 0
  have y1 := hE1.frozen 1
  have zl := hE1.lt
  have zl3 : w.heap.size < w1.heap.size := by omega
  obtain ⟨vr, r1, r2⟩ := hI.ran
  have q10 : w1.cell? ⟨R, 10, none⟩ = some (.bool (finish u S2 arg).over) := r1.cell (i := 10) (by omega)
  have lR : R < w1.heap.size := r1.lt
  rw [finish_over, hov] at q10
  have hfK := hI.far.1
  have hE2 : K = w.heap.size + 1 + 1 := by rw [← hK]; simp
  have nER : ¬ R = w.heap.size + 1 := by
    have h : K ≤ R := hfK
    omega
  have HI := Lib.hid (rebase hI (HC.out.bl hB1) hKw)
  have HE := Lib.hid hE1
  have HB := Lib.hid hB1
  have HKw := Lib.hid hE2
  clear r1 r2 hI hE1 hB1 hb1 hrun hfK hK hE2
  go_wp2_with fail
  go_region
  all_goals
    go_wp2_with fail
    refine bodyPost_ret (v := .tuple #[.agg #[.int .i64 u.how, .int .i64 u.val], .pointer (some ⟨R, 0, none⟩), .bool true]) (by simp [results, Try.results37, go_sem, z0, z1, zl, zl3]) rfl ⟨R, FB, WB, rfl, ?_, ?_⟩
    · exact IsR.bl (IsR.on35 HI.out HE.out (Nat.le_succ _) (((Ch.refl _ _).setB _).setB _)) (Bl.drew ((Bl.refl _).alloc _))
    · exact Bl.drew (Bl.alloc (show Bl w _ from Below.setCell (Below.setCell (show Below w.heap.size w _ from HB.out) (Nat.le_succ _) _) (Nat.le_succ _) _) _)
set_option maxRecDepth 100000 in
set_option maxHeartbeats 8000000 in
theorem eval_no (pa : Option Addr) (pc futs : Nat) (depth fuel arg most : Int) (fs : List (List Ins)) (w : World) (hP : PV fs futs depth fuel) (hC : CodeAt w.heap.size w pa fs) (hm0 : 0 ≤ most) (hm1 : most ≤ 20000) (n : Nat) (u : RT) (S2 : RS)
    (hev : evLoop fs depth fuel most n (rt0 0 arg 1125899906842624 fuel) s0 = some (u, S2)) (hov : S2.over = true) :
    Calls Try.prog 37 #[progV pa fs.length pc futs depth fuel, .int .i64 arg, .int .i64 most] w fun e w' => ∃ (R : Nat), e = .returned (.tuple #[.agg #[.int .i64 0, .int .i64 0], .pointer (some ⟨R, 0, none⟩), .bool false]) ∧ Bl w w' := by
  have hrun := fun w' (hb : Bl w w') => run_over pa pc futs depth fuel arg most fs w' hP (Prg.CodeAt.mono (hC.bl hb) hb.size) hm0 hm1 n u S2 hev hov
  have HC := Lib.hid hC
  clear hP hC hev
  unfold progV at *
  go_enter Try.func37, Try.ntmps37
  go_wp2_with fail
  refine (hrun _ (by repeat (first | exact Bl.refl _ | assumption | apply Bl.drewN | apply Bl.drew | apply Bl.alloc | refine Bl.trans ?_ (by assumption)))).mono ?_
  rintro e w1 ⟨R, rfl, q10, hb1⟩
  have hE1 : w1.rowIs (w.heap.size + 1) 35 2 (fun _ => .int .i64 0) := by
    have h := World.rowIs_alloc (w.alloc (.cells #[.slice pa fs.length pc, .int .i64 futs, .int .i64 depth, .int .i64 fuel] 52)) #[.int .i64 0, .int .i64 0] 35 (fun _ => .int .i64 0) (fun i hi => by
      have hi : i < 2 := hi
      obtain rfl | rfl : i = 0 ∨ i = 1 := by omega
      all_goals rfl)
    have hs : (w.alloc (.cells #[.slice pa fs.length pc, .int .i64 futs, .int .i64 depth, .int .i64 fuel] 52)).heap.size = w.heap.size + 1 := by simp
    rw [hs] at h
    exact row_bl h hb1
  have hB1 : Bl w w1 := Bl.trans (((Bl.refl _).alloc _).alloc _) hb1
  have z0 : w1.cell? ⟨w.heap.size + 1, 0, none⟩ = some (.int .i64 0) := hE1.cell (i := 0) (by omega)
  have z1 : w1.cell? ⟨w.heap.size + 1, 1, none⟩ = some (.int .i64 0) := hE1.cell (i := 1) (by omega)
  have y0 := hE1.frozen 0
  have y1 := hE1.frozen 1
  have zl := hE1.lt
  have zl3 : w.heap.size < w1.heap.size := by omega
  have lR := lt_of_cell q10
  have HE := Lib.hid hE1
  have HB := Lib.hid hB1
  clear hE1 hB1 hb1 hrun
  go_wp2_with fail
  go_region
  all_goals
    go_wp2_with fail
    refine bodyPost_ret (v := .tuple #[.agg #[.int .i64 0, .int .i64 0], .pointer (some ⟨R, 0, none⟩), .bool false]) (by simp [results, Try.results37, go_sem, z0, z1, zl, zl3]) rfl ⟨R, rfl, ?_⟩
    exact Bl.drew (Bl.alloc (show Bl w _ from Below.setCell (Below.setCell (show Below w.heap.size w _ from HB.out) (Nat.le_succ _) _) (Nat.le_succ _) _) _)
end Go.Proofs.Ytonndofbnhnkpaa.Rf
