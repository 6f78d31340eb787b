/- The reference's evaluator: a program's run. -/
import Derived.Test.YtonndofbnhnkpaaRfT
import Derived.Test.YtonndofbnhnkpaaPutD
namespace Go.Proofs.Ytonndofbnhnkpaa.Rf
open Go.RowKit Num KeyM KeyW StatW StatE Blk VmA VmG Prg EvM PutA
def s0 : RS := ⟨[], fun _ => 0, fun _ => false, 0, 0, false⟩
theorem info4 : (Try.prog.info? 4).map (fun i => (i.zero, i.size, i.bytes)) = some (some (.bool false), 1, 1) := by kernel_rfl
theorem isR_start {c : Fx} {base : Nat} {w : World} (hR : w.rowIs c.R 77 11 (ofL (rL c (.slice none 0 0) s0))) (hF : w.rowIs c.FB 3 c.futs (fun _ => .int .i64 0)) (hW : w.rowIs c.WB 4 c.futs (fun _ => .bool false)) (hC : CodeAt c.K w c.pa c.fs) (hf : c.K ≤ c.R ∧ c.K ≤ c.FB ∧ c.K ≤ c.WB) : IsR c base w s0 :=
  ⟨⟨_, hR, World.ownsRow_nil _ _ _ _⟩, hF, hW, hC, hf⟩
theorem start1 (K base : Nat) (pa : Option Addr) (pc futs : Nat) (depth fuel most : Int) (fs : List (List Ins)) (w : World) (hC : CodeAt K w pa fs) (hK : K ≤ w.heap.size) :
    IsR ⟨K, w.heap.size + 1 + 1, w.heap.size, w.heap.size + 1, pa, pc, fs, futs, depth, fuel, most⟩ base (((w.alloc (.cells (madeCells #[.int .i64 0] futs) 3)).alloc (.cells (madeCells #[.bool false] futs) 4)).alloc (.cells #[.slice pa fs.length pc, .int .i64 futs, .int .i64 depth, .int .i64 fuel, .slice none 0 0, .slice (some ⟨w.heap.size, 0, none⟩) futs futs, .slice (some ⟨w.heap.size + 1, 0, none⟩) futs futs, .int .i64 0, .int .i64 0, .int .i64 most, .bool false] 77)).drew s0 := by
  have h1 : (w.alloc (.cells (madeCells #[.int .i64 0] futs) 3)).heap.size = w.heap.size + 1 := by simp
  have h2 : ((w.alloc (.cells (madeCells #[.int .i64 0] futs) 3)).alloc (.cells (madeCells #[.bool false] futs) 4)).heap.size = w.heap.size + 1 + 1 := by simp
  have r1 := World.rowIs_made w (.int .i64 0) futs 3
  have r2 := World.rowIs_made (w.alloc (.cells (madeCells #[.int .i64 0] futs) 3)) (.bool false) futs 4
  rw [h1] at r2
  have r3 := World.rowIs_alloc ((w.alloc (.cells (madeCells #[.int .i64 0] futs) 3)).alloc (.cells (madeCells #[.bool false] futs) 4)) #[.slice pa fs.length pc, .int .i64 futs, .int .i64 depth, .int .i64 fuel, .slice none 0 0, .slice (some ⟨w.heap.size, 0, none⟩) futs futs, .slice (some ⟨w.heap.size + 1, 0, none⟩) futs futs, .int .i64 0, .int .i64 0, .int .i64 most, .bool false] 77 (ofL (rL ⟨K, w.heap.size + 1 + 1, w.heap.size, w.heap.size + 1, pa, pc, fs, futs, depth, fuel, most⟩ (.slice none 0 0) s0)) (by
    show ∀ i, i < 11 → _
    repeat refine all_lt ?_ rfl
    exact all_none)
  rw [h2] at r3
  exact isR_start r3 ((r1.alloc _).alloc _) (r2.alloc _) (CodeAt.bl hC (Bl.drew ((((Bl.refl _).alloc _).alloc _).alloc _))) ⟨by show K ≤ w.heap.size + 1 + 1; omega, by show K ≤ w.heap.size; omega, by show K ≤ w.heap.size + 1; omega⟩
theorem start2 (K base : Nat) (pa : Option Addr) (pc futs : Nat) (depth fuel most : Int) (fs : List (List Ins)) (w : World) (hC : CodeAt K w pa fs) (hK : K ≤ w.heap.size) :
    IsR ⟨K, w.heap.size + 1 + 1, w.heap.size + 1, w.heap.size, pa, pc, fs, futs, depth, fuel, most⟩ base (((w.alloc (.cells (madeCells #[.bool false] futs) 4)).alloc (.cells (madeCells #[.int .i64 0] futs) 3)).alloc (.cells #[.slice pa fs.length pc, .int .i64 futs, .int .i64 depth, .int .i64 fuel, .slice none 0 0, .slice (some ⟨w.heap.size + 1, 0, none⟩) futs futs, .slice (some ⟨w.heap.size, 0, none⟩) futs futs, .int .i64 0, .int .i64 0, .int .i64 most, .bool false] 77)).drew s0 := by
  have h1 : (w.alloc (.cells (madeCells #[.bool false] futs) 4)).heap.size = w.heap.size + 1 := by simp
  have h2 : ((w.alloc (.cells (madeCells #[.bool false] futs) 4)).alloc (.cells (madeCells #[.int .i64 0] futs) 3)).heap.size = w.heap.size + 1 + 1 := by simp
  have r1 := World.rowIs_made w (.bool false) futs 4
  have r2 := World.rowIs_made (w.alloc (.cells (madeCells #[.bool false] futs) 4)) (.int .i64 0) futs 3
  rw [h1] at r2
  have r3 := World.rowIs_alloc ((w.alloc (.cells (madeCells #[.bool false] futs) 4)).alloc (.cells (madeCells #[.int .i64 0] futs) 3)) #[.slice pa fs.length pc, .int .i64 futs, .int .i64 depth, .int .i64 fuel, .slice none 0 0, .slice (some ⟨w.heap.size + 1, 0, none⟩) futs futs, .slice (some ⟨w.heap.size, 0, none⟩) futs futs, .int .i64 0, .int .i64 0, .int .i64 most, .bool false] 77 (ofL (rL ⟨K, w.heap.size + 1 + 1, w.heap.size + 1, w.heap.size, pa, pc, fs, futs, depth, fuel, most⟩ (.slice none 0 0) s0)) (by
    show ∀ i, i < 11 → _
    repeat refine all_lt ?_ rfl
    exact all_none)
  rw [h2] at r3
  exact isR_start r3 (r2.alloc _) ((r1.alloc _).alloc _) (CodeAt.bl hC (Bl.drew ((((Bl.refl _).alloc _).alloc _).alloc _))) ⟨by show K ≤ w.heap.size + 1 + 1; omega, by show K ≤ w.heap.size + 1; omega, by show K ≤ w.heap.size; omega⟩
theorem far_any {c : Fx} {base X t n : Nat} {w : World} {S : RS} {f : Nat → Value} (h : IsR c base w S) (hx : w.rowIs X t n f) (h1 : t ≠ 77) (h2 : t ≠ 3) (h3 : t ≠ 4) : X ≠ c.R ∧ X ≠ c.FB ∧ X ≠ c.WB := by
  obtain ⟨⟨vr, g1, g2⟩, g3, g4, g5, g6⟩ := h
  have ne : ∀ {b m : Nat} {t' : TypeId} {g : Nat → Value}, w.rowIs b t' m g → t' ≠ t → X ≠ b := fun hr ht' e => by
    obtain ⟨cur, hcur⟩ := row_type hx
    exact ty_ne hr hcur (fun e => ht' e.symm) e
  exact ⟨ne g1 (fun e => h1 e.symm), ne g3 (fun e => h2 e.symm), ne g4 (fun e => h3 e.symm)⟩
theorem finish_over (u : RT) (S : RS) (arg : Int) : (finish u S arg).over = S.over := by unfold finish; split <;> rfl
set_option maxRecDepth 100000 in
set_option maxHeartbeats 8000000 in
theorem run_any (pa : Option Addr) (pc futs : Nat) (depth fuel arg most : Int) (fs : List (List Ins)) (w : World) (hP : PV fs futs depth fuel) (hC : CodeAt w.heap.size w pa fs) (hm0 : 0 ≤ most) (hm1 : most ≤ 20000) (n : Nat) (u : RT) (S2 : RS)
    (hev : evLoop fs depth fuel most n (rt0 0 arg 1125899906842624 fuel) s0 = some (u, S2)) (hov : S2.over = false) :
    Calls Try.prog 67 #[progV pa fs.length pc futs depth fuel, .int .i64 arg, .int .i64 most] w fun e w' => ∃ (R FB WB : Nat), e = .returned (.tuple #[.agg #[.int .i64 u.how, .int .i64 u.val], .pointer (some ⟨R, 0, none⟩), .int .i64 0]) ∧
      IsR ⟨w.heap.size, R, FB, WB, pa, pc, fs, futs, depth, fuel, most⟩ w.heap.size w' (finish u S2 arg) ∧ Bl w w' := by
  have hck := fun w' (hb : Bl w w') => check_ok pa pc futs depth fuel fs w' hP (Prg.CodeAt.mono (hC.bl hb) hb.size)
  have hf1 := hP.futs1
  have hmi := run_make_row' (P := Try.prog) 39 3 (.int .i64 0) 8 Try.underlying39 KeyT.info3 rfl .i64 .i64 futs (by omega) (by omega)
  have hmb := run_make_row' (P := Try.prog) 71 4 (.bool false) 1 Try.underlying71 info4 rfl .i64 .i64 futs (by omega) (by omega)
  have hrow := row4_alloc w (.slice pa fs.length pc) (.int .i64 futs) (.int .i64 depth) (.int .i64 fuel) 52
  have HC := Lib.hid hC
  have HP := Lib.hid hP
  have HEV := Lib.hid hev
  have m1 : ¬ most < 0 := by omega
  have m2 : ¬ 20000 < most := by omega
  clear hC hP hev
  unfold progV at *
  go_enter Try.func67, Try.ntmps67
  go_wp2_with fail
  refine (hck _ (by repeat (first | exact Bl.refl _ | assumption | apply Bl.drewN | apply Bl.drew | apply Bl.alloc | refine Bl.trans ?_ (by assumption)))).mono ?_
  rintro e w1 ⟨rfl, hb1⟩
  have hrow1 := row_bl (World.rowIs.alloc hrow (.cells #[.int .i64 0, .int .i64 0] 35)) hb1
  have hB1 : Bl w w1 := Bl.trans (((Bl.refl _).alloc _).alloc _) hb1
  obtain ⟨⟨k0, k1, k2, k3⟩, _⟩ := row4_cells hrow1
  have hE1 : w1.rowIs (w.heap.size + 1) 35 2 (fun _ => .int .i64 0) := by
    have h := World.rowIs_alloc (w.alloc (.cells #[.slice pa fs.length pc, .int .i64 futs, .int .i64 depth, .int .i64 fuel] 52)) #[.int .i64 0, .int .i64 0] 35 (fun _ => .int .i64 0) (fun i hi => by
      have hi : i < 2 := hi
      obtain rfl | rfl : i = 0 ∨ i = 1 := by omega
      all_goals rfl)
    have hs : (w.alloc (.cells #[.slice pa fs.length pc, .int .i64 futs, .int .i64 depth, .int .i64 fuel] 52)).heap.size = w.heap.size + 1 := by simp
    rw [hs] at h
    exact row_bl h hb1
  have hs1 : w.heap.size + 1 < w1.heap.size := hE1.lt
  have hs0 : w.heap.size < w1.heap.size := by omega
  clear hrow hck hrow1 hb1
  have HK : Hid (CodeAt w.heap.size w1 pa fs) := HC.out.bl hB1
  have HE1 := Lib.hid hE1
  have HB1 := Lib.hid hB1
  have hsw := hB1.size
  clear hE1 hB1
  go_wp2_with fail
  go_region
  all_goals
    go_upto_region 5 with fail
    refine at_world (fun w3 => (∃ FB WB, IsR ⟨w.heap.size, w1.heap.size + 1 + 1, FB, WB, pa, pc, fs, futs, depth, fuel, most⟩ w.heap.size w3 s0) ∧ w3.rowIs (w.heap.size + 1) 35 2 (fun _ => .int .i64 0) ∧ Bl w w3) ?_ ?_
    · first
        | exact ⟨⟨_, _, start1 w.heap.size w.heap.size pa pc futs depth fuel most fs w1 HK.out hsw⟩, World.rowIs.drew (World.rowIs.alloc (World.rowIs.alloc (World.rowIs.alloc HE1.out _) _) _), Bl.trans HB1.out (Bl.drew ((((Bl.refl _).alloc _).alloc _).alloc _))⟩
        | exact ⟨⟨_, _, start2 w.heap.size w.heap.size pa pc futs depth fuel most fs w1 HK.out hsw⟩, World.rowIs.drew (World.rowIs.alloc (World.rowIs.alloc (World.rowIs.alloc HE1.out _) _) _), Bl.trans HB1.out (Bl.drew ((((Bl.refl _).alloc _).alloc _).alloc _))⟩
    rintro w3 ⟨⟨FB, WB, hI⟩, hE3, hB3⟩
    obtain ⟨c, hc⟩ : ∃ c : Fx, c = ⟨w.heap.size, w1.heap.size + 1 + 1, FB, WB, pa, pc, fs, futs, depth, fuel, most⟩ := ⟨_, rfl⟩
    have hT : Child c w.heap.size 0 arg 1125899906842624 s0 (finish u S2 arg) u.how u.val := by
      subst hc
      exact task_says _ ⟨HP.out, hm0, by show most ≤ 100000; omega⟩ n w.heap.size 0 0 arg 1125899906842624 s0 u S2 HEV.out (by have := HP.out.one; show 0 < fs.length; omega) (by decide +kernel) ⟨by show ((0 : Nat) : Int) + ((0 : Nat) : Int) ≤ 0; omega, by show (0 : Int) ≤ 0; omega, hm0⟩
    have hI' : IsR c w.heap.size w3 s0 := by rw [hc]; exact hI
    have hcR : c.R = w1.heap.size + 1 + 1 := by rw [hc]
    have hT2 := hT w3 hI' hB3.size
    rw [hcR] at hT2
    have HCC := Lib.hid hc
    have HCR := Lib.hid hcR
    have hfar := far_any hI' hE3 (by decide) (by decide) (by decide)
    have hK3 := hI'.far
    have hcK : c.K = w.heap.size := by rw [hc]
    have HE3 := Lib.hid hE3
    have HB3 := Lib.hid hB3
    clear hT hI hI' hc hcR hE3 hB3
    go_wp2_with fail
    refine hT2.mono ?_
    rintro e w4 ⟨rfl, hI4, hc4⟩
    have hE4 : w4.rowIs (w.heap.size + 1) 35 2 (fun _ => .int .i64 0) := hc4.row HE3.out (fun e => by rcases e with e | e | e; exact hfar.1 e; exact hfar.2.1 e; exact hfar.2.2 e)
    have hB4 : Bl w w4 := (Ch.then (Ch.of_bl (S := fun _ => False) HB3.out) hc4 (fun i hi e => by rcases e with e | e | e <;> omega)).bl (fun _ _ h => h)
    have z0 : w4.cell? ⟨w.heap.size + 1, 0, none⟩ = some (.int .i64 0) := hE4.cell (i := 0) (by omega)
    have z1 : w4.cell? ⟨w.heap.size + 1, 1, none⟩ = some (.int .i64 0) := hE4.cell (i := 1) (by omega)
    have y0 := hE4.frozen 0
    have y1 := hE4.frozen 1
    have zl := hE4.lt
    obtain ⟨vr, r1, r2⟩ := hI4.ran
    have q10 : w4.cell? ⟨c.R, 10, none⟩ = some (.bool (finish u S2 arg).over) := r1.cell (i := 10) (by omega)
    have lR := r1.lt
    rw [finish_over, hov, HCR.out] at q10
    rw [HCR.out] at lR
    have HI4 := Lib.hid hI4
    have HE4 := Lib.hid hE4
    have HB4 := Lib.hid hB4
    clear r1 r2 hI4 hE4 hB4 hc4 hT2
    go_wp2_with fail
    refine bodyPost_ret (v := .tuple #[.agg #[.int .i64 u.how, .int .i64 u.val], .pointer (some ⟨w1.heap.size + 1 + 1, 0, none⟩), .int .i64 0]) (by simp [results, Try.results67, go_sem, z0, z1, zl]) rfl ⟨w1.heap.size + 1 + 1, FB, WB, rfl, ?_, ?_⟩
    · rw [← HCC.out]
      exact IsR.bl (IsR.on35 HI4.out HE4.out (by omega) (((Ch.refl _ _).setB _).setB _)) ((Bl.refl _).alloc _)
    · exact Bl.alloc (show Bl w _ from Below.setCell (Below.setCell (show Below w.heap.size w _ from HB4.out) (Nat.le_succ _) _) (Nat.le_succ _) _) _
end Go.Proofs.Ytonndofbnhnkpaa.Rf
