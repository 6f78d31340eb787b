/- The program's package code: an instruction that may be is said to be right. -/
import Derived.Test.YtonndofbnhnkpaaGreatCodA
set_option linter.unusedVariables false
set_option linter.unusedSimpArgs false
set_option linter.unusedSectionVars false
namespace Go.Proofs.YtonndofbnhnkpaaGreat.CodA
open Go.RowKit Num KeyM KeyW StatW Blk VmA Prg PutA
theorem ip0 (B : Nat) (w : World) : (Instr.index 142 (.agg #[.pointer (some ⟨B, 1, none⟩), .pointer (some ⟨B, 2, none⟩), .pointer (some ⟨B, 3, none⟩)]) (.int .i64 0)).run Tryz.prog w = .ok (.pointer (some ⟨B, 1, none⟩)) w := by kernel_rfl
theorem ip1 (B : Nat) (w : World) : (Instr.index 142 (.agg #[.pointer (some ⟨B, 1, none⟩), .pointer (some ⟨B, 2, none⟩), .pointer (some ⟨B, 3, none⟩)]) (.int .i64 1)).run Tryz.prog w = .ok (.pointer (some ⟨B, 2, none⟩)) w := by kernel_rfl
theorem ip2 (B : Nat) (w : World) : (Instr.index 142 (.agg #[.pointer (some ⟨B, 1, none⟩), .pointer (some ⟨B, 2, none⟩), .pointer (some ⟨B, 3, none⟩)]) (.int .i64 2)).run Tryz.prog w = .ok (.pointer (some ⟨B, 3, none⟩)) w := by kernel_rfl
set_option maxRecDepth 100000 in
set_option maxHeartbeats 8000000 in
theorem shape_ok (i : Ins) (w : World) (h : InsOk i) : Calls Tryz.prog 72 #[insV i] w fun e w' => e = .returned (.bool true) ∧ Bl w w' := by
  obtain ⟨ho, f1, f2, f3⟩ := fits_of h
  have hk := fun w => operands_ok i.op w ho
  have r1 := fun w => fits_ok _ _ w f1
  have r2 := fun w => fits_ok _ _ w f2
  have r3 := fun w => fits_ok _ _ w f3
  generalize (kindsM i.op).1 = k1 at *
  generalize (kindsM i.op).2.1 = k2 at *
  generalize (kindsM i.op).2.2 = k3 at *
  have p0 := ip0
  have p1 := ip1
  have p2 := ip2
  have hP := row4_alloc w (.int .i64 i.op) (.int .i64 i.a) (.int .i64 i.b) (.int .i64 i.c) 53
  have HP := Lib.hid hP
  clear ho f1 f2 f3 h hP
  unfold insV
  go_enter Tryz.func72, Tryz.ntmps72
  go_wp2_with fail
  refine (hk _).mono ?_
  rintro e w2 ⟨rfl, hb2⟩
  have HP2 := Lib.hid (row_bl HP.out hb2)
  have HB2 : Hid (Bl w w2) := Bl.trans ((Bl.refl _).alloc _) hb2
  have hG := three_alloc w2 (.int .i64 k1) (.int .i64 k2) (.int .i64 k3) 136
  have HG := Lib.hid hG
  clear hG hb2 HP hk
  go_wp2_with fail
  refine (fields_any w.heap.size _).mono ?_
  rintro e w3 ⟨rfl, hb3⟩
  have HP3 := Lib.hid (row_bl (World.rowIs.alloc HP2.out _) hb3)
  have HG3 := Lib.hid (row_bl HG.out hb3)
  have HB3 : Hid (Bl w w3) := Bl.trans (HB2.out.alloc _) hb3
  generalize w2.heap.size = G at *
  clear hb3 HP2 HG HB2
  go_wp2_with fail
  go_loopw [4, 14] (fun o v wr => ∃ j : Nat, j ≤ 3 ∧ v = .int .i64 j ∧ o = .bool true ∧ Bl w3 wr) (fun _ v _ => 3 - (intOf v).toNat)
  case atStart => exact ⟨0, by omega, rfl, rfl, Bl.refl _⟩
  case round =>
    obtain ⟨j, hj, rfl, rfl, hb⟩ := hrel
    obtain ⟨⟨_, c1, c2, c3⟩, _⟩ := row4_cells (row_bl HP3.out hb)
    have g := row_bl HG3.out hb
    have g0 : wr.cell? ⟨G, 0, none⟩ = some (.int .i64 k1) := g.cell (i := 0) (by omega)
    have g1 : wr.cell? ⟨G, 1, none⟩ = some (.int .i64 k2) := g.cell (i := 1) (by omega)
    have g2 : wr.cell? ⟨G, 2, none⟩ = some (.int .i64 k3) := g.cell (i := 2) (by omega)
    clear g
    obtain rfl | rfl | rfl | rfl : j = 0 ∨ j = 1 ∨ j = 2 ∨ j = 3 := by omega
    · have c1' := c1
      clear c2 c3 g1 g2 p1 p2 r2 r3
      go_wp2_with fail
      go_region_with (first | (go_at_call 100; refine (r1 _).mono ?_; rintro e w4 ⟨rfl, hb4⟩))
      all_goals
        go_wp2_with fail
        go_roundw
        case rel => exact ⟨1, by omega, by go_num, rfl, by repeat (first | exact Bl.refl _ | assumption | apply Bl.drewN | apply Bl.drew | apply Bl.alloc | refine Bl.trans ?_ (by assumption))⟩
        case measure => simp [intOf]
    · clear c1 c3 g0 g2 p0 p2 r1 r3
      go_wp2_with fail
      go_region_with (first | (go_at_call 100; refine (r2 _).mono ?_; rintro e w4 ⟨rfl, hb4⟩))
      all_goals
        go_wp2_with fail
        go_roundw
        case rel => exact ⟨2, by omega, by go_num, rfl, by repeat (first | exact Bl.refl _ | assumption | apply Bl.drewN | apply Bl.drew | apply Bl.alloc | refine Bl.trans ?_ (by assumption))⟩
        case measure => simp [intOf]
    · clear c1 c2 g0 g1 p0 p1 r1 r2
      go_wp2_with fail
      go_region_with (first | (go_at_call 100; refine (r3 _).mono ?_; rintro e w4 ⟨rfl, hb4⟩))
      all_goals
        go_wp2_with fail
        go_roundw
        case rel => exact ⟨3, by omega, by go_num, rfl, by repeat (first | exact Bl.refl _ | assumption | apply Bl.drewN | apply Bl.drew | apply Bl.alloc | refine Bl.trans ?_ (by assumption))⟩
        case measure => simp [intOf]
    · go_wp2_with fail
      go_ret
      exact ⟨rfl, Bl.trans HB3.out hb⟩
end Go.Proofs.YtonndofbnhnkpaaGreat.CodA
