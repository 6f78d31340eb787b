/- The reference of chapter 2: shapes. -/
import Derived.Test.YtonndofbnhnkpaaGreatPrgR
set_option linter.unusedVariables false
set_option linter.unusedSimpArgs false
set_option linter.unusedSectionVars false
namespace Go.Proofs.YtonndofbnhnkpaaGreat.PutA
open Go.RowKit Num KeyM KeyW StatW Blk VmA Prg
/-- What the operands of an instruction are. -/
def kindsM (op : Int) : Int × Int × Int :=
  if op = 1 then (1, 6, 0) else if op = 2 ∨ op = 3 ∨ op = 4 ∨ op = 5 ∨ op = 6 then (1, 1, 1) else if op = 7 then (5, 0, 0) else if op = 8 then (1, 5, 0) else if op = 9 then (2, 4, 1) else if op = 10 then (1, 2, 0)
  else if op = 11 then (3, 1, 0) else if op = 12 then (1, 3, 0) else if op = 13 then (2, 0, 0) else if op = 15 then (1, 0, 0) else (0, 0, 0)
set_option maxHeartbeats 4000000 in
theorem kinds_any (op : Int) (w : World) (h : op = 1 ∨ op = 2 ∨ op = 3 ∨ op = 4 ∨ op = 5 ∨ op = 6 ∨ op = 7 ∨ op = 8 ∨ op = 9 ∨ op = 10 ∨ op = 11 ∨ op = 12 ∨ op = 13 ∨ op = 14 ∨ op = 15) :
    Calls Tryz.prog 93 #[.int .i64 op] w fun e w' => e = .returned (.agg #[.int .i64 (kindsM op).1, .int .i64 (kindsM op).2.1, .int .i64 (kindsM op).2.2]) ∧ Bl w w' := by
  rcases h with rfl | rfl | rfl | rfl | rfl | rfl | rfl | rfl | rfl | rfl | rfl | rfl | rfl | rfl | rfl
  all_goals
    go_enter Tryz.func93, Tryz.ntmps93
    go_wp2_with fail
    exact bodyPost_ret (by simp [results, Tryz.results93, go_sem, kindsM]) rfl ⟨rfl, by repeat (first | exact Bl.refl _ | assumption | apply Bl.drewN | apply Bl.alloc | refine Bl.trans ?_ (by assumption))⟩
theorem idx0 (w : World) : (Instr.index 103 (.agg #[.int .i64 1, .int .i64 8, .int .i64 4, .int .i64 16, .int .i64 12, .int .i64 40]) (.int .i64 0)).run Tryz.prog w = .ok (.int .i64 1) w := by kernel_rfl
theorem idx1 (w : World) : (Instr.index 103 (.agg #[.int .i64 1, .int .i64 8, .int .i64 4, .int .i64 16, .int .i64 12, .int .i64 40]) (.int .i64 1)).run Tryz.prog w = .ok (.int .i64 8) w := by kernel_rfl
theorem idx2 (w : World) : (Instr.index 103 (.agg #[.int .i64 1, .int .i64 8, .int .i64 4, .int .i64 16, .int .i64 12, .int .i64 40]) (.int .i64 2)).run Tryz.prog w = .ok (.int .i64 4) w := by kernel_rfl
theorem idx3 (w : World) : (Instr.index 103 (.agg #[.int .i64 1, .int .i64 8, .int .i64 4, .int .i64 16, .int .i64 12, .int .i64 40]) (.int .i64 3)).run Tryz.prog w = .ok (.int .i64 16) w := by kernel_rfl
theorem idx4 (w : World) : (Instr.index 103 (.agg #[.int .i64 1, .int .i64 8, .int .i64 4, .int .i64 16, .int .i64 12, .int .i64 40]) (.int .i64 4)).run Tryz.prog w = .ok (.int .i64 12) w := by kernel_rfl
theorem idx5 (w : World) : (Instr.index 103 (.agg #[.int .i64 1, .int .i64 8, .int .i64 4, .int .i64 16, .int .i64 12, .int .i64 40]) (.int .i64 5)).run Tryz.prog w = .ok (.int .i64 40) w := by kernel_rfl
/-- May an operand be that? -/
def fitsM (k v : Int) : Prop := (k = 6 ∧ -2147483648 ≤ v ∧ v ≤ 2147483647) ∨ (k = 0 ∧ v = 0) ∨ (k = 1 ∧ 0 ≤ v ∧ v < 8) ∨ (k = 2 ∧ 0 ≤ v ∧ v < 4) ∨ (k = 3 ∧ 0 ≤ v ∧ v < 16) ∨ (k = 4 ∧ 0 ≤ v ∧ v < 12) ∨ (k = 5 ∧ 0 ≤ v ∧ v < 40)
set_option maxHeartbeats 2000000 in
theorem right_ok (k v : Int) (w : World) (h : fitsM k v) : Calls Tryz.prog 94 #[.int .i64 k, .int .i64 v] w fun e w' => e = .returned (.bool true) ∧ Bl w w' := by
  have i0 := idx0
  have i1 := idx1
  have i2 := idx2
  have i3 := idx3
  have i4 := idx4
  have i5 := idx5
  rcases h with ⟨rfl, h1, h2⟩ | ⟨rfl, rfl⟩ | ⟨rfl, h1, h2⟩ | ⟨rfl, h1, h2⟩ | ⟨rfl, h1, h2⟩ | ⟨rfl, h1, h2⟩ | ⟨rfl, h1, h2⟩
  all_goals
    go_enter Tryz.func94, Tryz.ntmps94
    go_wp2_with fail
    go_ret
    exact ⟨rfl, by repeat (first | exact Bl.refl _ | assumption | apply Bl.drewN | apply Bl.alloc | refine Bl.trans ?_ (by assumption))⟩
theorem fits_of {i : Ins} (h : InsOk i) : (i.op = 1 ∨ i.op = 2 ∨ i.op = 3 ∨ i.op = 4 ∨ i.op = 5 ∨ i.op = 6 ∨ i.op = 7 ∨ i.op = 8 ∨ i.op = 9 ∨ i.op = 10 ∨ i.op = 11 ∨ i.op = 12 ∨ i.op = 13 ∨ i.op = 14 ∨ i.op = 15) ∧
    fitsM (kindsM i.op).1 i.a ∧ fitsM (kindsM i.op).2.1 i.b ∧ fitsM (kindsM i.op).2.2 i.c := by
  obtain ⟨op, a, b, c⟩ := i
  unfold InsOk Rg at h
  simp only at h ⊢
  unfold fitsM
  rcases h with ⟨rfl, ha, hb, hc⟩ | ⟨ho, ha, hb, hc⟩ | ⟨rfl, ha, hb, hc⟩ | ⟨rfl, ha, hb, hc⟩ | ⟨rfl, ha, hb, hc⟩ | ⟨rfl, ha, hb, hc⟩ | ⟨rfl, ha, hb, hc⟩ | ⟨rfl, ha, hb, hc⟩ | ⟨rfl, ha, hb, hc⟩ | ⟨rfl, ha, hb, hc⟩ | ⟨rfl, ha, hb, hc⟩
  case inr.inl => rcases ho with rfl | rfl | rfl | rfl | rfl <;> (simp [kindsM]; omega)
  all_goals (simp [kindsM]; try omega)
set_option maxHeartbeats 4000000 in
theorem shape_ok (i : Ins) (w : World) (h : InsOk i) : Calls Tryz.prog 64 #[insV i] w fun e w' => e = .returned (.bool true) ∧ Bl w w' := by
  obtain ⟨ho, f1, f2, f3⟩ := fits_of h
  have hk := fun w => kinds_any i.op w ho
  have r1 := fun w => right_ok _ _ w f1
  have r2 := fun w => right_ok _ _ w f2
  have r3 := fun w => right_ok _ _ w f3
  obtain ⟨k1, k2, k3⟩ := kindsM i.op
  have h1 : 1 ≤ i.op := by omega
  have h2 : i.op ≤ 15 := by omega
  clear ho f1 f2 f3 h
  unfold insV
  go_enter Tryz.func64, Tryz.ntmps64
  go_wp2_with fail
  refine (hk _).mono ?_
  rintro e w1 ⟨rfl, b1⟩
  have c0 : ∀ o v, (w.alloc (.cells #[.int .i64 i.op, .int .i64 i.a, .int .i64 i.b, .int .i64 i.c] 53)).cell? ⟨w.heap.size, o, none⟩ = some v → w1.cell? ⟨w.heap.size, o, none⟩ = some v := fun o v h => st_cell b1 h
  have d0 := c0 0 (.int .i64 i.op) (by go_simp)
  have d1 := c0 1 (.int .i64 i.a) (by go_simp)
  have d2 := c0 2 (.int .i64 i.b) (by go_simp)
  have d3 := c0 3 (.int .i64 i.c) (by go_simp)
  clear c0
  have hs1 : w.heap.size < w1.heap.size := by have := b1.size; simp at this; omega
  go_wp2_with fail
  refine (r1 _).mono ?_
  rintro e w2 ⟨rfl, b2⟩
  have e2 : w2.cell? ⟨w.heap.size, 2, none⟩ = some (.int .i64 i.b) := st_cell b2 (show (w1.alloc (.cells #[.int .i64 (kindsM i.op).1, .int .i64 (kindsM i.op).2.1, .int .i64 (kindsM i.op).2.2] 136)).cell? ⟨w.heap.size, 2, none⟩ = some (.int .i64 i.b) by go_simp)
  have e3 : w2.cell? ⟨w.heap.size, 3, none⟩ = some (.int .i64 i.c) := st_cell b2 (show (w1.alloc (.cells #[.int .i64 (kindsM i.op).1, .int .i64 (kindsM i.op).2.1, .int .i64 (kindsM i.op).2.2] 136)).cell? ⟨w.heap.size, 3, none⟩ = some (.int .i64 i.c) by go_simp)
  have m1 : w2.cell? ⟨w1.heap.size, 1, none⟩ = some (.int .i64 (kindsM i.op).2.1) := st_cell b2 (show (w1.alloc (.cells #[.int .i64 (kindsM i.op).1, .int .i64 (kindsM i.op).2.1, .int .i64 (kindsM i.op).2.2] 136)).cell? ⟨w1.heap.size, 1, none⟩ = some (.int .i64 (kindsM i.op).2.1) by go_simp)
  have m2 : w2.cell? ⟨w1.heap.size, 2, none⟩ = some (.int .i64 (kindsM i.op).2.2) := st_cell b2 (show (w1.alloc (.cells #[.int .i64 (kindsM i.op).1, .int .i64 (kindsM i.op).2.1, .int .i64 (kindsM i.op).2.2] 136)).cell? ⟨w1.heap.size, 2, none⟩ = some (.int .i64 (kindsM i.op).2.2) by go_simp)
  go_wp2_with fail
  refine (r2 _).mono ?_
  rintro e w3 ⟨rfl, b3⟩
  have e3 := st_cell b3 e3
  have m2 := st_cell b3 m2
  go_wp2_with fail
  refine (r3 _).mono ?_
  rintro e w4 ⟨rfl, b4⟩
  go_wp2_with fail
  go_ret
  exact ⟨rfl, by repeat (first | exact Bl.refl _ | assumption | apply Bl.drewN | apply Bl.alloc | refine Bl.trans ?_ (by assumption))⟩
end Go.Proofs.YtonndofbnhnkpaaGreat.PutA
