/- The reference of chapter 2: bytes. -/
import Derived.Test.YtonndofbnhnkpaaGreatPutA
import Derived.Laws.BytesArg
import Derived.WalkLawsBesides
set_option linter.unusedVariables false
set_option linter.unusedSimpArgs false
set_option linter.unusedSectionVars false
namespace Go.Proofs.YtonndofbnhnkpaaGreat.PutA
open Go.RowKit Num KeyM KeyW StatW Blk VmA Prg
theorem conv1 (x0 : Int) (W : World) : (convert 104 9 (.slice (some ⟨W.heap.size, 0, none⟩) 1 1)).run Tryz.prog (W.alloc (.cells #[.int .u8 x0] 5)) = .ok (.string (strOfNums [x0])) (W.alloc (.cells #[.int .u8 x0] 5)) :=
  run_convert_bytes_arg _ 104 5 Tryz.underlying104 Tryz.underlying5 W.heap.size 0 1 1 [x0] rfl (fun i hi => by
    obtain rfl : i = 0 := by omega
    all_goals go_simp) 9 Tryz.underlying9
theorem conv2 (x0 x1 : Int) (W : World) : (convert 104 9 (.slice (some ⟨W.heap.size, 0, none⟩) 2 2)).run Tryz.prog (W.alloc (.cells #[.int .u8 x0, .int .u8 x1] 5)) = .ok (.string (strOfNums [x0, x1])) (W.alloc (.cells #[.int .u8 x0, .int .u8 x1] 5)) :=
  run_convert_bytes_arg _ 104 5 Tryz.underlying104 Tryz.underlying5 W.heap.size 0 2 2 [x0, x1] rfl (fun i hi => by
    obtain rfl | rfl : i = 0 ∨ i = 1 := by omega
    all_goals go_simp) 9 Tryz.underlying9
theorem conv4 (x0 x1 x2 x3 : Int) (W : World) : (convert 104 9 (.slice (some ⟨W.heap.size, 0, none⟩) 4 4)).run Tryz.prog (W.alloc (.cells #[.int .u8 x0, .int .u8 x1, .int .u8 x2, .int .u8 x3] 5)) = .ok (.string (strOfNums [x0, x1, x2, x3])) (W.alloc (.cells #[.int .u8 x0, .int .u8 x1, .int .u8 x2, .int .u8 x3] 5)) :=
  run_convert_bytes_arg _ 104 5 Tryz.underlying104 Tryz.underlying5 W.heap.size 0 4 4 [x0, x1, x2, x3] rfl (fun i hi => by
    obtain rfl | rfl | rfl | rfl : i = 0 ∨ i = 1 ∨ i = 2 ∨ i = 3 := by omega
    all_goals go_simp) 9 Tryz.underlying9
theorem conv5 (x0 x1 x2 x3 x4 : Int) (W : World) : (convert 104 9 (.slice (some ⟨W.heap.size, 0, none⟩) 5 5)).run Tryz.prog (W.alloc (.cells #[.int .u8 x0, .int .u8 x1, .int .u8 x2, .int .u8 x3, .int .u8 x4] 5)) = .ok (.string (strOfNums [x0, x1, x2, x3, x4])) (W.alloc (.cells #[.int .u8 x0, .int .u8 x1, .int .u8 x2, .int .u8 x3, .int .u8 x4] 5)) :=
  run_convert_bytes_arg _ 104 5 Tryz.underlying104 Tryz.underlying5 W.heap.size 0 5 5 [x0, x1, x2, x3, x4] rfl (fun i hi => by
    obtain rfl | rfl | rfl | rfl | rfl : i = 0 ∨ i = 1 ∨ i = 2 ∨ i = 3 ∨ i = 4 := by omega
    all_goals go_simp) 9 Tryz.underlying9
theorem conv1_at (x0 : Int) (W : World) (B : Nat) (h0 : W.cell? ⟨B, 0, none⟩ = some (.int .u8 x0)) : (convert 104 9 (.slice (some ⟨B, 0, none⟩) 1 1)).run Tryz.prog W = .ok (.string (strOfNums [x0])) W :=
  run_convert_bytes_arg _ 104 5 Tryz.underlying104 Tryz.underlying5 B 0 1 1 [x0] rfl (fun i hi => by
    obtain rfl : i = 0 := by omega
    all_goals assumption) 9 Tryz.underlying9
theorem conv2_at (x0 x1 : Int) (W : World) (B : Nat) (h0 : W.cell? ⟨B, 0, none⟩ = some (.int .u8 x0)) (h1 : W.cell? ⟨B, 1, none⟩ = some (.int .u8 x1)) : (convert 104 9 (.slice (some ⟨B, 0, none⟩) 2 2)).run Tryz.prog W = .ok (.string (strOfNums [x0, x1])) W :=
  run_convert_bytes_arg _ 104 5 Tryz.underlying104 Tryz.underlying5 B 0 2 2 [x0, x1] rfl (fun i hi => by
    obtain rfl | rfl : i = 0 ∨ i = 1 := by omega
    all_goals assumption) 9 Tryz.underlying9
theorem conv4_at (x0 x1 x2 x3 : Int) (W : World) (B : Nat) (h0 : W.cell? ⟨B, 0, none⟩ = some (.int .u8 x0)) (h1 : W.cell? ⟨B, 1, none⟩ = some (.int .u8 x1)) (h2 : W.cell? ⟨B, 2, none⟩ = some (.int .u8 x2)) (h3 : W.cell? ⟨B, 3, none⟩ = some (.int .u8 x3)) : (convert 104 9 (.slice (some ⟨B, 0, none⟩) 4 4)).run Tryz.prog W = .ok (.string (strOfNums [x0, x1, x2, x3])) W :=
  run_convert_bytes_arg _ 104 5 Tryz.underlying104 Tryz.underlying5 B 0 4 4 [x0, x1, x2, x3] rfl (fun i hi => by
    obtain rfl | rfl | rfl | rfl : i = 0 ∨ i = 1 ∨ i = 2 ∨ i = 3 := by omega
    all_goals assumption) 9 Tryz.underlying9
theorem conv5_at (x0 x1 x2 x3 x4 : Int) (W : World) (B : Nat) (h0 : W.cell? ⟨B, 0, none⟩ = some (.int .u8 x0)) (h1 : W.cell? ⟨B, 1, none⟩ = some (.int .u8 x1)) (h2 : W.cell? ⟨B, 2, none⟩ = some (.int .u8 x2)) (h3 : W.cell? ⟨B, 3, none⟩ = some (.int .u8 x3)) (h4 : W.cell? ⟨B, 4, none⟩ = some (.int .u8 x4)) : (convert 104 9 (.slice (some ⟨B, 0, none⟩) 5 5)).run Tryz.prog W = .ok (.string (strOfNums [x0, x1, x2, x3, x4])) W :=
  run_convert_bytes_arg _ 104 5 Tryz.underlying104 Tryz.underlying5 B 0 5 5 [x0, x1, x2, x3, x4] rfl (fun i hi => by
    obtain rfl | rfl | rfl | rfl | rfl : i = 0 ∨ i = 1 ∨ i = 2 ∨ i = 3 ∨ i = 4 := by omega
    all_goals assumption) 9 Tryz.underlying9
theorem str_size (xs : List Int) : (strOfNums xs).size = xs.length := by simp [strOfNums, ByteArray.size]
set_option maxRecDepth 100000 in
set_option maxHeartbeats 1000000 in
theorem four_any (v : Int) (w : World) : Calls Tryz.prog 95 #[.int .i64 v] w fun e w' => ∃ s : ByteArray, e = .returned (.string s) ∧ s.size = 4 ∧ Bl w w' := by
  have k4 := conv4
  go_enter Tryz.func95, Tryz.ntmps95
  go_wp2_with fail
  go_ret
  exact ⟨_, rfl, by rw [str_size]; rfl, by repeat (first | exact Bl.refl _ | assumption | apply Bl.drewN | apply Bl.drew | apply Bl.alloc | refine Bl.trans ?_ (by assumption))⟩
set_option maxRecDepth 100000 in
set_option maxHeartbeats 2000000 in
theorem ins_any (i : Ins) (w : World) : Calls Tryz.prog 65 #[insV i] w fun e w' => ∃ s : ByteArray, e = .returned (.string s) ∧ s.size ≤ 6 ∧ Bl w w' := by
  have k4 := conv4
  have k2 := conv2
  have hf := fun w => four_any i.b w
  unfold insV
  by_cases h1 : i.op = 1
  · rw [h1]
    clear h1
    have HA : Hid (∀ w2, Bl ((w.alloc (.cells #[.int .i64 1, .int .i64 i.a, .int .i64 i.b, .int .i64 i.c] 53)).alloc (.cells #[.int .u8 (IntKind.u8.wrap 1), .int .u8 (IntKind.u8.wrap i.a)] 5)).drew w2 → (convert 104 9 (.slice (some ⟨w.heap.size + 1, 0, none⟩) 2 2)).run Tryz.prog w2 = .ok (.string (strOfNums [IntKind.u8.wrap 1, IntKind.u8.wrap i.a])) w2 ∧ w2.cell? ⟨w.heap.size, 0, none⟩ = some (.int .i64 1) ∧ w2.cell? ⟨w.heap.size, 1, none⟩ = some (.int .i64 i.a) ∧ w.heap.size < w2.heap.size) := by
      intro w2 b2
      refine ⟨conv2_at _ _ w2 (w.heap.size + 1) (st_cell b2 ?_) (st_cell b2 ?_), st_cell b2 ?_, st_cell b2 ?_, ?_⟩
      all_goals try go_simp
      have := b2.size; simp at this; omega
    have HB : Hid (∀ w2, Bl (w.alloc (.cells #[.int .i64 1, .int .i64 i.a, .int .i64 i.b, .int .i64 i.c] 53)).drew w2 → w2.cell? ⟨w.heap.size, 0, none⟩ = some (.int .i64 1) ∧ w2.cell? ⟨w.heap.size, 1, none⟩ = some (.int .i64 i.a) ∧ w.heap.size < w2.heap.size) := by
      intro w2 b2
      refine ⟨st_cell b2 ?_, st_cell b2 ?_, ?_⟩
      all_goals try go_simp
      have := b2.size; simp at this; omega
    have k2' := conv2_at (IntKind.u8.wrap 1) (IntKind.u8.wrap i.a) ((w.alloc (.cells #[.int .i64 1, .int .i64 i.a, .int .i64 i.b, .int .i64 i.c] 53)).alloc (.cells #[.int .u8 (IntKind.u8.wrap 1), .int .u8 (IntKind.u8.wrap i.a)] 5)).drew (w.heap.size + 1) (by go_simp) (by go_simp)
    go_enter Tryz.func65, Tryz.ntmps65
    go_wp2_with fail
    go_region_with (first
      | (go_at_call 95; with_reducible refine (hf ((w.alloc (.cells #[.int .i64 1, .int .i64 i.a, .int .i64 i.b, .int .i64 i.c] 53)).alloc (.cells #[.int .u8 (IntKind.u8.wrap 1), .int .u8 (IntKind.u8.wrap i.a)] 5)).drew).mono ?_; rintro e w2 ⟨s4, rfl, hs4, b2⟩; obtain ⟨k2q, d0, d1, z2⟩ := HA.out _ b2)
      | (go_at_call 95; with_reducible refine (hf (w.alloc (.cells #[.int .i64 1, .int .i64 i.a, .int .i64 i.b, .int .i64 i.c] 53)).drew).mono ?_; rintro e w2 ⟨s4, rfl, hs4, b2⟩; obtain ⟨d0, d1, z2⟩ := HB.out _ b2))
    all_goals
      go_wp2_with fail
      go_ret
      refine ⟨_, rfl, ?_, by repeat (first | exact Bl.refl _ | assumption | apply Bl.drewN | apply Bl.drew | apply Bl.alloc | refine Bl.trans ?_ (by assumption))⟩
      first
        | (simp [str_size, hs4]; done)
        | (rw [ByteArray.size_append, str_size, hs4]; simp; done)
  · have h1' : (i.op == 1) = false := by simpa using h1
    clear h1
    have k4' := conv4_at (i.op % 256) (i.a % 256) (i.b % 256) (i.c % 256) ((w.alloc (.cells #[.int .i64 i.op, .int .i64 i.a, .int .i64 i.b, .int .i64 i.c] 53)).alloc (.cells #[.int .u8 (i.op % 256), .int .u8 (i.a % 256), .int .u8 (i.b % 256), .int .u8 (i.c % 256)] 5)) (w.heap.size + 1) (by go_simp) (by go_simp) (by go_simp) (by go_simp)
    go_enter Tryz.func65, Tryz.ntmps65
    go_wp2_with fail
    go_ret
    exact ⟨_, rfl, by rw [str_size]; simp, by repeat (first | exact Bl.refl _ | assumption | apply Bl.drewN | apply Bl.drew | apply Bl.alloc | refine Bl.trans ?_ (by assumption))⟩
end Go.Proofs.YtonndofbnhnkpaaGreat.PutA
