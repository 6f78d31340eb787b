/- The laws' comparison of what ran: two rows that hold the same are the same. The laws' comparison of rows: two that hold the same are the same. -/
import Derived.Test.YtonndofbnhnkpaaGreatStatB
import Derived.BigQuiet
import Derived.Deep.QuietTactic
set_option linter.unusedVariables false
set_option linter.unusedSimpArgs false
set_option linter.unusedSectionVars false
namespace Go.Proofs.YtonndofbnhnkpaaGreat.SmR
open Go.RowKit Num KeyM KeyW StatW Blk
theorem same_end (a b : Int) (w : World) : Calls Tryz.prog 11 #[.agg #[.int .i64 a, .int .i64 b], .agg #[.int .i64 a, .int .i64 b]] w fun x w' => x = .returned (.bool true) ∧ Bl w w' := by
  go_enter Tryz.func11, Tryz.ntmps11
  go_wp2_with fail
  go_ret
  exact ⟨rfl, by repeat (first | exact Bl.refl _ | assumption | apply Bl.drewN | apply Bl.alloc | refine Bl.trans ?_ (by assumption))⟩
/-- A row of so many fives. -/
def Fives (w : World) (A : Option Addr) (n : Nat) (F : Nat → Nat → Int) : Prop := 0 < n → ∃ g, A = some ⟨g, 0, none⟩ ∧ ∀ i j, i < n → j < 5 → w.cell? ⟨g, i * 5 + j, none⟩ = some (.int .i64 (F i j))
theorem Fives.bl {w w' : World} {A : Option Addr} {n : Nat} {F : Nat → Nat → Int} (h : Fives w A n F) (hb : Bl w w') : Fives w' A n F := fun h0 => by
  obtain ⟨g, e, hc⟩ := h h0
  exact ⟨g, e, fun i j hi hj => st_cell hb (hc i j hi hj)⟩
set_option maxRecDepth 100000 in
set_option maxHeartbeats 4000000 in
theorem same_ran (A B : Option Addr) (n ca cb : Nat) (F : Nat → Nat → Int) (w : World) (hA : Fives w A n F) (hB : Fives w B n F) (hn : n ≤ 1000000000000) :
    Calls Tryz.prog 12 #[.slice A n ca, .slice B n cb] w fun x w' => x = .returned (.bool true) ∧ Bl w w' := by
  go_enter Tryz.func12, Tryz.ntmps12
  go_wp2_with fail
  go_loopw [5] (fun c wr => ∃ j : Nat, j ≤ n ∧ c = .int .i64 j ∧ Bl w wr) (fun c _ => n - (intOf c).toNat)
  case atStart => exact ⟨0, by omega, rfl, Bl.refl _⟩
  case round =>
    obtain ⟨j, hj, rfl, hb⟩ := hrel
    by_cases hlt : j < n
    · obtain ⟨g, rfl, hg⟩ := hA (by omega)
      obtain ⟨k, rfl, hk⟩ := hB (by omega)
      have g0 := st_cell hb (hg j 0 hlt (by omega))
      have g1 := st_cell hb (hg j 1 hlt (by omega))
      have g2 := st_cell hb (hg j 2 hlt (by omega))
      have g3 := st_cell hb (hg j 3 hlt (by omega))
      have g4 := st_cell hb (hg j 4 hlt (by omega))
      have k0 := st_cell hb (hk j 0 hlt (by omega))
      have k1 := st_cell hb (hk j 1 hlt (by omega))
      have k2 := st_cell hb (hk j 2 hlt (by omega))
      have k3 := st_cell hb (hk j 3 hlt (by omega))
      have k4 := st_cell hb (hk j 4 hlt (by omega))
      simp only [Nat.add_zero] at g0 k0
      have hE := fun w => same_end (F j 3) (F j 4) w
      generalize F j 0 = f0 at *
      generalize F j 1 = f1 at *
      generalize F j 2 = f2 at *
      generalize F j 3 = f3 at *
      generalize F j 4 = f4 at *
      have b1 : (j : Int) < (n : Int) := by omega
      have b2 : (0 : Int) ≤ (j : Int) := by omega
      clear hg hk hA hB
      go_wp2_with fail
      refine still_tail 48 (by kernel_rfl) (by kernel_rfl) ?_
      simp only [List.take_succ_cons, List.take_zero, List.drop_succ_cons, List.drop_zero]
      repeat still_step
      refine wpStill_nil ?_
      go_wp2_with fail
      refine (hE _).mono ?_
      rintro x w2 ⟨rfl, hb2⟩
      go_wp2_with fail
      go_roundw
      case rel => exact ⟨j + 1, by omega, by go_num, by repeat (first | exact Bl.refl _ | assumption | apply Bl.drewN | apply Bl.alloc | refine Bl.trans ?_ (by assumption))⟩
      case measure => simp [intOf]; omega
    · obtain rfl : j = n := by omega
      go_wp2_with fail
      go_ret
      exact ⟨rfl, hb⟩
end Go.Proofs.YtonndofbnhnkpaaGreat.SmR
set_option linter.unusedVariables false
set_option linter.unusedSimpArgs false
set_option linter.unusedSectionVars false
namespace Go.Proofs.YtonndofbnhnkpaaGreat.SmI
open Go.RowKit Num KeyM KeyW StatW Blk
set_option maxRecDepth 100000 in
set_option maxHeartbeats 4000000 in
theorem same_ints (A B n : Nat) (f : Nat → Int) (w : World) (hA : w.rowIs A 3 n (fun j => .int .i64 (f j))) (hB : w.rowIs B 3 n (fun j => .int .i64 (f j))) (hn : n ≤ 1000000000000) :
    Calls Tryz.prog 13 #[.slice (some ⟨A, 0, none⟩) n n, .slice (some ⟨B, 0, none⟩) n n] w fun x w' => x = .returned (.bool true) ∧ Bl w w' := by
  have HA := Lib.hid hA
  have HB := Lib.hid hB
  clear hA hB
  go_enter Tryz.func13, Tryz.ntmps13
  go_wp2_with fail
  go_loopw [5] (fun c wr => ∃ j : Nat, j ≤ n ∧ c = .int .i64 j ∧ Bl w wr) (fun c _ => n - (intOf c).toNat)
  case atStart => exact ⟨0, by omega, rfl, Bl.refl _⟩
  case round =>
    obtain ⟨j, hj, rfl, hb⟩ := hrel
    by_cases hlt : j < n
    · have g0 : wr.cell? ⟨A, j, none⟩ = some (.int .i64 (f j)) := (row_bl HA.out hb).cell hlt
      have k0 : wr.cell? ⟨B, j, none⟩ = some (.int .i64 (f j)) := (row_bl HB.out hb).cell hlt
      generalize f j = f0 at *
      have b1 : (j : Int) < (n : Int) := by omega
      have b2 : (0 : Int) ≤ (j : Int) := by omega
      go_wp2_with fail
      go_quiet (fail)
      go_wp2_with fail
      go_roundw
      case rel => exact ⟨j + 1, by omega, by go_num, by repeat (first | exact Bl.refl _ | assumption | apply Bl.drewN | apply Bl.alloc | refine Bl.trans ?_ (by assumption))⟩
      case measure => simp [intOf]; omega
    · obtain rfl : j = n := by omega
      go_wp2_with fail
      go_ret
      exact ⟨rfl, hb⟩
set_option maxRecDepth 100000 in
set_option maxHeartbeats 4000000 in
theorem same_bools (A B n : Nat) (f : Nat → Bool) (w : World) (hA : w.rowIs A 4 n (fun j => .bool (f j))) (hB : w.rowIs B 4 n (fun j => .bool (f j))) (hn : n ≤ 1000000000000) :
    Calls Tryz.prog 14 #[.slice (some ⟨A, 0, none⟩) n n, .slice (some ⟨B, 0, none⟩) n n] w fun x w' => x = .returned (.bool true) ∧ Bl w w' := by
  have HA := Lib.hid hA
  have HB := Lib.hid hB
  clear hA hB
  go_enter Tryz.func14, Tryz.ntmps14
  go_wp2_with fail
  go_loopw [5] (fun c wr => ∃ j : Nat, j ≤ n ∧ c = .int .i64 j ∧ Bl w wr) (fun c _ => n - (intOf c).toNat)
  case atStart => exact ⟨0, by omega, rfl, Bl.refl _⟩
  case round =>
    obtain ⟨j, hj, rfl, hb⟩ := hrel
    by_cases hlt : j < n
    · have g0 : wr.cell? ⟨A, j, none⟩ = some (.bool (f j)) := (row_bl HA.out hb).cell hlt
      have k0 : wr.cell? ⟨B, j, none⟩ = some (.bool (f j)) := (row_bl HB.out hb).cell hlt
      generalize f j = f0 at *
      have b1 : (j : Int) < (n : Int) := by omega
      have b2 : (0 : Int) ≤ (j : Int) := by omega
      go_wp2_with fail
      go_quiet (fail)
      go_wp2_with fail
      go_roundw
      case rel => exact ⟨j + 1, by omega, by go_num, by repeat (first | exact Bl.refl _ | assumption | apply Bl.drewN | apply Bl.alloc | refine Bl.trans ?_ (by assumption))⟩
      case measure => simp [intOf]; omega
    · obtain rfl : j = n := by omega
      go_wp2_with fail
      go_ret
      exact ⟨rfl, hb⟩
end Go.Proofs.YtonndofbnhnkpaaGreat.SmI
