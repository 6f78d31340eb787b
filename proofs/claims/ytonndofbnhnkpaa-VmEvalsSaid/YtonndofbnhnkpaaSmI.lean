/- The laws' comparison of rows: two that hold the same are the same. -/
import Derived.Test.YtonndofbnhnkpaaStatB
import Derived.BigQuiet
import Derived.Deep.QuietTactic
namespace Go.Proofs.Ytonndofbnhnkpaa.SmI
open Go.RowKit Num KeyM KeyW StatW Blk
set_option maxRecDepth 100000 in
set_option maxHeartbeats 4000000 in
theorem same_ints (A B n : Nat) (f : Nat → Int) (w : World) (hA : w.rowIs A 3 n (fun j => .int .i64 (f j))) (hB : w.rowIs B 3 n (fun j => .int .i64 (f j))) (hn : n ≤ 1000000000000) :
    Calls Try.prog 40 #[.slice (some ⟨A, 0, none⟩) n n, .slice (some ⟨B, 0, none⟩) n n] w fun x w' => x = .returned (.bool true) ∧ Bl w w' := by
  have HA := Lib.hid hA
  have HB := Lib.hid hB
  clear hA hB
  go_enter Try.func40, Try.ntmps40
  go_wp2_with fail
  go_loopw [5] (fun c wr => ∃ j : Nat, j ≤ n ∧ c = .int .i64 j ∧ Bl w wr) (fun c _ => n - (intOf c).toNat)
  case atStart => exact ⟨0, by omega, rfl, Bl.refl _⟩
  case round =>
    obtain ⟨j, hj, rfl, hb⟩ := hrel
    by_cases hlt : j < n
    · have g0 : wr.cell? ⟨A, j, none⟩ = some (.int .i64 (f j)) := (row_bl HA.out hb).cell hlt
      have k0 : wr.cell? ⟨B, j, none⟩ = some (.int .i64 (f j)) := (row_bl HB.out hb).cell hlt
      generalize f j = f0 at *
      have b1 : (j : Int) < (n : Int) := by omega
      have b2 : (0 : Int) ≤ (j : Int) := by omega
      go_wp2_with fail
      go_quiet (fail)
      go_wp2_with fail
      go_roundw
      case rel => exact ⟨j + 1, by omega, by go_num, by repeat (first | exact Bl.refl _ | assumption | apply Bl.drewN | apply Bl.alloc | refine Bl.trans ?_ (by assumption))⟩
      case measure => simp [intOf]; omega
    · obtain rfl : j = n := by omega
      go_wp2_with fail
      go_ret
      exact ⟨rfl, hb⟩
set_option maxRecDepth 100000 in
set_option maxHeartbeats 4000000 in
theorem same_bools (A B n : Nat) (f : Nat → Bool) (w : World) (hA : w.rowIs A 4 n (fun j => .bool (f j))) (hB : w.rowIs B 4 n (fun j => .bool (f j))) (hn : n ≤ 1000000000000) :
    Calls Try.prog 41 #[.slice (some ⟨A, 0, none⟩) n n, .slice (some ⟨B, 0, none⟩) n n] w fun x w' => x = .returned (.bool true) ∧ Bl w w' := by
  have HA := Lib.hid hA
  have HB := Lib.hid hB
  clear hA hB
  go_enter Try.func41, Try.ntmps41
  go_wp2_with fail
  go_loopw [5] (fun c wr => ∃ j : Nat, j ≤ n ∧ c = .int .i64 j ∧ Bl w wr) (fun c _ => n - (intOf c).toNat)
  case atStart => exact ⟨0, by omega, rfl, Bl.refl _⟩
  case round =>
    obtain ⟨j, hj, rfl, hb⟩ := hrel
    by_cases hlt : j < n
    · have g0 : wr.cell? ⟨A, j, none⟩ = some (.bool (f j)) := (row_bl HA.out hb).cell hlt
      have k0 : wr.cell? ⟨B, j, none⟩ = some (.bool (f j)) := (row_bl HB.out hb).cell hlt
      generalize f j = f0 at *
      have b1 : (j : Int) < (n : Int) := by omega
      have b2 : (0 : Int) ≤ (j : Int) := by omega
      go_wp2_with fail
      go_quiet (fail)
      go_wp2_with fail
      go_roundw
      case rel => exact ⟨j + 1, by omega, by go_num, by repeat (first | exact Bl.refl _ | assumption | apply Bl.drewN | apply Bl.alloc | refine Bl.trans ?_ (by assumption))⟩
      case measure => simp [intOf]; omega
    · obtain rfl : j = n := by omega
      go_wp2_with fail
      go_ret
      exact ⟨rfl, hb⟩
end Go.Proofs.Ytonndofbnhnkpaa.SmI
