/- The contracts of package value's functions and of the reference's, at any integers. -/
import Derived.Test.YtonndofbnhnkpaaGreatRows
import Derived.WalkKit
import Derived.ProofKit
import Derived.Lib.Hide
import Derived.Test.YtonndofbnhnkpaaGreatKeyB
set_option linter.unusedVariables false
set_option linter.unusedSimpArgs false
set_option linter.unusedSectionVars false
namespace Go.Proofs.YtonndofbnhnkpaaGreat.Val
open Go.RowKit Num

theorem ret_i {a b : Int} (h : a = b) : Ending.returned (.int .i64 a) = .returned (.int .i64 b) := by rw [h]
theorem ret_ib {a b : Int} {c : Bool} (h : a = b) : Ending.returned (.tuple #[.int .i64 a, .bool c]) = .returned (.tuple #[.int .i64 b, .bool c]) := by rw [h]

theorem ret_b {a b : Bool} (h : a = b) : Ending.returned (.bool a) = .returned (.bool b) := by rw [h]

theorem wrap_any (a : Int) (w : World) :
    Calls Tryz.prog 30 #[.int .i64 a] w fun e w' => e = .returned (.int .i64 (wrap32 a)) ∧ w = w' := by
  go_enter Tryz.func30, Tryz.ntmps30
  go_wp2
  go_ret
  exact ⟨ret_i (w64_32 a), rfl⟩

theorem add_any (a b : Int) (w : World) :
    Calls Tryz.prog 53 #[.int .i64 a, .int .i64 b] w fun e w' => e = .returned (.int .i64 (add a b)) ∧ w = w' := by
  go_enter Tryz.func53, Tryz.ntmps53
  go_wp2
  go_ret
  exact ⟨ret_i (by simp only [w64_32, w32_64, add]), rfl⟩
theorem sub_any (a b : Int) (w : World) :
    Calls Tryz.prog 54 #[.int .i64 a, .int .i64 b] w fun e w' => e = .returned (.int .i64 (sub a b)) ∧ w = w' := by
  go_enter Tryz.func54, Tryz.ntmps54
  go_wp2
  go_ret
  exact ⟨ret_i (by simp only [w64_32, w32_64, sub]), rfl⟩
theorem mul_any (a b : Int) (w : World) :
    Calls Tryz.prog 55 #[.int .i64 a, .int .i64 b] w fun e w' => e = .returned (.int .i64 (mul a b)) ∧ w = w' := by
  go_enter Tryz.func55, Tryz.ntmps55
  go_wp2
  go_ret
  exact ⟨ret_i (by simp only [w64_32, w32_64, mul]), rfl⟩
theorem less_yes (a b : Int) (w : World) (h : wrap32 a < wrap32 b) :
    Calls Tryz.prog 56 #[.int .i64 a, .int .i64 b] w fun e w' => e = .returned (.int .i64 1) ∧ w = w' := by
  have ha := w64_32 a
  have hb := w64_32 b
  go_enter Tryz.func56, Tryz.ntmps56
  go_wp2
  go_ret
  exact ⟨rfl, rfl⟩
theorem less_no (a b : Int) (w : World) (h : ¬ wrap32 a < wrap32 b) :
    Calls Tryz.prog 56 #[.int .i64 a, .int .i64 b] w fun e w' => e = .returned (.int .i64 0) ∧ w = w' := by
  have ha := w64_32 a
  have hb := w64_32 b
  go_enter Tryz.func56, Tryz.ntmps56
  go_wp2
  go_ret
  exact ⟨rfl, rfl⟩
theorem less_any (a b : Int) (w : World) :
    Calls Tryz.prog 56 #[.int .i64 a, .int .i64 b] w fun e w' => e = .returned (.int .i64 (lessv a b)) ∧ w = w' := by
  by_cases h : wrap32 a < wrap32 b
  · rw [show lessv a b = 1 from (lessv_one a b).2 h]; exact less_yes a b w h
  · rw [show lessv a b = 0 by unfold lessv; rw [if_neg h]]; exact less_no a b w h
theorem place_any (v n : Int) (w : World) (hn : 0 < n) (hn' : n ≤ 4611686018427387904) :
    Calls Tryz.prog 7 #[.int .i64 v, .int .i64 n] w fun e w' => e = .returned (.int .i64 (v % n)) ∧ w = w' := by
  have hp := Lib.hid (place_eq v n hn)
  have h0 : (v.tmod n).natAbs < n.natAbs := by rw [Int.natAbs_tmod]; exact Nat.mod_lt _ (by omega)
  have h1 : -n < v.tmod n := by omega
  have h2 : v.tmod n < n := by omega
  have hz : (n == 0) = false := by simp; omega
  clear h0
  by_cases h : v.tmod n < 0
  all_goals
    go_enter Tryz.func7, Tryz.ntmps7
    go_wp2
    go_ret
    exact ⟨ret_i (by have := hp.out; first | (rw [if_pos (by omega)] at this; exact this) | (rw [if_neg (by omega)] at this; exact this)), rfl⟩
theorem div_no (a b : Int) (w : World) (h : (wrap32 b == 0) = true) :
    Calls Tryz.prog 57 #[.int .i64 a, .int .i64 b] w fun e w' => e = .returned (.tuple #[.int .i64 0, .bool false]) ∧ w = w' := by
  have hb := w64_32 b
  go_enter Tryz.func57, Tryz.ntmps57
  go_wp2
  go_ret2
  exact ⟨rfl, rfl⟩
theorem div_yes (a b : Int) (w : World) (h : (wrap32 b == 0) = false) :
    Calls Tryz.prog 57 #[.int .i64 a, .int .i64 b] w fun e w' => e = .returned (.tuple #[.int .i64 (divq a b), .bool true]) ∧ w = w' := by
  have h' : ¬ wrap32 b = 0 := by simpa using h
  have ha := w64_32 a
  have hb := w64_32 b
  go_enter Tryz.func57, Tryz.ntmps57
  go_wp2
  go_ret2
  exact ⟨ret_ib (by simp only [w64_32, w32_64, divq]), rfl⟩
end Go.Proofs.YtonndofbnhnkpaaGreat.Val
