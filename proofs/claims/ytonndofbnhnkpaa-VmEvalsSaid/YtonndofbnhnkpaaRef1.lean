/- The contracts of the reference's numbers of 32 bits: they are package value's. -/
import Derived.Test.YtonndofbnhnkpaaVal
namespace Go.Proofs.Ytonndofbnhnkpaa.Ref1
open Go.RowKit Num Val
theorem wrap_any (a : Int) (w : World) :
    Calls Try.prog 129 #[.int .i64 a] w fun e w' => e = .returned (.int .i64 (wrap32 a)) ∧ w = w' := by
  have hb := and_two32 a
  by_cases h : a % 4294967296 < 2147483648
  all_goals
    go_enter Try.func129, Try.ntmps129
    go_wp2
    go_ret
    exact ⟨ret_i (by unfold wrap32; omega), rfl⟩
theorem add_ref (a b : Int) (w : World) :
    Calls Try.prog 156 #[.int .i64 a, .int .i64 b] w fun e w' => e = .returned (.int .i64 (add a b)) ∧ w = w' := by
  have l1 := w32_lo a
  have l2 := w32_hi a
  have l3 := w32_lo b
  have l4 := w32_hi b
  go_enter Try.func156, Try.ntmps156
  go_wp2_with (go_at_call 129; refine (wrap_any _ _).mono ?_; rintro e w' ⟨rfl, rfl⟩)
  go_ret
  exact ⟨rfl, rfl⟩
theorem sub_ref (a b : Int) (w : World) :
    Calls Try.prog 157 #[.int .i64 a, .int .i64 b] w fun e w' => e = .returned (.int .i64 (sub a b)) ∧ w = w' := by
  have l1 := w32_lo a
  have l2 := w32_hi a
  have l3 := w32_lo b
  have l4 := w32_hi b
  go_enter Try.func157, Try.ntmps157
  go_wp2_with (go_at_call 129; refine (wrap_any _ _).mono ?_; rintro e w' ⟨rfl, rfl⟩)
  go_ret
  exact ⟨rfl, rfl⟩
theorem mul_ref (a b : Int) (w : World) :
    Calls Try.prog 158 #[.int .i64 a, .int .i64 b] w fun e w' => e = .returned (.int .i64 (mul a b)) ∧ w = w' := by
  go_enter Try.func158, Try.ntmps158
  go_wp2_with (go_at_call 129; refine (wrap_any _ _).mono ?_; rintro e w' ⟨rfl, rfl⟩)
  go_ret
  exact ⟨ret_i (by simp only [w32_64, mul]), rfl⟩
theorem less_ref_yes (a b : Int) (w : World) (h : wrap32 a < wrap32 b) :
    Calls Try.prog 159 #[.int .i64 a, .int .i64 b] w fun e w' => e = .returned (.int .i64 1) ∧ w = w' := by
  go_enter Try.func159, Try.ntmps159
  go_wp2_with (go_at_call 129; refine (wrap_any _ _).mono ?_; rintro e w' ⟨rfl, rfl⟩)
  go_ret
  exact ⟨rfl, rfl⟩
theorem less_ref_no (a b : Int) (w : World) (h : ¬ wrap32 a < wrap32 b) :
    Calls Try.prog 159 #[.int .i64 a, .int .i64 b] w fun e w' => e = .returned (.int .i64 0) ∧ w = w' := by
  go_enter Try.func159, Try.ntmps159
  go_wp2_with (go_at_call 129; refine (wrap_any _ _).mono ?_; rintro e w' ⟨rfl, rfl⟩)
  go_ret
  exact ⟨rfl, rfl⟩
theorem div_ref_no (a b : Int) (w : World) (h : (wrap32 b == 0) = true) :
    Calls Try.prog 160 #[.int .i64 a, .int .i64 b] w fun e w' => e = .returned (.tuple #[.int .i64 0, .bool false]) ∧ w = w' := by
  go_enter Try.func160, Try.ntmps160
  go_wp2_with (go_at_call 129; refine (wrap_any _ _).mono ?_; rintro e w' ⟨rfl, rfl⟩)
  go_ret2
  exact ⟨rfl, rfl⟩
theorem div_ref_yes (a b : Int) (w : World) (h : (wrap32 b == 0) = false) :
    Calls Try.prog 160 #[.int .i64 a, .int .i64 b] w fun e w' => e = .returned (.tuple #[.int .i64 (divq a b), .bool true]) ∧ w = w' := by
  have h' : ¬ wrap32 b = 0 := by simpa using h
  go_enter Try.func160, Try.ntmps160
  go_wp2_with (go_at_call 129; refine (wrap_any _ _).mono ?_; rintro e w' ⟨rfl, rfl⟩)
  go_ret2
  exact ⟨ret_ib (by simp only [w32_64, divq]), rfl⟩
theorem less_ref (a b : Int) (w : World) :
    Calls Try.prog 159 #[.int .i64 a, .int .i64 b] w fun e w' => e = .returned (.int .i64 (lessv a b)) ∧ w = w' := by
  by_cases h : wrap32 a < wrap32 b
  · rw [show lessv a b = 1 from (lessv_one a b).2 h]; exact less_ref_yes a b w h
  · rw [show lessv a b = 0 by unfold lessv; rw [if_neg h]]; exact less_ref_no a b w h
end Go.Proofs.Ytonndofbnhnkpaa.Ref1
