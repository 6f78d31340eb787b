/- The contracts of the reference's numbers of 32 bits: they are package value's. -/
import Derived.Test.YtdngmceoicjadaaVal
namespace Go.Proofs.Ytdngmceoicjadaa.Ref1
open Go.RowKit Num Val
theorem wrap_any (a : Int) (w : World) :
    Calls Try.prog 22 #[.int .i64 a] w fun e w' => e = .returned (.int .i64 (wrap32 a)) ∧ w = w' := by
  have hb := and_two32 a
  by_cases h : a % 4294967296 < 2147483648
  all_goals
    go_enter Try.func22, Try.ntmps22
    go_wp2
    go_ret
    exact ⟨ret_i (by unfold wrap32; omega), rfl⟩
theorem add_ref (a b : Int) (w : World) :
    Calls Try.prog 24 #[.int .i64 a, .int .i64 b] w fun e w' => e = .returned (.int .i64 (add a b)) ∧ w = w' := by
  have l1 := w32_lo a
  have l2 := w32_hi a
  have l3 := w32_lo b
  have l4 := w32_hi b
  go_enter Try.func24, Try.ntmps24
  go_wp2_with (go_at_call 22; refine (wrap_any _ _).mono ?_; rintro e w' ⟨rfl, rfl⟩)
  go_ret
  exact ⟨rfl, rfl⟩
theorem sub_ref (a b : Int) (w : World) :
    Calls Try.prog 26 #[.int .i64 a, .int .i64 b] w fun e w' => e = .returned (.int .i64 (sub a b)) ∧ w = w' := by
  have l1 := w32_lo a
  have l2 := w32_hi a
  have l3 := w32_lo b
  have l4 := w32_hi b
  go_enter Try.func26, Try.ntmps26
  go_wp2_with (go_at_call 22; refine (wrap_any _ _).mono ?_; rintro e w' ⟨rfl, rfl⟩)
  go_ret
  exact ⟨rfl, rfl⟩
theorem mul_ref (a b : Int) (w : World) :
    Calls Try.prog 27 #[.int .i64 a, .int .i64 b] w fun e w' => e = .returned (.int .i64 (mul a b)) ∧ w = w' := by
  go_enter Try.func27, Try.ntmps27
  go_wp2_with (go_at_call 22; refine (wrap_any _ _).mono ?_; rintro e w' ⟨rfl, rfl⟩)
  go_ret
  exact ⟨ret_i (by simp only [w32_64, mul]), rfl⟩
theorem less_ref_yes (a b : Int) (w : World) (h : wrap32 a < wrap32 b) :
    Calls Try.prog 28 #[.int .i64 a, .int .i64 b] w fun e w' => e = .returned (.int .i64 1) ∧ w = w' := by
  go_enter Try.func28, Try.ntmps28
  go_wp2_with (go_at_call 22; refine (wrap_any _ _).mono ?_; rintro e w' ⟨rfl, rfl⟩)
  go_ret
  exact ⟨rfl, rfl⟩
theorem less_ref_no (a b : Int) (w : World) (h : ¬ wrap32 a < wrap32 b) :
    Calls Try.prog 28 #[.int .i64 a, .int .i64 b] w fun e w' => e = .returned (.int .i64 0) ∧ w = w' := by
  go_enter Try.func28, Try.ntmps28
  go_wp2_with (go_at_call 22; refine (wrap_any _ _).mono ?_; rintro e w' ⟨rfl, rfl⟩)
  go_ret
  exact ⟨rfl, rfl⟩
theorem div_ref_no (a b : Int) (w : World) (h : (wrap32 b == 0) = true) :
    Calls Try.prog 21 #[.int .i64 a, .int .i64 b] w fun e w' => e = .returned (.tuple #[.int .i64 0, .bool false]) ∧ w = w' := by
  go_enter Try.func21, Try.ntmps21
  go_wp2_with (go_at_call 22; refine (wrap_any _ _).mono ?_; rintro e w' ⟨rfl, rfl⟩)
  go_ret2
  exact ⟨rfl, rfl⟩
theorem div_ref_yes (a b : Int) (w : World) (h : (wrap32 b == 0) = false) :
    Calls Try.prog 21 #[.int .i64 a, .int .i64 b] w fun e w' => e = .returned (.tuple #[.int .i64 (divq a b), .bool true]) ∧ w = w' := by
  have h' : ¬ wrap32 b = 0 := by simpa using h
  go_enter Try.func21, Try.ntmps21
  go_wp2_with (go_at_call 22; refine (wrap_any _ _).mono ?_; rintro e w' ⟨rfl, rfl⟩)
  go_ret2
  exact ⟨ret_ib (by simp only [w32_64, divq]), rfl⟩
end Go.Proofs.Ytdngmceoicjadaa.Ref1
