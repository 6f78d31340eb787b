/- ValueAll, ValueOrders, ValueLess: the walks. -/
import Derived.Test.YtdngmceoicjadaaRef1
namespace Go.Proofs.Ytdngmceoicjadaa.Vals
open Go.RowKit Num Val Ref1
set_option maxHeartbeats 2000000 in
theorem all (a b : Int) (w : World) :
    Calls Try.prog 5 #[.int .i64 a, .int .i64 b] w fun e w' => e = .returned (.bool true) ∧ w = w' := by
  have hd : ∃ v c, (∀ w, Calls Try.prog 16 #[.int .i64 a, .int .i64 b] w fun e w' => e = .returned (.tuple #[.int .i64 v, .bool c]) ∧ w = w') ∧
      (∀ w, Calls Try.prog 21 #[.int .i64 a, .int .i64 b] w fun e w' => e = .returned (.tuple #[.int .i64 v, .bool c]) ∧ w = w') := by
    cases h : wrap32 b == 0
    · exact ⟨_, _, fun w => div_yes a b w h, fun w => div_ref_yes a b w h⟩
    · exact ⟨_, _, fun w => div_no a b w h, fun w => div_ref_no a b w h⟩
  have hl : ∃ v, (∀ w, Calls Try.prog 18 #[.int .i64 a, .int .i64 b] w fun e w' => e = .returned (.int .i64 v) ∧ w = w') ∧
      (∀ w, Calls Try.prog 28 #[.int .i64 a, .int .i64 b] w fun e w' => e = .returned (.int .i64 v) ∧ w = w') := by
    by_cases h : wrap32 a < wrap32 b
    · exact ⟨_, fun w => less_yes a b w h, fun w => less_ref_yes a b w h⟩
    · exact ⟨_, fun w => less_no a b w h, fun w => less_ref_no a b w h⟩
  obtain ⟨v, c, hd, hd'⟩ := hd
  obtain ⟨u, hl, hl'⟩ := hl
  go_enter Try.func5, Try.ntmps5
  go_wp2_with (first
    | (go_at_call 16; refine (hd _).mono ?_; rintro e w' ⟨rfl, rfl⟩)
    | (go_at_call 21; refine (hd' _).mono ?_; rintro e w' ⟨rfl, rfl⟩)
    | (go_at_call 18; refine (hl _).mono ?_; rintro e w' ⟨rfl, rfl⟩)
    | (go_at_call 28; refine (hl' _).mono ?_; rintro e w' ⟨rfl, rfl⟩)
    | (go_at_call 15; refine (Val.wrap_any _ _).mono ?_; rintro e w' ⟨rfl, rfl⟩)
    | (go_at_call 22; refine (Ref1.wrap_any _ _).mono ?_; rintro e w' ⟨rfl, rfl⟩)
    | (go_at_call 23; refine (add_any _ _ _).mono ?_; rintro e w' ⟨rfl, rfl⟩)
    | (go_at_call 24; refine (add_ref _ _ _).mono ?_; rintro e w' ⟨rfl, rfl⟩)
    | (go_at_call 25; refine (sub_any _ _ _).mono ?_; rintro e w' ⟨rfl, rfl⟩)
    | (go_at_call 26; refine (sub_ref _ _ _).mono ?_; rintro e w' ⟨rfl, rfl⟩)
    | (go_at_call 20; refine (mul_any _ _ _).mono ?_; rintro e w' ⟨rfl, rfl⟩)
    | (go_at_call 27; refine (mul_ref _ _ _).mono ?_; rintro e w' ⟨rfl, rfl⟩)
    | (go_at_call 17; refine (awake_any _).mono ?_; rintro e w' ⟨rfl, rfl⟩))
  go_ret
  exact ⟨rfl, rfl⟩
set_option maxHeartbeats 2000000 in
theorem less (a b c : Int) (w : World) :
    Calls Try.prog 8 #[.int .i64 a, .int .i64 b, .int .i64 c] w fun e w' => e = .returned (.bool true) ∧ w = w' := by
  have e1 : add a (mul (-1) b) = sub a b := by simp only [add_eq, mul_eq, sub_eq, w_add_r]; congr 1; omega
  have e2 : sub a a = 0 := by simp only [sub_eq, Int.sub_self]; decide +kernel
  have e3 : add (-2147483648) (-2147483648) = 0 := by decide +kernel
  have e4 : sub a (add b c) = sub (sub a b) c := by simp only [sub_eq, add_eq, w_sub_l, w_sub_r]; congr 1; omega
  have e5 : sub (mul a c) (mul b c) = mul (sub a b) c := by simp only [sub_eq, mul_eq, w_sub_l, w_sub_r, w_mul_l, Int.sub_mul]
  have l1 := Int.emod_nonneg a (b := 1000) (by omega)
  have l2 := Int.emod_lt_of_pos a (b := 1000) (by omega)
  have e6 : wrap32 (4294967296 + a % 1000) = a % 1000 := by unfold wrap32; omega
  go_enter Try.func8, Try.ntmps8
  go_wp2_with (first
    | (go_at_call 15; refine (Val.wrap_any _ _).mono ?_; rintro e w' ⟨rfl, rfl⟩)
    | (go_at_call 23; refine (add_any _ _ _).mono ?_; rintro e w' ⟨rfl, rfl⟩)
    | (go_at_call 25; refine (sub_any _ _ _).mono ?_; rintro e w' ⟨rfl, rfl⟩)
    | (go_at_call 20; refine (mul_any _ _ _).mono ?_; rintro e w' ⟨rfl, rfl⟩)
    | (go_at_call 19; refine (place_any _ _ _ (by omega) (by omega)).mono ?_; rintro e w' ⟨rfl, rfl⟩)
    | (go_at_call 17; refine (awake_any _).mono ?_; rintro e w' ⟨rfl, rfl⟩))
  go_ret
  exact ⟨rfl, rfl⟩
end Go.Proofs.Ytdngmceoicjadaa.Vals
