/- ValueRing: sums and products by the lowest 32 bits are a ring. -/
import Derived.Test.YtdngmceoicjadaaVal
namespace Go.Proofs.Ytdngmceoicjadaa.Ring
open Go.RowKit Num Val
set_option maxHeartbeats 2000000 in
theorem walk (a b c : Int) (w : World) :
    Calls Try.prog 6 #[.int .i64 a, .int .i64 b, .int .i64 c] w fun e w' => e = .returned (.bool true) ∧ w = w' := by
  have h1 : add b a = add a b := by simp only [add_eq, Int.add_comm]
  have h2 : mul b a = mul a b := by simp only [mul_eq, Int.mul_comm]
  have h3 : add (add a b) c = add a (add b c) := by simp only [add_eq, w_add_l, w_add_r, Int.add_assoc]
  have h4 : mul (mul a b) c = mul a (mul b c) := by simp only [mul_eq, w_mul_l, w_mul_r, Int.mul_assoc]
  have h5 : mul a (add b c) = add (mul a b) (mul a c) := by simp only [mul_eq, add_eq, w_mul_r, w_add_l, w_add_r, Int.mul_add]
  have h6 : add a 0 = wrap32 a := by simp only [add_eq, Int.add_zero]
  have h7 : mul a 1 = wrap32 a := by simp only [mul_eq, Int.mul_one]
  have h8 : sub (add a b) b = wrap32 a := by simp only [sub_eq, add_eq, w_sub_l, Int.add_sub_cancel]
  have h9 : wrap32 (wrap32 a) = wrap32 a := w32_32 a
  go_enter Try.func6, Try.ntmps6
  go_wp2_with (first
    | (go_at_call 23; refine (add_any _ _ _).mono ?_; rintro e w' ⟨rfl, rfl⟩)
    | (go_at_call 20; refine (mul_any _ _ _).mono ?_; rintro e w' ⟨rfl, rfl⟩)
    | (go_at_call 25; refine (sub_any _ _ _).mono ?_; rintro e w' ⟨rfl, rfl⟩)
    | (go_at_call 15; refine (wrap_any _ _).mono ?_; rintro e w' ⟨rfl, rfl⟩)
    | (go_at_call 17; refine (awake_any _).mono ?_; rintro e w' ⟨rfl, rfl⟩))
  go_ret
  exact ⟨rfl, rfl⟩
end Go.Proofs.Ytdngmceoicjadaa.Ring
