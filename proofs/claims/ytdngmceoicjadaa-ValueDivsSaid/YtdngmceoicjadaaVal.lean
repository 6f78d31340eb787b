/- The contracts of package value's functions and of the reference's, at any integers. -/
import Derived.Test.YtdngmceoicjadaaRows
import Derived.WalkKit
import Derived.ProofKit
import Derived.Test.YtdngmceoicjadaaNum
namespace Go.Proofs.Ytdngmceoicjadaa.Val
open Go.RowKit Num

theorem ret_i {a b : Int} (h : a = b) : Ending.returned (.int .i64 a) = .returned (.int .i64 b) := by rw [h]
theorem ret_ib {a b : Int} {c : Bool} (h : a = b) : Ending.returned (.tuple #[.int .i64 a, .bool c]) = .returned (.tuple #[.int .i64 b, .bool c]) := by rw [h]

theorem ret_b {a b : Bool} (h : a = b) : Ending.returned (.bool a) = .returned (.bool b) := by rw [h]

theorem wrap_any (a : Int) (w : World) :
    Calls Try.prog 15 #[.int .i64 a] w fun e w' => e = .returned (.int .i64 (wrap32 a)) ∧ w = w' := by
  go_enter Try.func15, Try.ntmps15
  go_wp2
  go_ret
  exact ⟨ret_i (w64_32 a), rfl⟩

theorem add_any (a b : Int) (w : World) :
    Calls Try.prog 23 #[.int .i64 a, .int .i64 b] w fun e w' => e = .returned (.int .i64 (add a b)) ∧ w = w' := by
  go_enter Try.func23, Try.ntmps23
  go_wp2
  go_ret
  exact ⟨ret_i (by simp only [w64_32, w32_64, add]), rfl⟩
theorem sub_any (a b : Int) (w : World) :
    Calls Try.prog 25 #[.int .i64 a, .int .i64 b] w fun e w' => e = .returned (.int .i64 (sub a b)) ∧ w = w' := by
  go_enter Try.func25, Try.ntmps25
  go_wp2
  go_ret
  exact ⟨ret_i (by simp only [w64_32, w32_64, sub]), rfl⟩
theorem mul_any (a b : Int) (w : World) :
    Calls Try.prog 20 #[.int .i64 a, .int .i64 b] w fun e w' => e = .returned (.int .i64 (mul a b)) ∧ w = w' := by
  go_enter Try.func20, Try.ntmps20
  go_wp2
  go_ret
  exact ⟨ret_i (by simp only [w64_32, w32_64, mul]), rfl⟩
theorem less_yes (a b : Int) (w : World) (h : wrap32 a < wrap32 b) :
    Calls Try.prog 18 #[.int .i64 a, .int .i64 b] w fun e w' => e = .returned (.int .i64 1) ∧ w = w' := by
  have ha := w64_32 a
  have hb := w64_32 b
  go_enter Try.func18, Try.ntmps18
  go_wp2
  go_ret
  exact ⟨rfl, rfl⟩
theorem less_no (a b : Int) (w : World) (h : ¬ wrap32 a < wrap32 b) :
    Calls Try.prog 18 #[.int .i64 a, .int .i64 b] w fun e w' => e = .returned (.int .i64 0) ∧ w = w' := by
  have ha := w64_32 a
  have hb := w64_32 b
  go_enter Try.func18, Try.ntmps18
  go_wp2
  go_ret
  exact ⟨rfl, rfl⟩
theorem div_no (a b : Int) (w : World) (h : (wrap32 b == 0) = true) :
    Calls Try.prog 16 #[.int .i64 a, .int .i64 b] w fun e w' => e = .returned (.tuple #[.int .i64 0, .bool false]) ∧ w = w' := by
  have hb := w64_32 b
  go_enter Try.func16, Try.ntmps16
  go_wp2
  go_ret2
  exact ⟨rfl, rfl⟩
theorem div_yes (a b : Int) (w : World) (h : (wrap32 b == 0) = false) :
    Calls Try.prog 16 #[.int .i64 a, .int .i64 b] w fun e w' => e = .returned (.tuple #[.int .i64 (divq a b), .bool true]) ∧ w = w' := by
  have h' : ¬ wrap32 b = 0 := by simpa using h
  have ha := w64_32 a
  have hb := w64_32 b
  go_enter Try.func16, Try.ntmps16
  go_wp2
  go_ret2
  exact ⟨ret_ib (by simp only [w64_32, w32_64, divq]), rfl⟩
theorem awake_any (w : World) : Calls Try.prog 17 #[] w fun e w' => e = .returned (.bool true) ∧ w = w' := by
  have h : wrap64 (wrap32 2147483648) = -2147483648 := by unfold wrap64 wrap32; omega
  go_enter Try.func17, Try.ntmps17
  go_wp2
  go_ret
  exact ⟨rfl, rfl⟩
end Go.Proofs.Ytdngmceoicjadaa.Val
