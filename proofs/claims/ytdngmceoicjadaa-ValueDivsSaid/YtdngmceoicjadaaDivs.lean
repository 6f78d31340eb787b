/- ValueDivs: a quotient cut towards nought: what it leaves is less than the divisor, and has the sign of what was divided. -/
import Derived.Test.YtdngmceoicjadaaVal
import Derived.WalkLawsBesides
import Derived.WalkSpells
import Derived.Lib.Hide
namespace Go.Proofs.Ytdngmceoicjadaa.Divs
open Go.RowKit Num Val
set_option maxHeartbeats 1000000 in
theorem walk_zero (a b : Int) (w : World) (h : wrap32 b = 0) :
    Calls Try.prog 3 #[.int .i64 a, .int .i64 b] w fun e w' => e = .returned (.bool true) ∧ w = w' := by
  have hb : (wrap32 b == 0) = true := by simpa using h
  have hd := fun w => div_no a b w hb
  have H := Lib.hid h
  clear h
  go_enter Try.func3, Try.ntmps3
  go_wp2_with (first
    | (go_at_call 15; refine (wrap_any _ _).mono ?_; rintro e w' ⟨rfl, rfl⟩)
    | (go_at_call 16; refine (hd _).mono ?_; rintro e w' ⟨rfl, rfl⟩)
    | (go_at_call 17; refine (awake_any _).mono ?_; rintro e w' ⟨rfl, rfl⟩))
  go_ret
  exact ⟨rfl, rfl⟩
set_option maxHeartbeats 1000000 in
theorem walk_big (a b : Int) (w : World) (h : wrap32 a = -2147483648) (h' : wrap32 b = -1) :
    Calls Try.prog 3 #[.int .i64 a, .int .i64 b] w fun e w' => e = .returned (.bool true) ∧ w = w' := by
  have hb : (wrap32 b == 0) = false := by rw [h']; rfl
  have hd := fun w => div_yes a b w hb
  have hq : divq a b = -2147483648 := by unfold divq; rw [h, h']; unfold wrap32; decide
  rw [hq] at hd
  clear hb hq
  go_enter Try.func3, Try.ntmps3
  go_wp2_with (first
    | (go_at_call 15; refine (wrap_any _ _).mono ?_; rintro e w' ⟨rfl, rfl⟩)
    | (go_at_call 16; refine (hd _).mono ?_; rintro e w' ⟨rfl, rfl⟩)
    | (go_at_call 17; refine (awake_any _).mono ?_; rintro e w' ⟨rfl, rfl⟩))
  go_ret
  exact ⟨rfl, rfl⟩
set_option maxHeartbeats 1000000 in
theorem walk_gen (a b : Int) (w : World) (h : wrap32 b ≠ 0) (h' : ¬ (wrap32 a = -2147483648 ∧ wrap32 b = -1)) :
    Calls Try.prog 3 #[.int .i64 a, .int .i64 b] w fun e w' => e = .returned (.bool true) ∧ w = w' := by
  have hb : (wrap32 b == 0) = false := by simpa using h
  have hd := fun w => div_yes a b w hb
  have l1 := w32_lo a
  have l2 := w32_hi a
  have l3 := w32_lo b
  have l4 := w32_hi b
  have l5 := divq_lo a b
  have l6 := divq_hi a b
  obtain ⟨r, h3, h4, h5, h6⟩ := tdiv_facts (wrap32 a) (wrap32 b) h
  rw [← divq_eq a b h'] at h3
  by_cases hc : wrap32 a = -2147483648
  all_goals by_cases hl : wrap32 a < wrap32 b
  all_goals first | (have hle := fun w => less_yes a b w hl) | (have hle := fun w => less_no a b w hl)
  all_goals
    go_enter Try.func3, Try.ntmps3
    go_wp2_with (first
      | (go_at_call 15; refine (wrap_any _ _).mono ?_; rintro e w' ⟨rfl, rfl⟩)
      | (go_at_call 16; refine (hd _).mono ?_; rintro e w' ⟨rfl, rfl⟩)
      | (go_at_call 17; refine (awake_any _).mono ?_; rintro e w' ⟨rfl, rfl⟩)
      | (go_at_call 18; refine (hle _).mono ?_; rintro e w' ⟨rfl, rfl⟩))
    all_goals
      go_ret
      first | exact ⟨rfl, rfl⟩ | exact ⟨ret_b (by simp; omega), rfl⟩
theorem walk (a b : Int) (w : World) :
    Calls Try.prog 3 #[.int .i64 a, .int .i64 b] w fun e w' => e = .returned (.bool true) ∧ w = w' := by
  by_cases h : wrap32 b = 0
  · exact walk_zero a b w h
  · by_cases h' : wrap32 a = -2147483648 ∧ wrap32 b = -1
    · exact walk_big a b w h'.1 h'.2
    · exact walk_gen a b w h h'
end Go.Proofs.Ytdngmceoicjadaa.Divs
