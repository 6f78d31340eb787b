/- ValuePowers, ValueOrders: the walks. -/
import Derived.Test.YtdngmceoicjadaaVal
namespace Go.Proofs.Ytdngmceoicjadaa.Pow
open Go.RowKit Num Val
theorem w_pow (q : Int) (k : Nat) : wrap32 ((wrap32 q) ^ k) = wrap32 (q ^ k) := by
  induction k with
  | zero => rw [Int.pow_zero, Int.pow_zero]
  | succ k ih =>
    rw [Int.pow_succ, Int.pow_succ, w_mul_r, ← w_mul_l, ih, w_mul_l]
theorem odd_step (X Y : Int) (k : Nat) : wrap32 (mul X Y * (mul Y Y) ^ k) = wrap32 (X * Y ^ (2 * k + 1)) := by
  rw [mul_eq, mul_eq, w_mul_l, ← w_mul_r, w_pow, w_mul_r]
  have : X * Y * (Y * Y) ^ k = X * Y ^ (2 * k + 1) := by
    rw [Int.mul_pow, ← Int.pow_add, Int.mul_assoc, show Y ^ (2 * k + 1) = Y * Y ^ (k + k) by rw [show 2 * k + 1 = (k + k) + 1 by omega, Int.pow_succ, Int.mul_comm]]
  rw [this]
theorem even_step (X Y : Int) (k : Nat) : wrap32 (X * (mul Y Y) ^ k) = wrap32 (X * Y ^ (2 * k)) := by
  rw [mul_eq, ← w_mul_r, w_pow, w_mul_r]
  have : X * (Y * Y) ^ k = X * Y ^ (2 * k) := by
    rw [Int.mul_pow, ← Int.pow_add, show 2 * k = k + k by omega]
  rw [this]
theorem want_step (a v : Int) (j : Nat) (h : wrap32 v = wrap32 (a ^ j)) : wrap32 (mul v a) = wrap32 (a ^ (j + 1)) := by
  rw [mul_eq, w32_32, Int.pow_succ, ← w_mul_l, h, w_mul_l]
set_option maxHeartbeats 2000000 in
theorem powers (a n : Int) (w : World) :
    Calls Try.prog 4 #[.int .i64 a, .int .i64 n] w fun e w' => e = .returned (.bool true) ∧ w = w' := by
  obtain ⟨K, hK, hK'⟩ : ∃ K : Nat, n % 60 = K ∧ K < 60 := ⟨(n % 60).toNat, by omega, by omega⟩
  have hp : ∀ w, Calls Try.prog 19 #[.int .i64 n, .int .i64 60] w fun e w' => e = .returned (.int .i64 K) ∧ w = w' := by
    intro w; rw [← hK]; exact place_any n 60 w (by omega) (by omega)
  clear hK
  go_enter Try.func4, Try.ntmps4
  go_wp2_with (first
    | (go_at_call 19; refine (hp _).mono ?_; rintro e w' ⟨rfl, rfl⟩))
  go_loop [6, 7] (fun want i => ∃ j : Nat, j ≤ K ∧ i = .int .i64 j ∧ ∃ v, want = .int .i64 v ∧ wrap32 v = wrap32 (a ^ j)) (fun _ i => K - (intOf i).toNat)
  case atStart => exact ⟨0, Nat.zero_le _, rfl, 1, rfl, by rw [Int.pow_zero]⟩
  case round =>
    obtain ⟨j, hj, rfl, v, rfl, hv⟩ := hrel
    have HV := Lib.hid hv
    clear hv
    by_cases hlt : j < K
    · go_wp2_with (first
        | (go_at_call 20; refine (mul_any _ _ _).mono ?_; rintro e w' ⟨rfl, rfl⟩))
      go_round
      case rel => exact ⟨j + 1, by omega, by go_num, _, rfl, want_step a v j HV.out⟩
      case measure => simp [intOf]; omega
    · obtain rfl : j = K := by omega
      go_wp2_with (first
        | (go_at_call 15; refine (Val.wrap_any _ _).mono ?_; rintro e w' ⟨rfl, rfl⟩))
      go_loop [8, 9, 10] (fun x y m => ∃ (X Y : Int) (M : Nat), M ≤ 60 ∧ x = .int .i64 X ∧ y = .int .i64 Y ∧ m = .int .i64 M ∧ Hid (wrap32 X = X ∧ wrap32 (X * Y ^ M) = wrap32 (a ^ j))) (fun _ _ m => (intOf m).toNat)
      case atStart => exact ⟨1, wrap32 a, j, by omega, rfl, rfl, rfl, by unfold wrap32; omega, by rw [Int.one_mul, w_pow]⟩
      case round =>
        obtain ⟨X, Y, M, hM, rfl, rfl, rfl, H⟩ := hrel
        by_cases hm : 0 < M
        · rcases Nat.mod_two_eq_zero_or_one M with h2 | h2
          · have h3 : ((M : Int) % 2 == 1) = false := by simp; omega
            have h4 : M = 2 * (M / 2) := by omega
            generalize M / 2 = k at h4
            have hk : (M : Int) / 2 = k := by omega
            have H2 : Hid (wrap32 X = X ∧ wrap32 (X * (mul Y Y) ^ k) = wrap32 (a ^ j)) := ⟨H.out.1, by rw [even_step, ← h4]; exact H.out.2⟩
            have h5 : k < M := by omega
            clear h4 h2 H
            go_wp2_with (first
              | (go_at_call 20; refine (mul_any _ _ _).mono ?_; rintro e w' ⟨rfl, rfl⟩))
            go_round
            case rel => exact ⟨_, _, k, by omega, rfl, rfl, rfl, H2⟩
            case measure => simp [intOf]; omega
          · have h3 : ((M : Int) % 2 == 1) = true := by simp; omega
            have h4 : M = 2 * (M / 2) + 1 := by omega
            generalize M / 2 = k at h4
            have hk : (M : Int) / 2 = k := by omega
            have H2 : Hid (wrap32 (mul X Y) = mul X Y ∧ wrap32 (mul X Y * (mul Y Y) ^ k) = wrap32 (a ^ j)) := ⟨w32_32 _, by rw [odd_step, ← h4]; exact H.out.2⟩
            have h5 : k < M := by omega
            clear h4 h2 H
            go_wp2_with (first
              | (go_at_call 20; refine (mul_any _ _ _).mono ?_; rintro e w' ⟨rfl, rfl⟩))
            go_round
            case rel => exact ⟨_, _, k, by omega, rfl, rfl, rfl, H2⟩
            case measure => simp [intOf]; omega
        · obtain rfl : M = 0 := by omega
          have hx : wrap32 v = X := by
            have h := H.out.2
            rw [Int.pow_zero, Int.mul_one, H.out.1] at h
            rw [HV.out]; exact h.symm
          clear H HV
          go_wp2_with (first
            | (go_at_call 15; refine (Val.wrap_any _ _).mono ?_; rintro e w' ⟨rfl, rfl⟩)
            | (go_at_call 17; refine (awake_any _).mono ?_; rintro e w' ⟨rfl, rfl⟩))
          go_ret
          exact ⟨rfl, rfl⟩
theorem small (a : Int) : -536870912 ≤ a % 1073741824 - 536870912 ∧ a % 1073741824 - 536870912 ≤ 536870911 := by omega
theorem tm (x : Int) : -29999 ≤ x.tmod 30000 ∧ x.tmod 30000 ≤ 29999 := by
  have h : (x.tmod 30000).natAbs < (30000 : Int).natAbs := by rw [Int.natAbs_tmod]; exact Nat.mod_lt _ (by decide)
  have h' : (30000 : Int).natAbs = 30000 := rfl
  omega
theorem mul_small (x y : Int) (hx : -29999 ≤ x ∧ x ≤ 29999) (hy : -29999 ≤ y ∧ y ≤ 29999) : mul x y = wrap64 (x * y) := by
  have h : (x * y).natAbs ≤ 29999 * 29999 := by rw [Int.natAbs_mul]; exact Nat.mul_le_mul (by omega) (by omega)
  have h1 : -899940001 ≤ x * y ∧ x * y ≤ 899940001 := by omega
  rw [mul_eq, w32_in _ (by omega) (by omega)]
  unfold wrap64; omega
set_option maxHeartbeats 4000000 in
theorem orders (a b c : Int) (w : World) :
    Calls Try.prog 7 #[.int .i64 a, .int .i64 b, .int .i64 c] w fun e w' => e = .returned (.bool true) ∧ w = w' := by
  have l1 := Int.emod_nonneg a (b := 1073741824) (by omega)
  have l2 := Int.emod_lt_of_pos a (b := 1073741824) (by omega)
  have l3 := Int.emod_nonneg b (b := 1073741824) (by omega)
  have l4 := Int.emod_lt_of_pos b (b := 1073741824) (by omega)
  have f1 : add (a % 1073741824 - 536870912) (b % 1073741824 - 536870912) = a % 1073741824 - 536870912 + (b % 1073741824 - 536870912) := by
    rw [add_eq, w32_in _ (by omega) (by omega)]
  have f2 : sub (a % 1073741824 - 536870912) (b % 1073741824 - 536870912) = a % 1073741824 - 536870912 - (b % 1073741824 - 536870912) := by
    rw [sub_eq, w32_in _ (by omega) (by omega)]
  have f3 : (lessv (a % 1073741824 - 536870912) (b % 1073741824 - 536870912) == 1) = decide (a % 1073741824 < b % 1073741824) := by
    rw [Bool.eq_iff_iff, beq_iff_eq, lessv_small _ _ (by omega) (by omega) (by omega) (by omega), decide_eq_true_iff]; omega
  have f4 := mul_small _ _ (tm (a % 1073741824 - 536870912)) (tm (b % 1073741824 - 536870912))
  have e1 := lessv_self a
  have e2 := lessv_sum a b
  have q1 : 0 ≤ lessv a b := by rcases lessv_or a b with h | h <;> omega
  have q2 : 0 ≤ lessv b a := by rcases lessv_or b a with h | h <;> omega
  have hab : (lessv a b == 1) = false ∨ ((lessv a b == 1) = true ∧ (lessv b c == 1) = false) ∨ ((lessv a b == 1) = true ∧ (lessv b c == 1) = true ∧ (lessv a c != 1) = false) := by
    by_cases h : lessv a b = 1
    · by_cases h' : lessv b c = 1
      · exact Or.inr (Or.inr ⟨by simp [h], by simp [h'], by simp [lessv_trans a b c h h']⟩)
      · exact Or.inr (Or.inl ⟨by simp [h], by simp [h']⟩)
    · exact Or.inl (by simp [h])
  rcases hab with h | ⟨h, h'⟩ | ⟨h, h', h''⟩
  all_goals
    go_enter Try.func7, Try.ntmps7
    go_wp2_with (first
      | (go_at_call 18; refine (less_any _ _ _).mono ?_; rintro e w' ⟨rfl, rfl⟩)
      | (go_at_call 15; refine (Val.wrap_any _ _).mono ?_; rintro e w' ⟨rfl, rfl⟩)
      | (go_at_call 23; refine (add_any _ _ _).mono ?_; rintro e w' ⟨rfl, rfl⟩)
      | (go_at_call 25; refine (sub_any _ _ _).mono ?_; rintro e w' ⟨rfl, rfl⟩)
      | (go_at_call 20; refine (mul_any _ _ _).mono ?_; rintro e w' ⟨rfl, rfl⟩)
      | (go_at_call 19; refine (place_any _ _ _ (by omega) (by omega)).mono ?_; rintro e w' ⟨rfl, rfl⟩)
      | (go_at_call 17; refine (awake_any _).mono ?_; rintro e w' ⟨rfl, rfl⟩))
    all_goals
      go_ret
      exact ⟨rfl, rfl⟩
end Go.Proofs.Ytdngmceoicjadaa.Pow
