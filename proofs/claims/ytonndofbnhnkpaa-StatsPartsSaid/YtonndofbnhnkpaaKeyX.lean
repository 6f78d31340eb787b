/- The contracts of package key's Child, Parent, Under, Ahead, at any integers. -/
import Derived.Test.YtonndofbnhnkpaaKeyW
namespace Go.Proofs.Ytonndofbnhnkpaa.KeyW
open Go.RowKit Num KeyM

theorem chk_lo {k : Int} (h : chk k = true) : 1125899906842624 ≤ k := by have o := ok_of_chk h; have := o.eq; have := o.a0; have := o.b0; have := o.c0; have := o.d0; have := o.e0; omega
theorem chk_hi {k : Int} (h : chk k = true) : k < 2251799813685248 := by
  have o := ok_of_chk h; have := o.eq; have := o.a1; have := o.b1; have := o.c1; have := o.d1; have := o.e1; omega
theorem ret_ib {a b : Int} {c : Bool} (h : a = b) : Ending.returned (.tuple #[.int .i64 a, .bool c]) = .returned (.tuple #[.int .i64 b, .bool c]) := by rw [h]
theorem ret_iib {a b a' b' : Int} {c : Bool} (h : a = b) (h' : a' = b') : Ending.returned (.tuple #[.int .i64 a, .int .i64 a', .bool c]) = .returned (.tuple #[.int .i64 b, .int .i64 b', .bool c]) := by rw [h, h']

set_option maxHeartbeats 1000000 in
theorem child_yes (k n : Int) (w : World) (hk : chk k = true) (hd : dep k < 5) (h1 : 1 ≤ n) (h2 : n ≤ 1000) :
    Calls Try.prog 120 #[.int .i64 k, .int .i64 n] w fun e w' => e = .returned (.tuple #[.int .i64 (child k n), .bool true]) ∧ Bl w w' := by
  have h0 := dep_lo k
  have k1 := chk_lo hk
  have k2 := chk_hi hk
  obtain hj | hj | hj | hj | hj : dep k = 0 ∨ dep k = 1 ∨ dep k = 2 ∨ dep k = 3 ∨ dep k = 4 := by omega
  all_goals
    have hD := fun w => depth_any k w
    have hC := fun w => check_any k w
    have HE : Hid (child k n = k + n * un (dep k)) := rfl
    rw [hj] at hD HE
    rw [hk] at hC
    clear hj hk hd h0
    go_enter Try.func120, Try.ntmps120
    go_wp2_with (first | (go_at_call 85; refine (hD _).mono ?_; rintro e w1 ⟨rfl, hb1⟩) | (go_at_call 86; refine (hC _).mono ?_; rintro e w2 ⟨rfl, hb2⟩) | (go_at_call 119; refine (place_any _ _ (by omega) (by omega)).mono ?_; rintro e w3 ⟨rfl, rfl⟩))
    go_ret2
    exact ⟨ret_ib (by rw [HE.out]; simp [un]), Bl.trans hb1 hb2⟩

set_option maxHeartbeats 1000000 in
theorem child_no (k n : Int) (w : World) (h : can k n = false) :
    Calls Try.prog 120 #[.int .i64 k, .int .i64 n] w fun e w' => e = .returned (.tuple #[.int .i64 0, .bool false]) ∧ Bl w w' := by
  have hD := fun w => depth_any k w
  have hC := fun w => check_any k w
  cases hk : chk k
  · rw [hk] at hC
    have h0 := dep_none hk
    rw [h0] at hD
    clear hk h0 h
    go_enter Try.func120, Try.ntmps120
    go_wp2_with (first | (go_at_call 85; refine (hD _).mono ?_; rintro e w1 ⟨rfl, hb1⟩) | (go_at_call 86; refine (hC _).mono ?_; rintro e w2 ⟨rfl, hb2⟩))
    go_ret2
    exact ⟨rfl, Bl.trans hb1 hb2⟩
  · rw [hk] at hC
    have h' : ¬ (dep k ≠ 5 ∧ 1 ≤ n ∧ n ≤ 1000) := by
      unfold can at h; rw [hk] at h; simpa using h
    have l1 := dep_lo k
    have l2 := dep_hi k
    by_cases h5 : dep k = 5
    · rw [h5] at hD
      clear h h' h5 hk
      go_enter Try.func120, Try.ntmps120
      go_wp2_with (first | (go_at_call 85; refine (hD _).mono ?_; rintro e w1 ⟨rfl, hb1⟩) | (go_at_call 86; refine (hC _).mono ?_; rintro e w2 ⟨rfl, hb2⟩))
      go_ret2
      exact ⟨rfl, Bl.trans hb1 hb2⟩
    · have hz : (dep k == 5) = false := by simpa using h5
      by_cases g : n < 1
      all_goals
        have g' : n < 1 ∨ 1000 < n := by omega
        clear h h' hk
        go_enter Try.func120, Try.ntmps120
        go_wp2_with (first | (go_at_call 85; refine (hD _).mono ?_; rintro e w1 ⟨rfl, hb1⟩) | (go_at_call 86; refine (hC _).mono ?_; rintro e w2 ⟨rfl, hb2⟩))
        go_ret2
        exact ⟨rfl, Bl.trans hb1 hb2⟩

set_option maxHeartbeats 2000000 in
theorem under_none (a b : Int) (w : World) (h : chk a = false ∨ (chk a = true ∧ chk b = false) ∨ (chk a = true ∧ chk b = true ∧ dep a ≤ dep b)) :
    Calls Try.prog 87 #[.int .i64 a, .int .i64 b] w fun e w' => e = .returned (.bool false) ∧ Bl w w' := by
  rcases h with ha | ⟨ha, hb⟩ | ⟨ha, hb, hd⟩
  · go_enter Try.func87, Try.ntmps87
    go_wp2_with (first | (go_at_call 86; refine (check_any _ _).mono ?_; rintro e w2 ⟨rfl, hb2⟩))
    go_ret
    exact ⟨rfl, hb2⟩
  · go_enter Try.func87, Try.ntmps87
    go_wp2_with (first | (go_at_call 86; refine (check_any _ _).mono ?_; rintro e w2 ⟨rfl, hb2⟩))
    go_ret
    exact ⟨rfl, by repeat (first | exact Bl.refl _ | assumption | apply Bl.drewN | apply Bl.alloc | refine Bl.trans ?_ (by assumption))⟩
  · go_enter Try.func87, Try.ntmps87
    go_wp2_with (first | (go_at_call 86; refine (check_any _ _).mono ?_; rintro e w2 ⟨rfl, hb2⟩) | (go_at_call 85; refine (depth_any _ _).mono ?_; rintro e w2 ⟨rfl, hb2⟩))
    go_ret
    exact ⟨rfl, by repeat (first | exact Bl.refl _ | assumption | apply Bl.drewN | apply Bl.alloc | refine Bl.trans ?_ (by assumption))⟩
set_option maxHeartbeats 2000000 in
theorem under_some (a b : Int) (w : World) (ha : chk a = true) (hb : chk b = true) (hd : dep b < dep a) :
    Calls Try.prog 87 #[.int .i64 a, .int .i64 b] w fun e w' => e = .returned (.bool (a / up (dep b) == b / up (dep b))) ∧ Bl w w' := by
  have a1 := chk_lo ha
  have a2 := chk_hi ha
  have b1 := chk_lo hb
  have b2 := chk_hi hb
  have l1 := dep_lo b
  have l2 := dep_hi a
  obtain hj | hj | hj | hj | hj : dep b = 0 ∨ dep b = 1 ∨ dep b = 2 ∨ dep b = 3 ∨ dep b = 4 := by omega
  all_goals
      have HU : Hid ((a / up (dep b) == b / up (dep b)) = (a / up (dep b) == b / up (dep b))) := rfl
      rw (occs := .pos [3, 4]) [hj] at HU
      go_enter Try.func87, Try.ntmps87
      go_wp2_with (first | (go_at_call 86; refine (check_any _ _).mono ?_; rintro e w2 ⟨rfl, hb2⟩) | (go_at_call 85; refine (depth_any _ _).mono ?_; rintro e w2 ⟨rfl, hb2⟩) | (go_at_call 119; refine (place_any _ _ (by omega) (by omega)).mono ?_; rintro e w5 ⟨rfl, rfl⟩))
      go_quiet (fail)
      go_wp2
      go_ret
      exact ⟨ret_b (by rw [HU.out]; simp [up, un]), by repeat (first | exact Bl.refl _ | assumption | apply Bl.drewN | apply Bl.alloc | refine Bl.trans ?_ (by assumption))⟩
theorem under_any (a b : Int) (w : World) :
    Calls Try.prog 87 #[.int .i64 a, .int .i64 b] w fun e w' => e = .returned (.bool (under a b)) ∧ Bl w w' := by
  by_cases h : chk a = true ∧ chk b = true ∧ dep b < dep a
  · obtain ⟨ha, hb, hd⟩ := h
    have hu : under a b = (a / up (dep b) == b / up (dep b)) := by
      unfold under; rw [ha, hb, Bool.eq_iff_iff, beq_iff_eq]; simp; omega
    rw [hu]; exact under_some a b w ha hb hd
  · have hu : under a b = false := by
      unfold under
      cases ha : chk a <;> cases hb : chk b <;> simp
      simp [ha, hb] at h; omega
    rw [hu]
    apply under_none
    cases ha : chk a <;> cases hb : chk b <;> simp
    simp [ha, hb] at h; omega

set_option maxHeartbeats 2000000 in
theorem ahead_any (a b : Int) (w : World) :
    Calls Try.prog 56 #[.int .i64 a, .int .i64 b] w fun e w' => e = .returned (.bool (KeyM.ahead a b)) ∧ Bl w w' := by
  have HA : Hid (KeyM.ahead a b = (chk a && chk b && !under b a && (under a b || decide (a < b)))) := rfl
  cases ha : chk a <;> cases hb : chk b <;> cases hu : under b a <;> cases hu' : under a b
  all_goals
    rw [ha, hb, hu, hu'] at HA
    go_enter Try.func56, Try.ntmps56
    go_wp2_with (first | (go_at_call 86; refine (check_any _ _).mono ?_; rintro e w2 ⟨rfl, hb2⟩) | (go_at_call 87; refine (under_any _ _ _).mono ?_; rintro e w2 ⟨rfl, hb2⟩))
    go_ret
    exact ⟨ret_b (by rw [HA.out]; simp), by repeat (first | exact Bl.refl _ | assumption | apply Bl.drewN | apply Bl.alloc | refine Bl.trans ?_ (by assumption))⟩
end Go.Proofs.Ytonndofbnhnkpaa.KeyW
