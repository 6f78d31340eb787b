/- The contracts of chapter 6's own answer: they are package key's. -/
import Derived.Test.YtonndofbnhnkpaaKeyX
import Derived.Test.YtonndofbnhnkpaaKeyP
namespace Go.Proofs.Ytonndofbnhnkpaa.Ref6
open Go.RowKit Num KeyM KeyW

theorem digit_any (k d : Int) (w : World) (h0 : 1 ≤ d) (h4 : d ≤ 5) :
    Calls Try.prog 74 #[.int .i64 k, .int .i64 d] w fun e w' => e = .returned (.int .i64 (dgi k (d - 1))) ∧ w = w' := by
  obtain rfl | rfl | rfl | rfl | rfl : d = 1 ∨ d = 2 ∨ d = 3 ∨ d = 4 ∨ d = 5 := by omega
  all_goals
    have hm := fun x => and_1023 x
    go_enter Try.func74, Try.ntmps74
    go_wp2
    go_ret
    exact ⟨ret_i (by simp [dgi, d0, d1, d2, d3, d4]), rfl⟩

theorem chk_range (k : Int) (h : k < 1125899906842624 ∨ 2251799813685248 ≤ k) : chk k = false := by
  cases hc : chk k
  · rfl
  · have := chk_lo hc; have := chk_hi hc; omega
set_option maxHeartbeats 1000000 in
theorem check_any (k : Int) (w : World) :
    Calls Try.prog 57 #[.int .i64 k] w fun e w' => e = .returned (.bool (chk k)) ∧ w = w' := by
  by_cases hr : k < 1125899906842624
  · have HC := Lib.hid (chk_range k (Or.inl hr))
    go_enter Try.func57, Try.ntmps57
    go_wp2_with fail
    go_ret
    exact ⟨ret_b HC.out.symm, rfl⟩
  by_cases hr' : 2251799813685248 ≤ k
  · have HC := Lib.hid (chk_range k (Or.inr hr'))
    go_enter Try.func57, Try.ntmps57
    go_wp2_with fail
    go_ret
    exact ⟨ret_b HC.out.symm, rfl⟩
  go_enter Try.func57, Try.ntmps57
  go_wp2_with fail
  go_loop [3, 4] (fun e c => ∃ (j : Nat) (b : Bool), j ≤ 5 ∧ c = .int .i64 (j + 1) ∧ e = .bool b ∧ Hid (b = decide ((0 : Int) < (j : Int) ∧ dgi k ((j : Int) - 1) = 0)) ∧ Hid (Pass k j)) (fun _ c => 6 - (intOf c).toNat)
  case atStart => exact ⟨0, false, by omega, rfl, rfl, rfl, pass_zero k⟩
  case round =>
    obtain ⟨j, b, hj, rfl, rfl, hb, hp⟩ := hrel
    by_cases hlt : j < 5
    · have l0 := dgi_lo k j
      have HB := chk_not_pass (k := k) (j := j) (by omega) (by omega)
      have HS := pass_step hp.out
      have e1 : ((j : Int) + 1) - 1 = j := by omega
      have hdg : ∀ w, Calls Try.prog 74 #[.int .i64 k, .int .i64 ((j : Int) + 1)] w fun e w' => e = .returned (.int .i64 (dgi k j)) ∧ w = w' := by
        intro w; have := digit_any k ((j : Int) + 1) w (by omega) (by omega); rw [e1] at this; exact this
      clear e1
      by_cases g : dgi k j ≤ 1000 ∧ (b = true → dgi k j = 0)
      · have HR : Hid ((dgi k j == 0) = decide (0 < ((j + 1 : Nat) : Int) ∧ dgi k (((j + 1 : Nat) : Int) - 1) = 0)) := end_next k j
        have HP : Hid (Pass k ((j + 1 : Nat) : Int)) := by
          have h := hb.out
          have := HS g.1 (fun a c => g.2 (by rw [h]; simp; omega))
          exact this
        obtain ⟨g1, g2⟩ := g
        clear HB HS hb hp
        cases b
        · by_cases gz : dgi k j = 0
          all_goals
            have gb : (dgi k j == 0) = decide (dgi k j = 0) := by rw [Bool.eq_iff_iff]; simp
            rw [gb] at HR
            go_wp2_with (go_at_call 74; refine (hdg _).mono ?_; rintro e w' ⟨rfl, rfl⟩)
            go_round
            case rel => exact ⟨j + 1, _, by omega, by go_num, by simp; rfl, by simpa [*] using HR, HP⟩
            case measure => simp [intOf]; omega
        · have gz := g2 rfl
          have HR' : Hid (true = decide (0 < ((j + 1 : Nat) : Int) ∧ dgi k (((j + 1 : Nat) : Int) - 1) = 0)) := by
            have h := HR.out; rw [gz] at h; exact h
          clear HR g2
          go_wp2_with (go_at_call 74; refine (hdg _).mono ?_; rintro e w' ⟨rfl, rfl⟩)
          go_round
          case rel => exact ⟨j + 1, true, by omega, by go_num, rfl, HR', HP⟩
          case measure => simp [intOf]; omega
      · have HC : Hid (chk k = false) := HB (fun h => g ⟨h.1, fun hb' => by
          have h1 := hb.out
          rw [hb'] at h1
          have h2 := of_decide_eq_true h1.symm
          exact h.2 h2.1 h2.2⟩)
        clear HB HS hb hp
        by_cases g1 : 1000 < dgi k j
        · go_wp2_with (go_at_call 74; refine (hdg _).mono ?_; rintro e w' ⟨rfl, rfl⟩)
          go_ret
          exact ⟨ret_b HC.out.symm, rfl⟩
        · have g2 : 0 < dgi k j := by
            rcases Int.lt_or_le 0 (dgi k j) with h | h
            · exact h
            · exact absurd ⟨by omega, fun _ => by omega⟩ g
          have g3 : b = true := by
            cases b
            · exact absurd ⟨by omega, fun h => by simp at h⟩ g
            · rfl
          subst g3
          clear g
          go_wp2_with (go_at_call 74; refine (hdg _).mono ?_; rintro e w' ⟨rfl, rfl⟩)
          go_ret
          exact ⟨ret_b HC.out.symm, rfl⟩
    · obtain rfl : j = 5 := by omega
      have HC : Hid (chk k = true) := (chk_pass k).2 ⟨hp.out, by omega⟩
      clear hb hp
      go_wp2_with fail
      go_ret
      exact ⟨ret_b HC.out.symm, rfl⟩
theorem depth_any (k : Int) (w : World) :
    Calls Try.prog 55 #[.int .i64 k] w fun e w' => e = .returned (.int .i64 (dep k)) ∧ w = w' := by
  cases hk : chk k
  · have HD : Hid (dep k = 0) := dep_none hk
    go_enter Try.func55, Try.ntmps55
    go_wp2_with (go_at_call 57; refine (check_any _ _).mono ?_; rintro e w1 ⟨rfl, rfl⟩)
    go_ret
    exact ⟨ret_i HD.out.symm, rfl⟩
  go_enter Try.func55, Try.ntmps55
  go_wp2_with (go_at_call 57; refine (check_any _ _).mono ?_; rintro e w1 ⟨rfl, rfl⟩)
  have hpos := fun (j : Nat) (h : j < 5) => dgi_pos (j := j) hk (by omega) (by omega)
  have h5 := dep_hi k
  have h0 := dep_lo k
  have HP := Lib.hid hpos
  clear hpos
  go_loop [3] (fun c => ∃ j : Nat, (j : Int) ≤ dep k ∧ c = .int .i64 j) (fun c => 5 - (intOf c).toNat)
  case atStart => exact ⟨0, h0, rfl⟩
  case round =>
    obtain ⟨j, hj, rfl⟩ := hrel
    by_cases hlt : j < 5
    · have hp := HP.out j hlt
      have e1 : ((j : Int) + 1) - 1 = j := by omega
      have hdg : ∀ w, Calls Try.prog 74 #[.int .i64 k, .int .i64 ((j : Int) + 1)] w fun e w' => e = .returned (.int .i64 (dgi k j)) ∧ w = w' := by
        intro w; have := digit_any k ((j : Int) + 1) w (by omega) (by omega); rw [e1] at this; exact this
      clear e1
      by_cases hd : (j : Int) < dep k
      · have hg : 0 < dgi k j := hp.2 hd
        clear hp
        go_wp2_with (go_at_call 74; refine (hdg _).mono ?_; rintro e w' ⟨rfl, rfl⟩)
        go_round
        case rel => exact ⟨j + 1, by omega, by go_num⟩
        case measure => simp [intOf]; omega
      · have hg : ¬ 0 < dgi k j := fun h => hd (hp.1 h)
        have HE : Hid ((j : Int) = dep k) := by show _ = _; omega
        clear hp
        go_wp2_with (go_at_call 74; refine (hdg _).mono ?_; rintro e w' ⟨rfl, rfl⟩)
        go_ret
        exact ⟨ret_i HE.out, rfl⟩
    · have HE : Hid ((j : Int) = dep k) := by show _ = _; omega
      go_wp2_with fail
      go_ret
      exact ⟨ret_i HE.out, rfl⟩
set_option maxHeartbeats 1000000 in
theorem child_yes (k n : Int) (w : World) (hk : chk k = true) (hd : dep k < 5) (h1 : 1 ≤ n) (h2 : n ≤ 1000) :
    Calls Try.prog 27 #[.int .i64 k, .int .i64 n] w fun e w' => e = .returned (.tuple #[.int .i64 (child k n), .bool true]) ∧ w = w' := by
  have h0 := dep_lo k
  have k1 := chk_lo hk
  have k2 := chk_hi hk
  obtain hj | hj | hj | hj | hj : dep k = 0 ∨ dep k = 1 ∨ dep k = 2 ∨ dep k = 3 ∨ dep k = 4 := by omega
  all_goals
    have HE : Hid (child k n = k + n * un (dep k)) := rfl
    rw [hj] at HE
    clear hd h0
    go_enter Try.func27, Try.ntmps27
    go_wp2_with (first | (go_at_call 55; refine (depth_any _ _).mono ?_; rintro e w1 ⟨rfl, rfl⟩) | (go_at_call 57; refine (check_any _ _).mono ?_; rintro e w2 ⟨rfl, rfl⟩))
    go_ret2
    exact ⟨ret_ib (by rw [HE.out]; simp [un]), rfl⟩
set_option maxHeartbeats 1000000 in
theorem child_no (k n : Int) (w : World) (h : can k n = false) :
    Calls Try.prog 27 #[.int .i64 k, .int .i64 n] w fun e w' => e = .returned (.tuple #[.int .i64 0, .bool false]) ∧ w = w' := by
  cases hk : chk k
  · clear h
    go_enter Try.func27, Try.ntmps27
    go_wp2_with (first | (go_at_call 55; refine (depth_any _ _).mono ?_; rintro e w1 ⟨rfl, rfl⟩) | (go_at_call 57; refine (check_any _ _).mono ?_; rintro e w2 ⟨rfl, rfl⟩))
    go_ret2
    exact ⟨rfl, rfl⟩
  · have h' : ¬ (dep k ≠ 5 ∧ 1 ≤ n ∧ n ≤ 1000) := by
      unfold can at h; rw [hk] at h; simpa using h
    have l1 := dep_lo k
    have l2 := dep_hi k
    by_cases h5 : 5 ≤ dep k
    · clear h h'
      go_enter Try.func27, Try.ntmps27
      go_wp2_with (first | (go_at_call 55; refine (depth_any _ _).mono ?_; rintro e w1 ⟨rfl, rfl⟩) | (go_at_call 57; refine (check_any _ _).mono ?_; rintro e w2 ⟨rfl, rfl⟩))
      go_ret2
      exact ⟨rfl, rfl⟩
    · by_cases g : n < 1
      all_goals
        have g' : n < 1 ∨ 1000 < n := by omega
        clear h h'
        go_enter Try.func27, Try.ntmps27
        go_wp2_with (first | (go_at_call 55; refine (depth_any _ _).mono ?_; rintro e w1 ⟨rfl, rfl⟩) | (go_at_call 57; refine (check_any _ _).mono ?_; rintro e w2 ⟨rfl, rfl⟩))
        go_ret2
        exact ⟨rfl, rfl⟩
theorem parent_no (k : Int) (w : World) (h : dep k = 0) :
    Calls Try.prog 45 #[.int .i64 k] w fun e w' => e = .returned (.tuple #[.int .i64 0, .int .i64 0, .bool false]) ∧ w = w' := by
  go_enter Try.func45, Try.ntmps45
  go_wp2_with (go_at_call 55; refine (depth_any _ _).mono ?_; rintro e w1 ⟨rfl, rfl⟩)
  go_ret3
  exact ⟨rfl, rfl⟩
set_option maxHeartbeats 1000000 in
theorem parent_yes (k : Int) (w : World) (h : dep k ≠ 0) :
    Calls Try.prog 45 #[.int .i64 k] w fun e w' => e = .returned (.tuple #[.int .i64 (parent k), .int .i64 (num k), .bool true]) ∧ w = w' := by
  have l1 := dep_lo k
  have l2 := dep_hi k
  have hk := chk_of_dep h
  have k1 := chk_lo hk
  have k2 := chk_hi hk
  obtain hj | hj | hj | hj | hj : dep k = 1 ∨ dep k = 2 ∨ dep k = 3 ∨ dep k = 4 ∨ dep k = 5 := by omega
  all_goals
    have HN : Hid (num k = k / un (dep k - 1) % 1024) := rfl
    have HE : Hid (parent k = k - num k * un (dep k - 1)) := rfl
    rw [hj] at HE HN
    clear h l1 l2 hk
    go_enter Try.func45, Try.ntmps45
    go_wp2_with (first | (go_at_call 55; refine (depth_any _ _).mono ?_; rintro e w1 ⟨rfl, rfl⟩) | (go_at_call 74; refine (digit_any _ _ _ (by omega) (by omega)).mono ?_; rintro e w2 ⟨rfl, rfl⟩))
    go_ret3
    exact ⟨ret_iib (by rw [HE.out, HN.out]; simp [un, dgi, d0, d1, d2, d3, d4]; unfold wrap64; omega) (by rw [HN.out]; simp [un, dgi, d0, d1, d2, d3, d4]), rfl⟩
set_option maxHeartbeats 1000000 in
theorem under_any (a b : Int) (w : World) :
    Calls Try.prog 58 #[.int .i64 a, .int .i64 b] w fun e w' => e = .returned (.bool (under a b)) ∧ w = w' := by
  go_enter Try.func58, Try.ntmps58
  go_wp2_with fail
  go_loop [0] (fun x => ∃ y, x = .int .i64 y ∧ Hid (under a b = under y b)) (fun x => (dep (intOf x)).toNat)
  case atStart => exact ⟨a, rfl, rfl⟩
  case round =>
    obtain ⟨y, rfl, hu⟩ := hrel
    by_cases h : dep y = 0
    · have HU : Hid (under a b = false) := by show _ = _; rw [hu.out]; exact under_root h
      clear hu
      go_wp2_with (go_at_call 45; refine (parent_no _ _ h).mono ?_; rintro e w1 ⟨rfl, rfl⟩)
      go_ret
      exact ⟨ret_b HU.out.symm, rfl⟩
    · have hp := under_parent (b := b) h
      have hl := dep_lo y
      obtain ⟨_, hd⟩ := parent_dep h
      cases g : parent y == b
      · have HU : Hid (under a b = under (parent y) b) := by show _ = _; rw [hu.out, hp, g]; rfl
        have HM := Lib.hid hd
        have HH := Lib.hid h
        clear hu hp hd
        go_wp2_with (go_at_call 45; refine (parent_yes _ _ h).mono ?_; rintro e w1 ⟨rfl, rfl⟩)
        go_round
        case rel => exact ⟨_, rfl, HU⟩
        case measure =>
          have := HM.out
          have := HH.out
          simp only [intOf]; omega
      · have HU : Hid (under a b = true) := by show _ = _; rw [hu.out, hp, g]; rfl
        clear hu hp hd
        go_wp2_with (go_at_call 45; refine (parent_yes _ _ h).mono ?_; rintro e w1 ⟨rfl, rfl⟩)
        go_ret
        exact ⟨ret_b HU.out.symm, rfl⟩
theorem under_self (a : Int) : under a a = false := by
  unfold under; cases chk a <;> simp
set_option maxHeartbeats 2000000 in
theorem ahead_any (a b : Int) (w : World) :
    Calls Try.prog 28 #[.int .i64 a, .int .i64 b] w fun e w' => e = .returned (.bool (KeyM.ahead a b)) ∧ w = w' := by
  by_cases he : a = b
  · subst he
    have HA : Hid (KeyM.ahead a a = false) := by
      show _ = _
      unfold KeyM.ahead; rw [under_self]; cases chk a <;> simp
    cases ha : chk a
    all_goals
      go_enter Try.func28, Try.ntmps28
      go_wp2_with (first | (go_at_call 57; refine (check_any _ _).mono ?_; rintro e w2 ⟨rfl, rfl⟩))
      go_ret
      exact ⟨ret_b HA.out.symm, rfl⟩
  · have HA : Hid (KeyM.ahead a b = (chk a && chk b && !under b a && (under a b || decide (a < b)))) := rfl
    have hu1 : under a b = true → under b a = false := by
      intro h
      unfold under at *
      cases chk a <;> cases chk b <;> simp at *
      omega
    have h3 : (under b a = false ∧ under a b = false) ∨ (under b a = false ∧ under a b = true) ∨ (under b a = true ∧ under a b = false) := by
      cases h : under a b
      · cases under b a <;> simp
      · rw [hu1 h]; simp
    have he' : (a == b) = false := by simpa using he
    clear hu1 he
    cases ha : chk a <;> cases hb : chk b <;> rcases h3 with ⟨hu, hu'⟩ | ⟨hu, hu'⟩ | ⟨hu, hu'⟩
    all_goals
      rw [ha, hb, hu, hu'] at HA
      go_enter Try.func28, Try.ntmps28
      go_wp2_with (first | (go_at_call 57; refine (check_any _ _).mono ?_; rintro e w2 ⟨rfl, rfl⟩) | (go_at_call 58; refine (under_any _ _ _).mono ?_; rintro e w2 ⟨rfl, rfl⟩))
      go_ret
      exact ⟨ret_b (by rw [HA.out]; simp), rfl⟩
end Go.Proofs.Ytonndofbnhnkpaa.Ref6
