/- KeyAll: the walk. -/
import Derived.Test.YtdngmceoicjadaaRef6
namespace Go.Proofs.Ytdngmceoicjadaa.KeyAll
open Go.RowKit Num KeyM KeyW
set_option maxHeartbeats 1000000 in
theorem awake_any (w : World) : Calls Try.prog 29 #[] w fun e w' => e = .returned (.bool true) ∧ Bl w w' := by
  have h1 : chk 1125899906842624 = true := by decide +kernel
  have h2 : dep 1125899906842624 < 5 := by decide +kernel
  have h3 : child 1125899906842624 1 = 1126999418470400 := by decide +kernel
  have h4 : under 1126999418470400 1125899906842624 = true := by decide +kernel
  have h5 : KeyM.ahead 1126999418470400 1125899906842624 = true := by decide +kernel
  have h6 : dep 1126999418470400 = 1 := by decide +kernel
  have hC := fun w => child_yes 1125899906842624 1 w h1 h2 (by decide) (by decide)
  rw [h3] at hC
  clear h1 h2 h3
  go_enter Try.func29, Try.ntmps29
  go_wp2_with (first
    | (go_at_call 31; refine (hC _).mono ?_; rintro e w2 ⟨rfl, hb2⟩)
    | (go_at_call 40; refine (KeyW.under_any _ _ _).mono ?_; rintro e w2 ⟨rfl, hb2⟩)
    | (go_at_call 32; refine (KeyW.ahead_any _ _ _).mono ?_; rintro e w2 ⟨rfl, hb2⟩)
    | (go_at_call 38; refine (KeyW.depth_any _ _).mono ?_; rintro e w2 ⟨rfl, hb2⟩))
  go_ret
  exact ⟨rfl, by repeat (first | exact Bl.refl _ | assumption | apply Bl.drewN | apply Bl.alloc | refine Bl.trans ?_ (by assumption))⟩
set_option maxHeartbeats 4000000 in
theorem walk (a b n : Int) (w : World) :
    Calls Try.prog 10 #[.int .i64 a, .int .i64 b, .int .i64 n] w fun e w' => e = .returned (.bool true) ∧ Bl w w' := by
  have hc : ∃ v c, (∀ w, Calls Try.prog 31 #[.int .i64 a, .int .i64 n] w fun e w' => e = .returned (.tuple #[.int .i64 v, .bool c]) ∧ Bl w w') ∧
      (∀ w, Calls Try.prog 33 #[.int .i64 a, .int .i64 n] w fun e w' => e = .returned (.tuple #[.int .i64 v, .bool c]) ∧ w = w') := by
    cases h : can a n
    · exact ⟨_, _, fun w => KeyW.child_no a n w h, fun w => Ref6.child_no a n w h⟩
    · unfold can at h
      simp only [Bool.and_eq_true, decide_eq_true_iff] at h
      obtain ⟨h1, h2, h3, h4⟩ := h
      have := dep_hi a
      exact ⟨_, _, fun w => KeyW.child_yes a n w h1 (by omega) h3 h4, fun w => Ref6.child_yes a n w h1 (by omega) h3 h4⟩
  have hp : ∃ v u c, (∀ w, Calls Try.prog 34 #[.int .i64 a] w fun e w' => e = .returned (.tuple #[.int .i64 v, .int .i64 u, .bool c]) ∧ Bl w w') ∧
      (∀ w, Calls Try.prog 35 #[.int .i64 a] w fun e w' => e = .returned (.tuple #[.int .i64 v, .int .i64 u, .bool c]) ∧ w = w') := by
    by_cases h : dep a = 0
    · exact ⟨_, _, _, fun w => KeyW.parent_no a w h, fun w => Ref6.parent_no a w h⟩
    · exact ⟨_, _, _, fun w => KeyW.parent_yes a w h, fun w => Ref6.parent_yes a w h⟩
  obtain ⟨v, c, hc, hc'⟩ := hc
  obtain ⟨x, y, z, hp, hp'⟩ := hp
  go_enter Try.func10, Try.ntmps10
  go_wp2_with (first
    | (go_at_call 31; refine (hc _).mono ?_; rintro e w2 ⟨rfl, hb2⟩)
    | (go_at_call 33; refine (hc' _).mono ?_; rintro e w2 ⟨rfl, rfl⟩)
    | (go_at_call 34; refine (hp _).mono ?_; rintro e w2 ⟨rfl, hb2⟩)
    | (go_at_call 35; refine (hp' _).mono ?_; rintro e w2 ⟨rfl, rfl⟩)
    | (go_at_call 36; refine (KeyW.check_any _ _).mono ?_; rintro e w2 ⟨rfl, hb2⟩)
    | (go_at_call 37; refine (Ref6.check_any _ _).mono ?_; rintro e w2 ⟨rfl, rfl⟩)
    | (go_at_call 38; refine (KeyW.depth_any _ _).mono ?_; rintro e w2 ⟨rfl, hb2⟩)
    | (go_at_call 39; refine (Ref6.depth_any _ _).mono ?_; rintro e w2 ⟨rfl, rfl⟩)
    | (go_at_call 40; refine (KeyW.under_any _ _ _).mono ?_; rintro e w2 ⟨rfl, hb2⟩)
    | (go_at_call 41; refine (Ref6.under_any _ _ _).mono ?_; rintro e w2 ⟨rfl, rfl⟩)
    | (go_at_call 32; refine (KeyW.ahead_any _ _ _).mono ?_; rintro e w2 ⟨rfl, hb2⟩)
    | (go_at_call 42; refine (Ref6.ahead_any _ _ _).mono ?_; rintro e w2 ⟨rfl, rfl⟩)
    | (go_at_call 29; refine (awake_any _).mono ?_; rintro e w2 ⟨rfl, hb2⟩))
  go_ret
  exact ⟨rfl, by repeat (first | exact Bl.refl _ | assumption | apply Bl.drewN | apply Bl.alloc | refine Bl.trans ?_ (by assumption))⟩
end Go.Proofs.Ytdngmceoicjadaa.KeyAll
