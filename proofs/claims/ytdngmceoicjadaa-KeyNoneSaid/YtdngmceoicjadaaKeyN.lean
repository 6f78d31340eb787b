/- KeyNone: the walk. -/
import Derived.Test.YtdngmceoicjadaaKeyL
namespace Go.Proofs.Ytdngmceoicjadaa.KeyN
open Go.RowKit Num KeyM KeyW KeyL Frm
theorem chk_out (k : Int) (h : k < 1125899906842624 ∨ 2251799813685248 ≤ k) : chk k = false := Ref6.chk_range k h
theorem none_neg {k : Int} (h : chk k = true) : chk (-k) = false := chk_out _ (by have := chk_lo h; omega)
theorem none_big {k : Int} (h : chk k = true) : chk (k + 1125899906842624) = false := chk_out _ (by have := chk_lo h; omega)
theorem none_last {n : Int} (h0 : 1 ≤ n) (h1 : n ≤ 20) : chk (1125899906843625 + n) = false := by
  unfold chk; rw [decide_eq_false_iff_not]; rintro ⟨_, _, _, _, _, h, _⟩; unfold d4 at h; omega
theorem none_first : chk 2250700302057472 = false := by decide +kernel
theorem none_small {n : Int} (h1 : n ≤ 20) : chk n = false := chk_out _ (by omega)
set_option maxRecDepth 100000 in
set_option maxHeartbeats 4000000 in
theorem core (a : Option Addr) (la ca : Nat) (how v k : Int) (w : World) (ck : chk k = true)
    (hk : ∀ w', Bl w w' → Calls Try.prog 30 #[.slice a la ca] w' fun e w'' => e = .returned (.int .i64 k) ∧ Bl w' w'') :
    Calls Try.prog 13 #[.slice a la ca, .int .i64 how, .int .i64 v] w fun e w' => e = .returned (.bool true) ∧ Bl w w' := by
  have l1 := Int.emod_nonneg how (b := 5) (by decide)
  have l2 := Int.emod_lt_of_pos how (b := 5) (by decide)
  have l3 := Int.emod_nonneg v (b := 20) (by decide)
  have l4 := Int.emod_lt_of_pos v (b := 20) (by decide)
  have k1 := chk_lo ck
  have k2 := chk_hi ck
  have hp := fun w => Val.place_any how 5 w (by decide) (by decide)
  have hv := fun w => Val.place_any v 20 w (by decide) (by decide)
  have hc0 := fun w => child_no k 0 w (by unfold can; simp)
  have hc1 := fun w => child_no k (1000 + (1 + v % 20)) w (by unfold can; simp; omega)
  have key : ∀ bad : Int, chk bad = false → dep bad = 0 ∧ KeyM.ahead bad k = false ∧ KeyM.ahead k bad = false ∧ under bad k = false ∧ (∀ w, Calls Try.prog 31 #[.int .i64 bad, .int .i64 1] w fun e w' => e = .returned (.tuple #[.int .i64 0, .bool false]) ∧ Bl w w') ∧
      (∀ w, Calls Try.prog 34 #[.int .i64 bad] w fun e w' => e = .returned (.tuple #[.int .i64 0, .int .i64 0, .bool false]) ∧ Bl w w') := by
    intro bad h
    exact ⟨dep_none h, ahead_none_l h, ahead_none_r h, by unfold under; rw [h]; rfl, fun w => child_no bad 1 w (by unfold can; rw [h]; rfl), fun w => parent_no bad w (dep_none h)⟩
  have b0 := none_neg ck
  have b1 := none_big ck
  have b2 := none_last (n := 1 + v % 20) (by omega) (by omega)
  have b3 := none_first
  have b4 := none_small (n := 1 + v % 20) (by omega)
  generalize how % 5 = h at *
  obtain rfl | rfl | rfl | rfl | rfl : h = 0 ∨ h = 1 ∨ h = 2 ∨ h = 3 ∨ h = 4 := by omega
  · obtain ⟨f1, f2, f3, f4, hcb, hpb⟩ := key _ b0
    clear key b1 b2 b3 b4
    go_enter Try.func13, Try.ntmps13
    go_wp2_with (first
      | (go_at_call 30; with_reducible refine (hk _ ?_).mono ?_; (exact Bl.refl _); rintro e w1 ⟨rfl, hb1⟩)
      | (go_at_call 19; first | (with_reducible refine (hp _).mono ?_; rintro e w4 ⟨rfl, rfl⟩) | (with_reducible refine (hv _).mono ?_; rintro e w4 ⟨rfl, rfl⟩))
      | (go_at_call 31; first | (with_reducible refine (hcb _).mono ?_; rintro e w5 ⟨rfl, hb5⟩) | (with_reducible refine (hc0 _).mono ?_; rintro e w6 ⟨rfl, hb6⟩) | (with_reducible refine (hc1 _).mono ?_; rintro e w6 ⟨rfl, hb6⟩))
      | (go_at_call 34; with_reducible refine (hpb _).mono ?_; rintro e w5 ⟨rfl, hb5⟩)
      | (go_at_call 36; refine (KeyW.check_any _ _).mono ?_; rintro e w4 ⟨rfl, hb4⟩)
      | (go_at_call 38; refine (KeyW.depth_any _ _).mono ?_; rintro e w4 ⟨rfl, hb4⟩)
      | (go_at_call 32; refine (KeyW.ahead_any _ _ _).mono ?_; rintro e w4 ⟨rfl, hb4⟩)
      | (go_at_call 40; refine (KeyW.under_any _ _ _).mono ?_; rintro e w4 ⟨rfl, hb4⟩)
      | (go_at_call 29; refine (KeyAll.awake_any _).mono ?_; rintro e w7 ⟨rfl, hb7⟩))
    go_ret
    exact ⟨rfl, by repeat (first | exact Bl.refl _ | assumption | apply Bl.drewN | apply Bl.alloc | refine Bl.trans ?_ (by assumption))⟩
  · obtain ⟨f1, f2, f3, f4, hcb, hpb⟩ := key _ b1
    clear key b0 b2 b3 b4
    go_enter Try.func13, Try.ntmps13
    go_wp2_with (first
      | (go_at_call 30; with_reducible refine (hk _ ?_).mono ?_; (exact Bl.refl _); rintro e w1 ⟨rfl, hb1⟩)
      | (go_at_call 19; first | (with_reducible refine (hp _).mono ?_; rintro e w4 ⟨rfl, rfl⟩) | (with_reducible refine (hv _).mono ?_; rintro e w4 ⟨rfl, rfl⟩))
      | (go_at_call 31; first | (with_reducible refine (hcb _).mono ?_; rintro e w5 ⟨rfl, hb5⟩) | (with_reducible refine (hc0 _).mono ?_; rintro e w6 ⟨rfl, hb6⟩) | (with_reducible refine (hc1 _).mono ?_; rintro e w6 ⟨rfl, hb6⟩))
      | (go_at_call 34; with_reducible refine (hpb _).mono ?_; rintro e w5 ⟨rfl, hb5⟩)
      | (go_at_call 36; refine (KeyW.check_any _ _).mono ?_; rintro e w4 ⟨rfl, hb4⟩)
      | (go_at_call 38; refine (KeyW.depth_any _ _).mono ?_; rintro e w4 ⟨rfl, hb4⟩)
      | (go_at_call 32; refine (KeyW.ahead_any _ _ _).mono ?_; rintro e w4 ⟨rfl, hb4⟩)
      | (go_at_call 40; refine (KeyW.under_any _ _ _).mono ?_; rintro e w4 ⟨rfl, hb4⟩)
      | (go_at_call 29; refine (KeyAll.awake_any _).mono ?_; rintro e w7 ⟨rfl, hb7⟩))
    go_ret
    exact ⟨rfl, by repeat (first | exact Bl.refl _ | assumption | apply Bl.drewN | apply Bl.alloc | refine Bl.trans ?_ (by assumption))⟩
  · obtain ⟨f1, f2, f3, f4, hcb, hpb⟩ := key _ b2
    clear key b0 b1 b3 b4
    go_enter Try.func13, Try.ntmps13
    go_wp2_with (first
      | (go_at_call 30; with_reducible refine (hk _ ?_).mono ?_; (exact Bl.refl _); rintro e w1 ⟨rfl, hb1⟩)
      | (go_at_call 19; first | (with_reducible refine (hp _).mono ?_; rintro e w4 ⟨rfl, rfl⟩) | (with_reducible refine (hv _).mono ?_; rintro e w4 ⟨rfl, rfl⟩))
      | (go_at_call 31; first | (with_reducible refine (hcb _).mono ?_; rintro e w5 ⟨rfl, hb5⟩) | (with_reducible refine (hc0 _).mono ?_; rintro e w6 ⟨rfl, hb6⟩) | (with_reducible refine (hc1 _).mono ?_; rintro e w6 ⟨rfl, hb6⟩))
      | (go_at_call 34; with_reducible refine (hpb _).mono ?_; rintro e w5 ⟨rfl, hb5⟩)
      | (go_at_call 36; refine (KeyW.check_any _ _).mono ?_; rintro e w4 ⟨rfl, hb4⟩)
      | (go_at_call 38; refine (KeyW.depth_any _ _).mono ?_; rintro e w4 ⟨rfl, hb4⟩)
      | (go_at_call 32; refine (KeyW.ahead_any _ _ _).mono ?_; rintro e w4 ⟨rfl, hb4⟩)
      | (go_at_call 40; refine (KeyW.under_any _ _ _).mono ?_; rintro e w4 ⟨rfl, hb4⟩)
      | (go_at_call 29; refine (KeyAll.awake_any _).mono ?_; rintro e w7 ⟨rfl, hb7⟩))
    go_ret
    exact ⟨rfl, by repeat (first | exact Bl.refl _ | assumption | apply Bl.drewN | apply Bl.alloc | refine Bl.trans ?_ (by assumption))⟩
  · obtain ⟨f1, f2, f3, f4, hcb, hpb⟩ := key _ b3
    clear key b0 b1 b2 b4
    go_enter Try.func13, Try.ntmps13
    go_wp2_with (first
      | (go_at_call 30; with_reducible refine (hk _ ?_).mono ?_; (exact Bl.refl _); rintro e w1 ⟨rfl, hb1⟩)
      | (go_at_call 19; first | (with_reducible refine (hp _).mono ?_; rintro e w4 ⟨rfl, rfl⟩) | (with_reducible refine (hv _).mono ?_; rintro e w4 ⟨rfl, rfl⟩))
      | (go_at_call 31; first | (with_reducible refine (hcb _).mono ?_; rintro e w5 ⟨rfl, hb5⟩) | (with_reducible refine (hc0 _).mono ?_; rintro e w6 ⟨rfl, hb6⟩) | (with_reducible refine (hc1 _).mono ?_; rintro e w6 ⟨rfl, hb6⟩))
      | (go_at_call 34; with_reducible refine (hpb _).mono ?_; rintro e w5 ⟨rfl, hb5⟩)
      | (go_at_call 36; refine (KeyW.check_any _ _).mono ?_; rintro e w4 ⟨rfl, hb4⟩)
      | (go_at_call 38; refine (KeyW.depth_any _ _).mono ?_; rintro e w4 ⟨rfl, hb4⟩)
      | (go_at_call 32; refine (KeyW.ahead_any _ _ _).mono ?_; rintro e w4 ⟨rfl, hb4⟩)
      | (go_at_call 40; refine (KeyW.under_any _ _ _).mono ?_; rintro e w4 ⟨rfl, hb4⟩)
      | (go_at_call 29; refine (KeyAll.awake_any _).mono ?_; rintro e w7 ⟨rfl, hb7⟩))
    go_ret
    exact ⟨rfl, by repeat (first | exact Bl.refl _ | assumption | apply Bl.drewN | apply Bl.alloc | refine Bl.trans ?_ (by assumption))⟩
  · obtain ⟨f1, f2, f3, f4, hcb, hpb⟩ := key _ b4
    clear key b0 b1 b2 b3
    go_enter Try.func13, Try.ntmps13
    go_wp2_with (first
      | (go_at_call 30; with_reducible refine (hk _ ?_).mono ?_; (exact Bl.refl _); rintro e w1 ⟨rfl, hb1⟩)
      | (go_at_call 19; first | (with_reducible refine (hp _).mono ?_; rintro e w4 ⟨rfl, rfl⟩) | (with_reducible refine (hv _).mono ?_; rintro e w4 ⟨rfl, rfl⟩))
      | (go_at_call 31; first | (with_reducible refine (hcb _).mono ?_; rintro e w5 ⟨rfl, hb5⟩) | (with_reducible refine (hc0 _).mono ?_; rintro e w6 ⟨rfl, hb6⟩) | (with_reducible refine (hc1 _).mono ?_; rintro e w6 ⟨rfl, hb6⟩))
      | (go_at_call 34; with_reducible refine (hpb _).mono ?_; rintro e w5 ⟨rfl, hb5⟩)
      | (go_at_call 36; refine (KeyW.check_any _ _).mono ?_; rintro e w4 ⟨rfl, hb4⟩)
      | (go_at_call 38; refine (KeyW.depth_any _ _).mono ?_; rintro e w4 ⟨rfl, hb4⟩)
      | (go_at_call 32; refine (KeyW.ahead_any _ _ _).mono ?_; rintro e w4 ⟨rfl, hb4⟩)
      | (go_at_call 40; refine (KeyW.under_any _ _ _).mono ?_; rintro e w4 ⟨rfl, hb4⟩)
      | (go_at_call 29; refine (KeyAll.awake_any _).mono ?_; rintro e w7 ⟨rfl, hb7⟩))
    go_ret
    exact ⟨rfl, by repeat (first | exact Bl.refl _ | assumption | apply Bl.drewN | apply Bl.alloc | refine Bl.trans ?_ (by assumption))⟩
/-- KeyNone, at any row. -/
theorem walk (a : Option Addr) (la ca : Nat) (za : List Int) (how v : Int) (w : World) (ha : IsRow .i64 w a la ca za) (_ : la * 8 ≤ 140737488351232) (_ : (Lit.int .i64 how).wf = true) (_ : (Lit.int .i64 v).wf = true) :
    Calls Try.prog 13 #[.slice a la ca, .int .i64 how, .int .i64 v] w fun e w' => e = .returned (.bool true) ∧ Bl w w' := by
  obtain ⟨k, ck, _, hk⟩ := make_key ha
  exact core a la ca how v k w ck hk
end Go.Proofs.Ytdngmceoicjadaa.KeyN
