/- KeyOrders: the walk. -/
import Derived.Test.YtdngmceoicjadaaKeyL
namespace Go.Proofs.Ytdngmceoicjadaa.KeyO
open Go.RowKit Num KeyM KeyW KeyL Frm
set_option maxHeartbeats 4000000 in
theorem deep (a b c : Option Addr) (la lb lc ca cb cc : Nat) (n x y z : Int) (w : World)
    (hx : ∀ w', Bl w w' → Calls Try.prog 30 #[.slice a la ca] w' fun e w'' => e = .returned (.int .i64 x) ∧ Bl w' w'')
    (hy : ∀ w', Bl w w' → Calls Try.prog 30 #[.slice b lb cb] w' fun e w'' => e = .returned (.int .i64 y) ∧ Bl w' w'')
    (hz : ∀ w', Bl w w' → Calls Try.prog 30 #[.slice c lc cc] w' fun e w'' => e = .returned (.int .i64 z) ∧ Bl w' w'')
    (cx : chk x = true) (cy : chk y = true) (cz : chk z = true) (hd : dep x = 5) :
    Calls Try.prog 11 #[.slice a la ca, .slice b lb cb, .slice c lc cc, .int .i64 n] w fun e w' => e = .returned (.bool true) ∧ Bl w w' := by
  have e1 : KeyM.ahead x x = false := by rw [ahead_of cx cx]; simp
  have e2 : (x != y) = (KeyM.ahead x y != KeyM.ahead y x) := by
    rw [ahead_of cx cy, ahead_of cy cx]
    by_cases h : x = y
    · subst h; simp
    · have : rank x ≠ rank y := fun g => h (rank_inj cx cy g)
      rcases Int.lt_trichotomy (rank x) (rank y) with g | g | g
      · simp [h, g, Int.not_lt.2 (Int.le_of_lt g)]
      · exact absurd g this
      · simp [h, g, Int.not_lt.2 (Int.le_of_lt g)]
  have e3 : KeyM.ahead x y = true → KeyM.ahead y z = true → KeyM.ahead x z = true := by
    rw [ahead_of cx cy, ahead_of cy cz, ahead_of cx cz]
    simp only [decide_eq_true_iff]; omega
  have l1 := Int.emod_nonneg n (b := 999) (by decide)
  have l2 := Int.emod_lt_of_pos n (b := 999) (by decide)
  have n1 : can x (1 + n % 999) = false := by unfold can; rw [hd]; simp
  have n2 : can x (1 + n % 999 + 1) = false := by unfold can; rw [hd]; simp
  have hn1 := fun w => child_no x (1 + n % 999) w n1
  have hn2 := fun w => child_no x (1 + n % 999 + 1) w n2
  clear n1 n2
  have h3 : (KeyM.ahead x y = true ∧ KeyM.ahead y z = true ∧ KeyM.ahead x z = true) ∨ (KeyM.ahead x y = true ∧ KeyM.ahead y z = false) ∨ KeyM.ahead x y = false := by
    cases h : KeyM.ahead x y
    · exact Or.inr (Or.inr rfl)
    · cases h' : KeyM.ahead y z
      · exact Or.inr (Or.inl ⟨rfl, rfl⟩)
      · exact Or.inl ⟨rfl, rfl, e3 h h'⟩
  clear e3
  rcases h3 with ⟨g1, g2, g3⟩ | ⟨g1, g2⟩ | g1
  all_goals
    go_enter Try.func11, Try.ntmps11
    go_wp2_with (first
      | (go_at_call 30; first
          | (with_reducible refine (hx _ ?_).mono ?_; (exact Bl.refl _); rintro e w1 ⟨rfl, hb1⟩)
          | (with_reducible refine (hy _ ?_).mono ?_; (assumption); rintro e w2 ⟨rfl, hb2⟩)
          | (with_reducible refine (hz _ ?_).mono ?_; (exact Bl.trans (by assumption) (by assumption)); rintro e w3 ⟨rfl, hb3⟩))
      | (go_at_call 36; refine (KeyW.check_any _ _).mono ?_; rintro e w4 ⟨rfl, hb4⟩)
      | (go_at_call 38; refine (KeyW.depth_any _ _).mono ?_; rintro e w4 ⟨rfl, hb4⟩)
      | (go_at_call 32; refine (KeyW.ahead_any _ _ _).mono ?_; rintro e w4 ⟨rfl, hb4⟩)
      | (go_at_call 19; refine (Val.place_any _ _ _ (by omega) (by omega)).mono ?_; rintro e w4 ⟨rfl, rfl⟩)
      | (go_at_call 31; first | (with_reducible refine (hn1 _).mono ?_; rintro e w5 ⟨rfl, hb5⟩) | (with_reducible refine (hn2 _).mono ?_; rintro e w6 ⟨rfl, hb6⟩))
      | (go_at_call 29; refine (KeyAll.awake_any _).mono ?_; rintro e w7 ⟨rfl, hb7⟩))
    go_ret
    exact ⟨rfl, by repeat (first | exact Bl.refl _ | assumption | apply Bl.drewN | apply Bl.alloc | refine Bl.trans ?_ (by assumption))⟩
set_option maxHeartbeats 4000000 in
theorem shallow (a b c : Option Addr) (la lb lc ca cb cc : Nat) (n x y z : Int) (w : World)
    (hx : ∀ w', Bl w w' → Calls Try.prog 30 #[.slice a la ca] w' fun e w'' => e = .returned (.int .i64 x) ∧ Bl w' w'')
    (hy : ∀ w', Bl w w' → Calls Try.prog 30 #[.slice b lb cb] w' fun e w'' => e = .returned (.int .i64 y) ∧ Bl w' w'')
    (hz : ∀ w', Bl w w' → Calls Try.prog 30 #[.slice c lc cc] w' fun e w'' => e = .returned (.int .i64 z) ∧ Bl w' w'')
    (cx : chk x = true) (cy : chk y = true) (cz : chk z = true) (hd : dep x < 5) :
    Calls Try.prog 11 #[.slice a la ca, .slice b lb cb, .slice c lc cc, .int .i64 n] w fun e w' => e = .returned (.bool true) ∧ Bl w w' := by
  have e1 : KeyM.ahead x x = false := by rw [ahead_of cx cx]; simp
  have e2 : (x != y) = (KeyM.ahead x y != KeyM.ahead y x) := by
    rw [ahead_of cx cy, ahead_of cy cx]
    by_cases h : x = y
    · subst h; simp
    · have : rank x ≠ rank y := fun g => h (rank_inj cx cy g)
      rcases Int.lt_trichotomy (rank x) (rank y) with g | g | g
      · simp [h, g, Int.not_lt.2 (Int.le_of_lt g)]
      · exact absurd g this
      · simp [h, g, Int.not_lt.2 (Int.le_of_lt g)]
  have e3 : KeyM.ahead x y = true → KeyM.ahead y z = true → KeyM.ahead x z = true := by
    rw [ahead_of cx cy, ahead_of cy cz, ahead_of cx cz]
    simp only [decide_eq_true_iff]; omega
  have l1 := Int.emod_nonneg n (b := 999) (by decide)
  have l2 := Int.emod_lt_of_pos n (b := 999) (by decide)
  have hn1 := fun w => child_yes x (1 + n % 999) w cx hd (by omega) (by omega)
  have hn2 := fun w => child_yes x (1 + n % 999 + 1) w cx hd (by omega) (by omega)
  obtain ⟨s1, s2, s3, s4, s5, s6, s7, s8⟩ := born (n := 1 + n % 999) cx (by omega) (by omega) hd
  obtain ⟨t1, t2, t3, t4, t5, t6, t7, t8⟩ := born (n := 1 + n % 999 + 1) cx (by omega) (by omega) hd
  have R := rank_later (n := 1 + n % 999) (m := 1 + n % 999 + 1) cx (by omega) (by omega) (by omega) hd
  generalize child x (1 + n % 999) = p at *
  generalize child x (1 + n % 999 + 1) = q at *
  have dp0 := dep_lo x
  have hp := fun w => parent_yes p w (by rw [s2]; omega)
  rw [s3, s4] at hp
  have f1 : KeyM.ahead p q = true := by rw [ahead_of s1 t1]; simpa using R
  have f2 : KeyM.ahead p x = true := by rw [ahead_of s1 cx]; simpa using s6
  have f3 : KeyM.ahead x p = false := by rw [ahead_of cx s1]; simpa using Int.le_of_lt s6
  have f5 : under p q = false := by unfold under; rw [s2, t2]; simp
  clear R s1 s3 s4 s5 s6 s8 t1 t2 t3 t4 t5 t6 t7 t8
  have h3 : (KeyM.ahead x y = true ∧ KeyM.ahead y z = true ∧ KeyM.ahead x z = true) ∨ (KeyM.ahead x y = true ∧ KeyM.ahead y z = false) ∨ KeyM.ahead x y = false := by
    cases h : KeyM.ahead x y
    · exact Or.inr (Or.inr rfl)
    · cases h' : KeyM.ahead y z
      · exact Or.inr (Or.inl ⟨rfl, rfl⟩)
      · exact Or.inl ⟨rfl, rfl, e3 h h'⟩
  clear e3
  rcases h3 with ⟨g1, g2, g3⟩ | ⟨g1, g2⟩ | g1
  all_goals
    go_enter Try.func11, Try.ntmps11
    go_wp2_with (first
      | (go_at_call 30; first
          | (with_reducible refine (hx _ ?_).mono ?_; (exact Bl.refl _); rintro e w1 ⟨rfl, hb1⟩)
          | (with_reducible refine (hy _ ?_).mono ?_; (assumption); rintro e w2 ⟨rfl, hb2⟩)
          | (with_reducible refine (hz _ ?_).mono ?_; (exact Bl.trans (by assumption) (by assumption)); rintro e w3 ⟨rfl, hb3⟩))
      | (go_at_call 36; refine (KeyW.check_any _ _).mono ?_; rintro e w4 ⟨rfl, hb4⟩)
      | (go_at_call 38; refine (KeyW.depth_any _ _).mono ?_; rintro e w4 ⟨rfl, hb4⟩)
      | (go_at_call 32; refine (KeyW.ahead_any _ _ _).mono ?_; rintro e w4 ⟨rfl, hb4⟩)
      | (go_at_call 19; refine (Val.place_any _ _ _ (by omega) (by omega)).mono ?_; rintro e w4 ⟨rfl, rfl⟩)
      | (go_at_call 31; first | (with_reducible refine (hn1 _).mono ?_; rintro e w5 ⟨rfl, hb5⟩) | (with_reducible refine (hn2 _).mono ?_; rintro e w6 ⟨rfl, hb6⟩))
      | (go_at_call 40; refine (KeyW.under_any _ _ _).mono ?_; rintro e w4 ⟨rfl, hb4⟩)
      | (go_at_call 34; refine (hp _).mono ?_; rintro e w4 ⟨rfl, hb4⟩)
      | (go_at_call 29; refine (KeyAll.awake_any _).mono ?_; rintro e w7 ⟨rfl, hb7⟩))
    go_ret
    exact ⟨rfl, by repeat (first | exact Bl.refl _ | assumption | apply Bl.drewN | apply Bl.alloc | refine Bl.trans ?_ (by assumption))⟩
/-- KeyOrders, at any rows. -/
theorem walk (a : Option Addr) (la ca : Nat) (za : List Int) (b : Option Addr) (lb cb : Nat) (zb : List Int) (c : Option Addr) (lc cc : Nat) (zc : List Int) (n : Int) (w : World)
    (ha : IsRow .i64 w a la ca za) (_ : la * 8 ≤ 140737488351232) (hb : IsRow .i64 w b lb cb zb) (_ : lb * 8 ≤ 140737488351232) (hc : IsRow .i64 w c lc cc zc) (_ : lc * 8 ≤ 140737488351232) (_ : (Lit.int .i64 n).wf = true) :
    Calls Try.prog 11 #[.slice a la ca, .slice b lb cb, .slice c lc cc, .int .i64 n] w fun e w' => e = .returned (.bool true) ∧ Bl w w' := by
  obtain ⟨x, cx, dx, hx⟩ := make_key ha
  obtain ⟨y, cy, _, hy⟩ := make_key hb
  obtain ⟨z, cz, _, hz⟩ := make_key hc
  by_cases hd : dep x = 5
  · exact deep a b c la lb lc ca cb cc n x y z w hx hy hz cx cy cz hd
  · exact shallow a b c la lb lc ca cb cc n x y z w hx hy hz cx cy cz (by omega)
end Go.Proofs.Ytdngmceoicjadaa.KeyO
