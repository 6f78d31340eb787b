/- Keys, in plain Lean: parents up to the root: under is a chain of parents. The contracts of chapter 6's own answer: they are package key's. KeyAll: the walk. Keys by numbers, in plain Lean: the key of forks one below the other. The contract of the laws' make1: the key of forks by numbers. KeyTrees: the walk. -/
import Derived.Test.YtonndofbnhnkpaaGreatKeyB
import Derived.Test.YtonndofbnhnkpaaGreatVal
import Derived.Test.YtonndofbnhnkpaaGreatFrm
import Derived.OpenShut
import Derived.Laws.AppendOwn
import Derived.OwnWalk
set_option linter.unusedVariables false
set_option linter.unusedSimpArgs false
set_option linter.unusedSectionVars false
namespace Go.Proofs.YtonndofbnhnkpaaGreat.KeyM

/-- A key that is a fork: of whom. -/
theorem parent_ok {k a b c d e : Int} (h : Ok k a b c d e) (h0 : dep k ≠ 0) :
    (dep k = 1 ∧ 0 < a ∧ b = 0 ∧ c = 0 ∧ d = 0 ∧ e = 0 ∧ Ok (parent k) 0 0 0 0 0 ∧ num k = a) ∨ (dep k = 2 ∧ 0 < a ∧ 0 < b ∧ c = 0 ∧ d = 0 ∧ e = 0 ∧ Ok (parent k) a 0 0 0 0 ∧ num k = b) ∨
    (dep k = 3 ∧ 0 < a ∧ 0 < b ∧ 0 < c ∧ d = 0 ∧ e = 0 ∧ Ok (parent k) a b 0 0 0 ∧ num k = c) ∨ (dep k = 4 ∧ 0 < a ∧ 0 < b ∧ 0 < c ∧ 0 < d ∧ e = 0 ∧ Ok (parent k) a b c 0 0 ∧ num k = d) ∨
    (dep k = 5 ∧ 0 < a ∧ 0 < b ∧ 0 < c ∧ 0 < d ∧ 0 < e ∧ Ok (parent k) a b c d 0 ∧ num k = e) := by
  have hd := dep_ok h
  have b1 := h.a1
  have b2 := h.b1
  have b3 := h.c1
  have b4 := h.d1
  have b5 := h.e1
  obtain ⟨m1, m2, m3, m4, m5⟩ := parent_up h
  rcases h.by_dep with ⟨g, p1, p2, p3, p4, p5⟩ | ⟨g, p1, p2, p3, p4, p5⟩ | ⟨g, p1, p2, p3, p4, p5⟩ | ⟨g, p1, p2, p3, p4, p5⟩ | ⟨g, p1, p2, p3, p4, p5⟩ | ⟨g, p1, p2, p3, p4, p5⟩ <;> rw [g] at hd
  · exact absurd hd h0
  · obtain ⟨n1, n2⟩ := m1 g
    exact Or.inl ⟨hd, p1, p2, p3, p4, p5, by rw [n2]; constructor <;> omega, n1⟩
  · obtain ⟨n1, n2⟩ := m2 g
    exact Or.inr (Or.inl ⟨hd, p1, p2, p3, p4, p5, by rw [n2]; constructor <;> omega, n1⟩)
  · obtain ⟨n1, n2⟩ := m3 g
    exact Or.inr (Or.inr (Or.inl ⟨hd, p1, p2, p3, p4, p5, by rw [n2]; constructor <;> omega, n1⟩))
  · obtain ⟨n1, n2⟩ := m4 g
    exact Or.inr (Or.inr (Or.inr (Or.inl ⟨hd, p1, p2, p3, p4, p5, by rw [n2]; constructor <;> omega, n1⟩)))
  · obtain ⟨n1, n2⟩ := m5 g
    exact Or.inr (Or.inr (Or.inr (Or.inr ⟨hd, p1, p2, p3, p4, p5, by rw [n2]; constructor <;> omega, n1⟩)))

theorem chk_of_dep {k : Int} (h : dep k ≠ 0) : chk k = true := by
  cases hc : chk k
  · exact absurd (dep_none hc) h
  · rfl

theorem parent_dep {k : Int} (h : dep k ≠ 0) : chk (parent k) = true ∧ dep (parent k) = dep k - 1 := by
  have o := ok_of_chk (chk_of_dep h)
  rcases parent_ok o h with ⟨g, p1, p2, p3, p4, p5, q, _⟩ | ⟨g, p1, p2, p3, p4, p5, q, _⟩ | ⟨g, p1, p2, p3, p4, p5, q, _⟩ | ⟨g, p1, p2, p3, p4, p5, q, _⟩ | ⟨g, p1, p2, p3, p4, p5, q, _⟩
  all_goals
    refine ⟨chk_of_ok q, ?_⟩
    rw [dep_ok q]
    simp only [p1, p2, p3, p4, dp0, dp1, dp2, dp3, dp4]
    omega

theorem under_root {y b : Int} (h : dep y = 0) : under y b = false := by
  unfold under; rw [h]; have := dep_lo b; cases chk y <;> cases chk b <;> simp; omega

theorem under_parent {y b : Int} (h : dep y ≠ 0) : under y b = (parent y == b || under (parent y) b) := by
  have hy := chk_of_dep h
  obtain ⟨hp, _⟩ := parent_dep h
  cases hb : chk b
  · have h1 : under y b = false := by unfold under; rw [hb]; simp
    have h2 : under (parent y) b = false := by unfold under; rw [hb]; simp
    have h3 : (parent y == b) = false := by
      cases g : parent y == b
      · rfl
      · rw [beq_iff_eq] at g; rw [← g, hp] at hb; exact absurd hb (by simp)
    rw [h1, h2, h3]; rfl
  · have oy := ok_of_chk hy
    have ob := ok_of_chk hb
    generalize d0 y = a at oy
    generalize d1 y = a2 at oy
    generalize d2 y = a3 at oy
    generalize d3 y = a4 at oy
    generalize d4 y = a5 at oy
    generalize d0 b = c at ob
    generalize d1 b = c2 at ob
    generalize d2 b = c3 at ob
    generalize d3 b = c4 at ob
    generalize d4 b = c5 at ob
    obtain ⟨u0, u1, u2, u3, u4, u5⟩ := up_ok oy
    obtain ⟨v0, v1, v2, v3, v4, v5⟩ := up_ok ob
    have sb := ob.shapes
    have q1 := ob.eq
    have y1 := oy.a1; have y2 := oy.b1; have y3 := oy.c1; have y4 := oy.d1; have y5 := oy.e1
    have z1 := ob.a1; have z2 := ob.b1; have z3 := ob.c1; have z4 := ob.d1; have z5 := ob.e1
    rw [Bool.eq_iff_iff]
    rcases parent_ok oy h with ⟨g, p1, p2, p3, p4, p5, q, _⟩ | ⟨g, p1, p2, p3, p4, p5, q, _⟩ | ⟨g, p1, p2, p3, p4, p5, q, _⟩ | ⟨g, p1, p2, p3, p4, p5, q, _⟩ | ⟨g, p1, p2, p3, p4, p5, q, _⟩ <;>
    rw [under_ok oy ob, under_ok q ob] <;>
    have q2 := q.eq <;>
    obtain ⟨w0, w1, w2, w3, w4, w5⟩ := up_ok q <;>
    rcases sb with ⟨r1, r2, r3, r4, r5⟩ | ⟨r1, r2, r3, r4, r5⟩ | ⟨r1, r2, r3, r4, r5⟩ | ⟨r1, r2, r3, r4, r5⟩ | ⟨r1, r2, r3, r4, r5⟩ | ⟨r1, r2, r3, r4, r5⟩ <;>
    (simp only [p1, p2, p3, p4, p5, r1, r2, r3, r4, r5, dp0, dp1, dp2, dp3, dp4, dp5, u0, u1, u2, u3, u4, u5, v0, v1, v2, v3, v4, v5, w0, w1, w2, w3, w4, w5, Bool.or_eq_true, beq_iff_eq, decide_eq_true_iff, and_true]; (try simp only [r1, r2, r3, r4, r5] at q1); omega)
end Go.Proofs.YtonndofbnhnkpaaGreat.KeyM
namespace Go.Proofs.YtonndofbnhnkpaaGreat.Ref6
open Go.RowKit Num KeyM KeyW

theorem digit_any (k d : Int) (w : World) (h0 : 1 ≤ d) (h4 : d ≤ 5) :
    Calls Tryz.prog 114 #[.int .i64 k, .int .i64 d] w fun e w' => e = .returned (.int .i64 (dgi k (d - 1))) ∧ w = w' := by
  obtain rfl | rfl | rfl | rfl | rfl : d = 1 ∨ d = 2 ∨ d = 3 ∨ d = 4 ∨ d = 5 := by omega
  all_goals
    have hm := fun x => and_1023 x
    go_enter Tryz.func114, Tryz.ntmps114
    go_wp2
    go_ret
    exact ⟨ret_i (by simp [dgi, d0, d1, d2, d3, d4]), rfl⟩

theorem chk_range (k : Int) (h : k < 1125899906842624 ∨ 2251799813685248 ≤ k) : chk k = false := by
  cases hc : chk k
  · rfl
  · have := chk_lo hc; have := chk_hi hc; omega
set_option maxHeartbeats 1000000 in
theorem check_any (k : Int) (w : World) :
    Calls Tryz.prog 113 #[.int .i64 k] w fun e w' => e = .returned (.bool (chk k)) ∧ w = w' := by
  by_cases hr : k < 1125899906842624
  · have HC := Lib.hid (chk_range k (Or.inl hr))
    go_enter Tryz.func113, Tryz.ntmps113
    go_wp2_with fail
    go_ret
    exact ⟨ret_b HC.out.symm, rfl⟩
  by_cases hr' : 2251799813685248 ≤ k
  · have HC := Lib.hid (chk_range k (Or.inr hr'))
    go_enter Tryz.func113, Tryz.ntmps113
    go_wp2_with fail
    go_ret
    exact ⟨ret_b HC.out.symm, rfl⟩
  go_enter Tryz.func113, Tryz.ntmps113
  go_wp2_with fail
  go_loop [3, 4] (fun e c => ∃ (j : Nat) (b : Bool), j ≤ 5 ∧ c = .int .i64 (j + 1) ∧ e = .bool b ∧ Hid (b = decide ((0 : Int) < (j : Int) ∧ dgi k ((j : Int) - 1) = 0)) ∧ Hid (Pass k j)) (fun _ c => 6 - (intOf c).toNat)
  case atStart => exact ⟨0, false, by omega, rfl, rfl, rfl, pass_zero k⟩
  case round =>
    obtain ⟨j, b, hj, rfl, rfl, hb, hp⟩ := hrel
    by_cases hlt : j < 5
    · have l0 := dgi_lo k j
      have HB := chk_not_pass (k := k) (j := j) (by omega) (by omega)
      have HS := pass_step hp.out
      have e1 : ((j : Int) + 1) - 1 = j := by omega
      have hdg : ∀ w, Calls Tryz.prog 114 #[.int .i64 k, .int .i64 ((j : Int) + 1)] w fun e w' => e = .returned (.int .i64 (dgi k j)) ∧ w = w' := by
        intro w; have := digit_any k ((j : Int) + 1) w (by omega) (by omega); rw [e1] at this; exact this
      clear e1
      by_cases g : dgi k j ≤ 1000 ∧ (b = true → dgi k j = 0)
      · have HR : Hid ((dgi k j == 0) = decide (0 < ((j + 1 : Nat) : Int) ∧ dgi k (((j + 1 : Nat) : Int) - 1) = 0)) := end_next k j
        have HP : Hid (Pass k ((j + 1 : Nat) : Int)) := by
          have h := hb.out
          have := HS g.1 (fun a c => g.2 (by rw [h]; simp; omega))
          exact this
        obtain ⟨g1, g2⟩ := g
        clear HB HS hb hp
        cases b
        · by_cases gz : dgi k j = 0
          all_goals
            have gb : (dgi k j == 0) = decide (dgi k j = 0) := by rw [Bool.eq_iff_iff]; simp
            rw [gb] at HR
            go_wp2_with (go_at_call 114; refine (hdg _).mono ?_; rintro e w' ⟨rfl, rfl⟩)
            go_round
            case rel => exact ⟨j + 1, _, by omega, by go_num, by simp; rfl, by simpa [*] using HR, HP⟩
            case measure => simp [intOf]; omega
        · have gz := g2 rfl
          have HR' : Hid (true = decide (0 < ((j + 1 : Nat) : Int) ∧ dgi k (((j + 1 : Nat) : Int) - 1) = 0)) := by
            have h := HR.out; rw [gz] at h; exact h
          clear HR g2
          go_wp2_with (go_at_call 114; refine (hdg _).mono ?_; rintro e w' ⟨rfl, rfl⟩)
          go_round
          case rel => exact ⟨j + 1, true, by omega, by go_num, rfl, HR', HP⟩
          case measure => simp [intOf]; omega
      · have HC : Hid (chk k = false) := HB (fun h => g ⟨h.1, fun hb' => by
          have h1 := hb.out
          rw [hb'] at h1
          have h2 := of_decide_eq_true h1.symm
          exact h.2 h2.1 h2.2⟩)
        clear HB HS hb hp
        by_cases g1 : 1000 < dgi k j
        · go_wp2_with (go_at_call 114; refine (hdg _).mono ?_; rintro e w' ⟨rfl, rfl⟩)
          go_ret
          exact ⟨ret_b HC.out.symm, rfl⟩
        · have g2 : 0 < dgi k j := by
            rcases Int.lt_or_le 0 (dgi k j) with h | h
            · exact h
            · exact absurd ⟨by omega, fun _ => by omega⟩ g
          have g3 : b = true := by
            cases b
            · exact absurd ⟨by omega, fun h => by simp at h⟩ g
            · rfl
          subst g3
          clear g
          go_wp2_with (go_at_call 114; refine (hdg _).mono ?_; rintro e w' ⟨rfl, rfl⟩)
          go_ret
          exact ⟨ret_b HC.out.symm, rfl⟩
    · obtain rfl : j = 5 := by omega
      have HC : Hid (chk k = true) := (chk_pass k).2 ⟨hp.out, by omega⟩
      clear hb hp
      go_wp2_with fail
      go_ret
      exact ⟨ret_b HC.out.symm, rfl⟩
theorem depth_any (k : Int) (w : World) :
    Calls Tryz.prog 96 #[.int .i64 k] w fun e w' => e = .returned (.int .i64 (dep k)) ∧ w = w' := by
  cases hk : chk k
  · have HD : Hid (dep k = 0) := dep_none hk
    go_enter Tryz.func96, Tryz.ntmps96
    go_wp2_with (go_at_call 113; refine (check_any _ _).mono ?_; rintro e w1 ⟨rfl, rfl⟩)
    go_ret
    exact ⟨ret_i HD.out.symm, rfl⟩
  go_enter Tryz.func96, Tryz.ntmps96
  go_wp2_with (go_at_call 113; refine (check_any _ _).mono ?_; rintro e w1 ⟨rfl, rfl⟩)
  have hpos := fun (j : Nat) (h : j < 5) => dgi_pos (j := j) hk (by omega) (by omega)
  have h5 := dep_hi k
  have h0 := dep_lo k
  have HP := Lib.hid hpos
  clear hpos
  go_loop [3] (fun c => ∃ j : Nat, (j : Int) ≤ dep k ∧ c = .int .i64 j) (fun c => 5 - (intOf c).toNat)
  case atStart => exact ⟨0, h0, rfl⟩
  case round =>
    obtain ⟨j, hj, rfl⟩ := hrel
    by_cases hlt : j < 5
    · have hp := HP.out j hlt
      have e1 : ((j : Int) + 1) - 1 = j := by omega
      have hdg : ∀ w, Calls Tryz.prog 114 #[.int .i64 k, .int .i64 ((j : Int) + 1)] w fun e w' => e = .returned (.int .i64 (dgi k j)) ∧ w = w' := by
        intro w; have := digit_any k ((j : Int) + 1) w (by omega) (by omega); rw [e1] at this; exact this
      clear e1
      by_cases hd : (j : Int) < dep k
      · have hg : 0 < dgi k j := hp.2 hd
        clear hp
        go_wp2_with (go_at_call 114; refine (hdg _).mono ?_; rintro e w' ⟨rfl, rfl⟩)
        go_round
        case rel => exact ⟨j + 1, by omega, by go_num⟩
        case measure => simp [intOf]; omega
      · have hg : ¬ 0 < dgi k j := fun h => hd (hp.1 h)
        have HE : Hid ((j : Int) = dep k) := by show _ = _; omega
        clear hp
        go_wp2_with (go_at_call 114; refine (hdg _).mono ?_; rintro e w' ⟨rfl, rfl⟩)
        go_ret
        exact ⟨ret_i HE.out, rfl⟩
    · have HE : Hid ((j : Int) = dep k) := by show _ = _; omega
      go_wp2_with fail
      go_ret
      exact ⟨ret_i HE.out, rfl⟩
set_option maxHeartbeats 1000000 in
theorem child_yes (k n : Int) (w : World) (hk : chk k = true) (hd : dep k < 5) (h1 : 1 ≤ n) (h2 : n ≤ 1000) :
    Calls Tryz.prog 97 #[.int .i64 k, .int .i64 n] w fun e w' => e = .returned (.tuple #[.int .i64 (child k n), .bool true]) ∧ w = w' := by
  have h0 := dep_lo k
  have k1 := chk_lo hk
  have k2 := chk_hi hk
  obtain hj | hj | hj | hj | hj : dep k = 0 ∨ dep k = 1 ∨ dep k = 2 ∨ dep k = 3 ∨ dep k = 4 := by omega
  all_goals
    have HE : Hid (child k n = k + n * un (dep k)) := rfl
    rw [hj] at HE
    clear hd h0
    go_enter Tryz.func97, Tryz.ntmps97
    go_wp2_with (first | (go_at_call 96; refine (depth_any _ _).mono ?_; rintro e w1 ⟨rfl, rfl⟩) | (go_at_call 113; refine (check_any _ _).mono ?_; rintro e w2 ⟨rfl, rfl⟩))
    go_ret2
    exact ⟨ret_ib (by rw [HE.out]; simp [un]), rfl⟩
set_option maxHeartbeats 1000000 in
theorem child_no (k n : Int) (w : World) (h : can k n = false) :
    Calls Tryz.prog 97 #[.int .i64 k, .int .i64 n] w fun e w' => e = .returned (.tuple #[.int .i64 0, .bool false]) ∧ w = w' := by
  cases hk : chk k
  · clear h
    go_enter Tryz.func97, Tryz.ntmps97
    go_wp2_with (first | (go_at_call 96; refine (depth_any _ _).mono ?_; rintro e w1 ⟨rfl, rfl⟩) | (go_at_call 113; refine (check_any _ _).mono ?_; rintro e w2 ⟨rfl, rfl⟩))
    go_ret2
    exact ⟨rfl, rfl⟩
  · have h' : ¬ (dep k ≠ 5 ∧ 1 ≤ n ∧ n ≤ 1000) := by
      unfold can at h; rw [hk] at h; simpa using h
    have l1 := dep_lo k
    have l2 := dep_hi k
    by_cases h5 : 5 ≤ dep k
    · clear h h'
      go_enter Tryz.func97, Tryz.ntmps97
      go_wp2_with (first | (go_at_call 96; refine (depth_any _ _).mono ?_; rintro e w1 ⟨rfl, rfl⟩) | (go_at_call 113; refine (check_any _ _).mono ?_; rintro e w2 ⟨rfl, rfl⟩))
      go_ret2
      exact ⟨rfl, rfl⟩
    · by_cases g : n < 1
      all_goals
        have g' : n < 1 ∨ 1000 < n := by omega
        clear h h'
        go_enter Tryz.func97, Tryz.ntmps97
        go_wp2_with (first | (go_at_call 96; refine (depth_any _ _).mono ?_; rintro e w1 ⟨rfl, rfl⟩) | (go_at_call 113; refine (check_any _ _).mono ?_; rintro e w2 ⟨rfl, rfl⟩))
        go_ret2
        exact ⟨rfl, rfl⟩
set_option maxHeartbeats 1000000 in
set_option maxHeartbeats 1000000 in
theorem under_self (a : Int) : under a a = false := by
  unfold under; cases chk a <;> simp
end Go.Proofs.YtonndofbnhnkpaaGreat.Ref6
namespace Go.Proofs.YtonndofbnhnkpaaGreat.KeyAll
open Go.RowKit Num KeyM KeyW
end Go.Proofs.YtonndofbnhnkpaaGreat.KeyAll
namespace Go.Proofs.YtonndofbnhnkpaaGreat.KeyM
def mkI (zs : List Int) : Nat → Int
  | 0 => 1125899906842624
  | i + 1 => child (mkI zs i) (1 + zs.getD i 0 % 1000)
theorem root_ok : chk 1125899906842624 = true ∧ dep 1125899906842624 = 0 := by decide +kernel
theorem mkI_ok (zs : List Int) (i : Nat) (h : i ≤ 5) : chk (mkI zs i) = true ∧ dep (mkI zs i) = i := by
  induction i with
  | zero => exact root_ok
  | succ i ih =>
    obtain ⟨h1, h2⟩ := ih (by omega)
    have := Int.emod_nonneg (zs.getD i 0) (b := 1000) (by decide)
    have := Int.emod_lt_of_pos (zs.getD i 0) (b := 1000) (by decide)
    have hb := born (n := 1 + zs.getD i 0 % 1000) h1 (by omega) (by omega) (by omega)
    exact ⟨hb.chk, by show dep (child _ _) = _; rw [hb.dep, h2]; rfl⟩
end Go.Proofs.YtonndofbnhnkpaaGreat.KeyM
namespace Go.Proofs.YtonndofbnhnkpaaGreat.KeyL
open Go.RowKit Num KeyM KeyW Frm
/-- The cells of a slice that has an element. -/
theorem row_at {k : IntKind} {w : World} {a : Option Addr} {len cap : Nat} {zs : List Int} (h : IsRow k w a len cap zs) (h0 : 0 < len) :
    ∃ b off, a = some ⟨b, off, none⟩ ∧ len ≤ cap ∧ cap ≤ 9223372036854775807 ∧ zs.length = cap ∧ (∀ i, i < zs.length → w.cell? ⟨b, off + i, none⟩ = some (.int k (zs.getD i 0))) := by
  rcases h with ⟨_, h, _⟩ | ⟨x, rfl, h1, h2, h3, h4, h5⟩
  · omega
  · unfold maxLen at h2
    obtain ⟨b, off, rfl, hx⟩ := ints_at h4 (by omega)
    exact ⟨b, off, rfl, h1, h2, h3, hx⟩
/-- A cell that is there is there later. -/
theorem bl_cell {w w' : World} {p : Addr} {v : Value} (hB : Bl w w') (h : w.cell? p = some v) : w'.cell? p = some v := by
  have hb : p.block < w.heap.size := by
    have hc := h
    unfold World.cell? at hc
    rcases Nat.lt_or_ge p.block w.heap.size with g | g
    · exact g
    · simp [Array.getElem?_eq_none g] at hc
  exact (Below.cell hB hb).trans h
/-- The row lies in the heap. -/
theorem row_lt {k : IntKind} {w : World} {a : Option Addr} {len cap : Nat} {zs : List Int} (h : IsRow k w a len cap zs) (h0 : 0 < len) {b off : Nat} {sp : Option Nat} (e : a = some ⟨b, off, sp⟩) : b < w.heap.size := by
  obtain ⟨b', off', e', h1, h2, h3, h4⟩ := row_at h h0
  rw [e] at e'
  obtain ⟨rfl, rfl, rfl⟩ := by simpa using e'
  have hc := h4 0 (by omega)
  unfold World.cell? at hc
  rcases Nat.lt_or_ge b w.heap.size with g | g
  · exact g
  · simp [Array.getElem?_eq_none g] at hc
/-- In a later world it is the same row. -/
theorem row_later {k : IntKind} {w w' : World} {a : Option Addr} {len cap : Nat} {zs : List Int} (h : IsRow k w a len cap zs) (hB : Bl w w') : IsRow k w' a len cap zs := by
  rcases h with h | ⟨x, rfl, h1, h2, h3, h4, h5⟩
  · exact Or.inl h
  · refine Or.inr ⟨x, rfl, h1, h2, h3, fun i hi => ?_, h5⟩
    have hc := h4 i hi
    have hb : (x.add i).block < w.heap.size := by
      unfold World.cell? at hc
      rcases Nat.lt_or_ge (x.add i).block w.heap.size with g | g
      · exact g
      · simp [Array.getElem?_eq_none g] at hc
    exact (Below.cell hB hb).trans hc
end Go.Proofs.YtonndofbnhnkpaaGreat.KeyL
namespace Go.Proofs.YtonndofbnhnkpaaGreat.KeyT
open Go.RowKit Num KeyM KeyW KeyL Frm
/-- The numbers of the forks. -/
def nums (zs : List Int) (j : Nat) : List Int := (List.range j).map fun i => 1 + zs.getD i 0 % 1000
theorem nums_succ (zs : List Int) (j : Nat) : nums zs (j + 1) = nums zs j ++ [1 + zs.getD j 0 % 1000] := by
  unfold nums; rw [List.range_succ, List.map_append]; rfl
theorem nums_len (zs : List Int) (j : Nat) : (nums zs j).length = j := by simp [nums]
theorem nums_get (zs : List Int) (j i : Nat) (h : i < j) : (nums zs j)[i]? = some (1 + zs.getD i 0 % 1000) := by simp [nums, h]
theorem under_the_root {c : Int} (h : chk c = true) (h0 : 0 < dep c) : under c 1125899906842624 = true := by
  obtain ⟨r1, r2⟩ := root_ok
  have oc := ok_of_chk h
  have oroot := ok_of_chk r1
  have u := (up_ok oc).1
  have v := (up_ok oroot).1
  unfold under; rw [h, r1, r2, u, v]; simpa using h0
theorem own_later {base : Nat} {e : TypeId} {size : Nat} {v : Value} {n : Nat} {xs : List Value} {w w' : World} (h : w.ownsRow base e size v n xs) (hB : Bl w w') : w'.ownsRow base e size v n xs := by
  obtain ⟨h1, h2⟩ := h
  refine ⟨h1, ?_⟩
  rcases h2 with h2 | ⟨g, cap, cur, hv, hg, hh, r⟩
  · exact Or.inl h2
  · refine Or.inr ⟨g, cap, cur, hv, hg, ?_, r⟩
    have hlt : g < w.heap.size := by
      rcases Nat.lt_or_ge g w.heap.size with k | k
      · exact k
      · simp [Array.getElem?_eq_none k] at hh
    rw [hB.block g hlt]; exact hh
theorem info3 : (Tryz.prog.info? 3).map (fun i => (i.zero, i.size, i.bytes)) = some (some (.int .i64 0), 1, 8) := by kernel_rfl
/-- The slice after so many. -/
theorem own_shape {base : Nat} {e : TypeId} {v : Value} {n : Nat} {xs : List Value} {w : World} (h : w.ownsRow base e 1 v n xs) : ∃ a cap, v = .slice a n cap ∧ (0 < n → ∃ g, a = some ⟨g, 0, none⟩) := by
  obtain ⟨h1, h2⟩ := h
  rcases h2 with ⟨rfl, rfl⟩ | ⟨g, cap, cur, hv, _⟩
  · exact ⟨none, 0, rfl, fun h => by omega⟩
  · exact ⟨some ⟨g, 0, none⟩, cap, hv, fun _ => ⟨g, rfl⟩⟩
end Go.Proofs.YtonndofbnhnkpaaGreat.KeyT
