/- The contracts of package key's functions, at any integers. -/
import Derived.Test.YtonndofbnhnkpaaRows
import Derived.WalkKit
import Derived.ProofKit
import Derived.Lib.Hide
import Derived.Below
import Derived.Deep.QuietTactic
import Derived.BigQuiet
import Derived.WalkSmall
import Derived.Test.YtonndofbnhnkpaaNum
import Derived.Test.YtonndofbnhnkpaaKeyC
namespace Go.Proofs.Ytonndofbnhnkpaa.KeyW
open Go.RowKit Num KeyM

/-- At most new blocks. -/
def Bl (w w' : World) : Prop := Below w.heap.size w w'
theorem Bl.refl (w : World) : Bl w w := Below.refl _ _
theorem Bl.drewN {w w' : World} (h : Bl w w') (n : Nat) : Bl w (w'.drewN n) := below_drewN h n
theorem Bl.alloc {w w' : World} (h : Bl w w') (o : Obj) : Bl w (w'.alloc o) := Below.alloc h h.size o
theorem Bl.trans {a b c : World} (h : Bl a b) (k : Bl b c) : Bl a c := Below.trans h (Below.mono k h.size)

theorem ret_i {a b : Int} (h : a = b) : Ending.returned (.int .i64 a) = .returned (.int .i64 b) := by rw [h]
theorem ret_b {a b : Bool} (h : a = b) : Ending.returned (.bool a) = .returned (.bool b) := by rw [h]

theorem quiet_add_same {P : Program} {f : FuncId} {args : Array Value} {w : World} {a n : Nat} {v : Value}
    (h : Calls P f args (w.drewN (a + n)) fun e w' => e = .returned v ∧ w' = w.drewN (a + n)) :
    Calls P f args (w.drewN (a + n)) fun e w'' => e = .returned v ∧ ∃ m, w'' = w.drewN (a + m) :=
  h.mono fun _ _ ⟨he, hm⟩ => ⟨he, n, hm⟩

/-- The digit at a depth. -/
def dgi (k j : Int) : Int := if j = 0 then d0 k else if j = 1 then d1 k else if j = 2 then d2 k else if j = 3 then d3 k else d4 k

theorem place_any (j : Int) (w : World) (h0 : -1 ≤ j) (h4 : j ≤ 4) :
    Calls Try.prog 119 #[.int .i64 j] w fun e w' => e = .returned (.int .i64 (40 - 10 * j)) ∧ w' = w := by
  go_enter Try.func119, Try.ntmps119
  go_wp2
  go_ret
  exact ⟨ret_i (by omega), rfl⟩

theorem digit_any (k j : Int) (p : Addr) (w : World) (h0 : 0 ≤ j) (h4 : j ≤ 4) (hc : w.cell? p = some (.int .i64 k)) :
    Calls Try.prog 152 #[.int .i64 j, .pointer (some p)] w fun e w' => e = .returned (.int .i64 (dgi k j)) ∧ ∃ n, w' = w.drewN n := by
  obtain rfl | rfl | rfl | rfl | rfl : j = 0 ∨ j = 1 ∨ j = 2 ∨ j = 3 ∨ j = 4 := by omega
  all_goals
    have hm := fun x => and_1023 x
    go_enter Try.func152, Try.ntmps152
    go_wp2
    go_quiet ((go_at_call 119; exact Calls.quiet_of_same (place_any _ _ (by decide) (by decide))))
    go_wp2
    go_ret
    exact ⟨ret_i (by simp [dgi, d0, d1, d2, d3, d4]), _, rfl⟩
theorem digits_any (k : Int) (w : World) :
    Calls Try.prog 118 #[.int .i64 k] w fun e w' => e = .returned (.func (.func 152) #[] #[.pointer (some ⟨w.heap.size, 0, none⟩)]) ∧ w.alloc (.cells #[.int .i64 k] 3) = w' := by
  go_enter Try.func118, Try.ntmps118
  go_wp2
  go_ret
  exact ⟨rfl, rfl⟩

def Pass (k : Int) (j : Int) : Prop := ∀ i, 0 ≤ i → i < j → dgi k i ≤ 1000 ∧ (0 < i → dgi k (i - 1) = 0 → dgi k i = 0)
theorem pass_zero (k : Int) : Pass k 0 := fun i h0 h1 => by omega
theorem pass_step {k j : Int} (h : Pass k j) (h1 : dgi k j ≤ 1000) (h2 : 0 < j → dgi k (j - 1) = 0 → dgi k j = 0) : Pass k (j + 1) := by
  intro i hi0 hi1
  by_cases e : i = j
  · subst e; exact ⟨h1, h2⟩
  · exact h i hi0 (by omega)
theorem chk_pass (k : Int) : chk k = true ↔ (Pass k 5 ∧ k / 1125899906842624 = 1) := by
  unfold chk
  rw [decide_eq_true_iff]
  constructor
  · rintro ⟨h1, h2, h3, h4, h5, h6, h7, h8, h9, h10⟩
    refine ⟨?_, h1⟩
    refine pass_step (j := 4) (pass_step (j := 3) (pass_step (j := 2) (pass_step (j := 1) (pass_step (j := 0) (pass_zero k) h2 (by omega)) h3 (fun _ => h7)) h4 (fun _ => h8)) h5 (fun _ => h9)) h6 (fun _ => h10)
  · rintro ⟨h, h1⟩
    exact ⟨h1, (h 0 (by decide) (by decide)).1, (h 1 (by decide) (by decide)).1, (h 2 (by decide) (by decide)).1, (h 3 (by decide) (by decide)).1, (h 4 (by decide) (by decide)).1,
      (h 1 (by decide) (by decide)).2 (by decide), (h 2 (by decide) (by decide)).2 (by decide), (h 3 (by decide) (by decide)).2 (by decide), (h 4 (by decide) (by decide)).2 (by decide)⟩
theorem chk_not_pass {k j : Int} (h0 : 0 ≤ j) (h4 : j < 5) (h : ¬ (dgi k j ≤ 1000 ∧ (0 < j → dgi k (j - 1) = 0 → dgi k j = 0))) : chk k = false := by
  cases hc : chk k
  · rfl
  · exact absurd (((chk_pass k).1 hc).1 j h0 h4) h
theorem dgi_lo (k j : Int) : 0 ≤ dgi k j := by
  unfold dgi d0 d1 d2 d3 d4; repeat' split
  all_goals omega

theorem end_next (k : Int) (j : Nat) : (dgi k j == 0) = decide (0 < ((j + 1 : Nat) : Int) ∧ dgi k (((j + 1 : Nat) : Int) - 1) = 0) := by
  have h1 : (((j + 1 : Nat) : Int) - 1) = j := by omega
  have h2 : 0 < ((j + 1 : Nat) : Int) := by omega
  rw [h1, Bool.eq_iff_iff, beq_iff_eq, decide_eq_true_iff]
  exact ⟨fun h => ⟨h2, h⟩, fun h => h.2⟩

set_option maxHeartbeats 1000000 in
theorem check_any (k : Int) (w : World) :
    Calls Try.prog 86 #[.int .i64 k] w fun e w' => e = .returned (.bool (chk k)) ∧ Bl w w' := by
  go_enter Try.func86, Try.ntmps86
  go_wp2_with (go_at_call 118; refine (digits_any _ _).mono ?_; rintro e w' ⟨rfl, rfl⟩)
  go_loopw [9, 4] (fun c e wr => ∃ (j : Nat) (b : Bool), j ≤ 5 ∧ c = .int .i64 j ∧ e = .bool b ∧ Hid (b = decide ((0 : Int) < (j : Int) ∧ dgi k ((j : Int) - 1) = 0)) ∧ Hid (Pass k j) ∧ ∃ n, wr = (w.alloc (.cells #[.int .i64 k] 3)).drewN n) (fun c _ _ => 5 - (intOf c).toNat)
  case atStart => exact ⟨0, false, by omega, rfl, rfl, rfl, pass_zero k, 0, rfl⟩
  case round =>
    obtain ⟨j, b, hj, rfl, rfl, hb, hp, n, rfl⟩ := hrel
    by_cases hlt : j < 5
    · have l0 := dgi_lo k j
      have HB := chk_not_pass (k := k) (j := j) (by omega) (by omega)
      have HS := pass_step hp.out
      cases b
      · by_cases g : dgi k j ≤ 1000
        · have HR : Hid ((dgi k j == 0) = decide (0 < ((j + 1 : Nat) : Int) ∧ dgi k (((j + 1 : Nat) : Int) - 1) = 0)) := end_next k j
          have HP : Hid (Pass k ((j + 1 : Nat) : Int)) := by
            have h := hb.out
            have := HS g (fun a b => by simp [b] at h; omega)
            exact this
          clear HB HS hb hp
          go_wp2_with (go_at_call 152; refine (digit_any k _ _ _ (by omega) (by omega) (by simp)).mono ?_; rintro e w' ⟨rfl, m, rfl⟩)
          go_roundw
          case rel => exact ⟨j + 1, dgi k j == 0, by omega, by go_num, rfl, HR, HP, _, rfl⟩
          case measure => simp [intOf]; omega
        · have HC : Hid (chk k = false) := HB (fun h => g h.1)
          clear HB HS hb hp
          go_wp2_with (go_at_call 152; refine (digit_any k _ _ _ (by omega) (by omega) (by simp)).mono ?_; rintro e w' ⟨rfl, m, rfl⟩)
          go_ret
          exact ⟨ret_b HC.out.symm, by repeat (first | exact Bl.refl _ | apply Bl.drewN | apply Bl.alloc)⟩
      · by_cases g : dgi k j = 0
        · have HR : Hid ((dgi k j == 0) = decide (0 < ((j + 1 : Nat) : Int) ∧ dgi k (((j + 1 : Nat) : Int) - 1) = 0)) := end_next k j
          have HP : Hid (Pass k ((j + 1 : Nat) : Int)) := HS (by omega) (fun _ _ => g)
          have g1 : ¬ 1000 < dgi k j := by omega
          have g2 : ¬ 0 < dgi k j := by omega
          clear HB HS hb hp g
          go_wp2_with (go_at_call 152; refine (digit_any k _ _ _ (by omega) (by omega) (by simp)).mono ?_; rintro e w' ⟨rfl, m, rfl⟩)
          go_roundw
          case rel => exact ⟨j + 1, dgi k j == 0, by omega, by go_num, rfl, HR, HP, _, rfl⟩
          case measure => simp [intOf]; omega
        · have HC : Hid (chk k = false) := HB (fun h => by
            have h1 := hb.out
            simp at h1
            exact g (h.2 (by omega) h1.2))
          have g2 : 0 < dgi k j := by omega
          clear HB HS hb hp
          by_cases g1 : 1000 < dgi k j
          all_goals
            go_wp2_with (go_at_call 152; refine (digit_any k _ _ _ (by omega) (by omega) (by simp)).mono ?_; rintro e w' ⟨rfl, m, rfl⟩)
            go_ret
            exact ⟨ret_b HC.out.symm, by repeat (first | exact Bl.refl _ | apply Bl.drewN | apply Bl.alloc)⟩
    · obtain rfl : j = 5 := by omega
      have HC : Hid (chk k = (k / 1125899906842624 == 1)) := by
        have h := chk_pass k
        have h5 : Pass k 5 := hp.out
        show chk k = _
        rw [Bool.eq_iff_iff, h, beq_iff_eq]
        exact ⟨fun h => h.2, fun h => ⟨h5, h⟩⟩
      clear hb hp
      go_wp2_with fail
      go_quiet ((go_at_call 119; first | exact quiet_add_same (place_any _ _ (by decide) (by decide)) | exact Calls.quiet_of_same (place_any _ _ (by decide) (by decide))))
      go_wp2
      go_ret
      exact ⟨ret_b HC.out.symm, by repeat (first | exact Bl.refl _ | apply Bl.drewN | apply Bl.alloc)⟩
theorem dgi_pos {k j : Int} (hk : chk k = true) (h0 : 0 ≤ j) (h4 : j < 5) : 0 < dgi k j ↔ j < dep k := by
  have h := ok_of_chk hk
  have hd := dep_ok h
  obtain rfl | rfl | rfl | rfl | rfl : j = 0 ∨ j = 1 ∨ j = 2 ∨ j = 3 ∨ j = 4 := by omega
  all_goals
    rcases h.by_dep with ⟨g, p1, p2, p3, p4, p5⟩ | ⟨g, p1, p2, p3, p4, p5⟩ | ⟨g, p1, p2, p3, p4, p5⟩ | ⟨g, p1, p2, p3, p4, p5⟩ | ⟨g, p1, p2, p3, p4, p5⟩ | ⟨g, p1, p2, p3, p4, p5⟩
    all_goals
      rw [g] at hd
      simp only [dgi]
      simp
      omega

set_option maxHeartbeats 1000000 in
theorem depth_any (k : Int) (w : World) :
    Calls Try.prog 85 #[.int .i64 k] w fun e w' => e = .returned (.int .i64 (dep k)) ∧ Bl w w' := by
  cases hk : chk k
  · have HD : Hid (dep k = 0) := dep_none hk
    go_enter Try.func85, Try.ntmps85
    go_wp2_with (go_at_call 86; refine (check_any _ _).mono ?_; rintro e w1 ⟨rfl, hb1⟩)
    go_ret
    exact ⟨ret_i HD.out.symm, ‹_›⟩
  · have hpos := fun (j : Nat) (h : j < 5) => dgi_pos (j := j) hk (by omega) (by omega)
    have h5 := dep_hi k
    have h0 := dep_lo k
    have HP := Lib.hid hpos
    clear hpos
    go_enter Try.func85, Try.ntmps85
    go_wp2_with (first | (go_at_call 86; refine (check_any _ _).mono ?_; rintro e w1 ⟨rfl, hb1⟩) | (go_at_call 118; refine (digits_any _ _).mono ?_; rintro e w' ⟨rfl, rfl⟩))
    go_loopw [4] (fun c wr => ∃ j : Nat, (j : Int) ≤ dep k ∧ c = .int .i64 j ∧ ∃ n, wr = (w1.alloc (.cells #[.int .i64 k] 3)).drewN n) (fun c _ => 5 - (intOf c).toNat)
    case atStart => exact ⟨0, h0, rfl, 0, rfl⟩
    case round =>
      obtain ⟨j, hj, rfl, n, rfl⟩ := hrel
      by_cases hlt : j < 5
      · have hp := HP.out j hlt
        by_cases hd : (j : Int) < dep k
        · have hg : 0 < dgi k j := hp.2 hd
          clear hp
          go_wp2_with (go_at_call 152; refine (digit_any k _ _ _ (by omega) (by omega) (by simp)).mono ?_; rintro e w' ⟨rfl, m, rfl⟩)
          go_roundw
          case rel => exact ⟨j + 1, by omega, by go_num, _, rfl⟩
          case measure => simp [intOf]; omega
        · have hg : ¬ 0 < dgi k j := fun h => hd (hp.1 h)
          have HE : Hid ((j : Int) = dep k) := by show _ = _; omega
          clear hp
          go_wp2_with (go_at_call 152; refine (digit_any k _ _ _ (by omega) (by omega) (by simp)).mono ?_; rintro e w' ⟨rfl, m, rfl⟩)
          go_ret
          exact ⟨ret_i HE.out, hb1.trans (by repeat (first | exact Bl.refl _ | apply Bl.drewN | apply Bl.alloc))⟩
      · have HE : Hid ((j : Int) = dep k) := by show _ = _; omega
        go_wp2_with fail
        go_ret
        exact ⟨ret_i HE.out, hb1.trans (by repeat (first | exact Bl.refl _ | apply Bl.drewN | apply Bl.alloc))⟩
end Go.Proofs.Ytonndofbnhnkpaa.KeyW
