/- VmJumps: the walk. -/
import Derived.Test.YtonndofbnhnkpaaVmJ
namespace Go.Proofs.Ytonndofbnhnkpaa.VmJ
open Go.RowKit Num KeyM KeyW StatW Blk VmA
/-- What holds at the head of the loop. -/
structure At (K B : Nat) (pa : Option Addr) (k s : Nat) (w wr : World) : Prop where
  good : ∃ t, Is wr B t ∧ Good pa k s t
  code : CodeAt K wr pa [jf]
  ch : Ch (fun i => w.heap.size ≤ i) w wr
  lt : ∀ b, b < K → b < wr.heap.size
theorem At.next {K B : Nat} {pa : Option Addr} {k s : Nat} {w wr : World} (h : At K B pa k s w wr) (hK : K ≤ B) (hw : w.heap.size ≤ B) (hk : k < 90) (hs : s < 3 + 4 * k) :
    Calls Try.prog 30 #[.pointer (some ⟨B, 0, none⟩)] wr fun e w' => e = .returned (.agg #[.int .i64 0, .int .i64 0, .int .i64 0, .int .i64 0]) ∧ At K B pa k (s + 1) w w' := by
  obtain ⟨⟨t, h1, h2⟩, h3, h4, h5⟩ := h
  refine (adv K B pa k s t wr h1 h3 hK h2 hk hs).mono ?_
  rintro e w' ⟨rfl, t', g1, g2, g3⟩
  exact ⟨rfl, ⟨t', g1, g2⟩, h3.on g3 hK, h4.then g3 (fun i hi h => by subst h; omega), fun b hb => Nat.lt_of_lt_of_le (h5 b hb) g3.size⟩
theorem At.over {K B : Nat} {pa : Option Addr} {k : Nat} {w wr : World} (h : At K B pa k (3 + 4 * k) w wr) (hw : w.heap.size ≤ B) :
    Calls Try.prog 30 #[.pointer (some ⟨B, 0, none⟩)] wr fun e w' => e = .returned (.agg #[.int .i64 7, .int .i64 0, .int .i64 0, .int .i64 0]) ∧ Is w' B (jt pa 6 (500 - ((3 + 4 * k : Nat) : Int)) 0 1 k 1 k) ∧ Ch (fun i => w.heap.size ≤ i) w w' := by
  obtain ⟨⟨t, h1, h2⟩, h3, h4, h5⟩ := h
  obtain rfl := good_end h2
  refine (next_over B _ wr h1 rfl).mono ?_
  rintro e w' ⟨rfl, g1, g2⟩
  exact ⟨rfl, g1, h4.then g2 (fun i hi h => by subst h; omega)⟩
set_option maxRecDepth 100000 in
set_option maxHeartbeats 4000000 in
theorem walk (n : Int) (w : World) : Calls Try.prog 7 #[.int .i64 n] w fun e w' => e = .returned (.bool true) ∧ Bl w w' := by
  have hP := fun w => Val.place_any n 90 w (by decide) (by decide)
  have u1 := Int.emod_nonneg n (b := 90) (by decide)
  have u2 := Int.emod_lt_of_pos n (b := 90) (by decide)
  obtain ⟨k, hk⟩ := Int.eq_ofNat_of_zero_le u1
  rw [hk] at hP u2
  have hk9 : k < 90 := by omega
  clear u1 hk
  have hcode := code_one w jf
  have hN := fun a w => new_any a 1 1 0 0 500 0 k 1125899906842624 w
  have hfl := field_act
  go_enter Try.func7, Try.ntmps7
  go_wp2_with (first | (go_at_call 26; with_reducible refine (hP _).mono ?_; rintro e w1 ⟨rfl, rfl⟩))
  refine (hN _ _).mono ?_
  rintro e w1 ⟨g, rfl, hg, hI, hb⟩
  simp at hg
  have hA : At (w.heap.size + 2) g (some ⟨w.heap.size + 1, 0, none⟩) k 0 w w1 := by
    refine ⟨⟨_, hI, Or.inl ⟨rfl, ?_⟩⟩, ?_, ?_, ?_⟩
    · unfold jt
      congr 1
      funext j
      unfold rg
      rw [w32_in _ (by omega) (by omega)]
      by_cases h0 : j = 0 <;> simp [h0]
    · exact (hcode.bl ((Bl.refl _).alloc _)).bl hb
    · exact Ch.of_bl (Bl.trans ((((Bl.refl _).alloc _).alloc _).alloc _) hb)
    · intro b hb2
      have := hb.size
      simp at this
      omega
  have HA := Lib.hid hA
  have hgK : w.heap.size + 2 ≤ g := by omega
  clear hcode hN hP hI hA hb
  go_wp2_with fail
  go_loopw [6] (fun i wr => ∃ s : Nat, s ≤ 3 + 4 * k ∧ i = .int .i64 s ∧ At (w.heap.size + 2) g (some ⟨w.heap.size + 1, 0, none⟩) k s w wr) (fun i _ => 1000 - (intOf i).toNat)
  case atStart => exact ⟨0, by omega, rfl, HA.out⟩
  case round =>
    obtain ⟨s, hs, rfl, hAt⟩ := hrel
    by_cases hlt : s < 3 + 4 * k
    · have hX := hAt.next hgK (by omega) hk9 hlt
      clear hAt HA
      go_wp2_with fail
      refine hX.mono ?_
      rintro e w2 ⟨rfl, hA2⟩
      go_wp2_with fail
      go_roundw
      case rel => exact ⟨s + 1, by omega, by go_num, hA2⟩
      case measure => simp [intOf]; omega
    · obtain rfl : s = 3 + 4 * k := by omega
      have hX := hAt.over (by omega)
      clear hAt HA
      go_wp2_with fail
      refine hX.mono ?_
      rintro e w2 ⟨rfl, hI2, hC2⟩
      have hE := end_any g _ w2 hI2
      have hI3 := fun w' (h : Bl w2 w') => hI2.bl h
      have hL := fun w' (h : Bl w2 w') => place4_any g _ w' (hI3 w' h)
      have hW := fun w => VmA.awake_any w
      simp only [jt] at hE hL
      clear hI2 hI3 hX
      have hb1 : endB ⟨some ⟨w.heap.size + 1, 0, none⟩, 1, 1, 0, 0, 500, 0, 6, 500 - ((3 + 4 * k : Nat) : Int), 0, 1125899906842624, rg 0 1 k, fun _ => Hd.zero, 1, k⟩ = true := rfl
      rw [hb1] at hE
      clear hb1
      go_wp2_with fail
      refine hE.mono ?_
      rintro e w3 ⟨rfl, hb3⟩
      go_wp2_with fail
      refine (hL _ (Bl.alloc hb3 _)).mono ?_
      rintro e w4 ⟨rfl, nq, rfl⟩
      go_wp2_with (first | (refine (hW _).mono ?_; rintro e w5 ⟨rfl, hb5⟩))
      go_ret
      exact ⟨rfl, (hC2.trans (Ch.of_bl (Bl.trans (Bl.drewN (Bl.alloc hb3 _) nq) hb5))).bl (fun i hi h => by omega)⟩
theorem walk_of (n : Int) (w : World) (_ : (Lit.int .i64 n).wf = true) : Calls Try.prog 7 #[.int .i64 n] w fun e w' => e = .returned (.bool true) ∧ Bl w w' := walk n w
end Go.Proofs.Ytonndofbnhnkpaa.VmJ
