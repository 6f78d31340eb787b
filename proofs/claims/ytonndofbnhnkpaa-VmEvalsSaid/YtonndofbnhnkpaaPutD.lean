/- The reference of chapter 5: a program that may run. -/
import Derived.Test.YtonndofbnhnkpaaPutC
import Derived.Test.YtonndofbnhnkpaaVmW
import Derived.BigQuiet
import Derived.Deep.QuietTactic
namespace Go.Proofs.Ytonndofbnhnkpaa.PutA
open Go.RowKit Num KeyM KeyW StatW Blk VmA Prg
set_option maxHeartbeats 4000000 in
theorem right5_ok (pa : Option Addr) (nf pc : Nat) (futs depth fuel : Int) (n : Nat) (i : Ins) (w : World) (h : InsIn nf futs n i) :
    Calls Try.prog 128 #[progV pa nf pc futs depth fuel, .int .i64 n, insV i] w fun e w' => e = .returned (.bool true) ∧ Bl w w' := by
  obtain ⟨ho, _⟩ := fits_of h.1
  obtain ⟨op, a, b, c⟩ := i
  obtain ⟨_, h7, h8, h9, h11, h12⟩ := h
  simp only at ho h7 h8 h9 h11 h12
  unfold progV insV
  rcases ho with rfl | rfl | rfl | rfl | rfl | rfl | rfl | rfl | rfl | rfl | rfl | rfl | rfl | rfl | rfl
  all_goals
    try simp only [true_implies, forall_const] at h7 h8 h9 h11 h12
    go_enter Try.func128, Try.ntmps128
    go_wp2_with fail
    go_ret
    exact ⟨rfl, by repeat (first | exact Bl.refl _ | assumption | apply Bl.drewN | apply Bl.drew | apply Bl.alloc | refine Bl.trans ?_ (by assumption))⟩
set_option maxRecDepth 100000 in
set_option maxHeartbeats 8000000 in
theorem check_ok (pa : Option Addr) (pc : Nat) (futs depth fuel : Int) (fs : List (List Ins)) (w : World) (hP : PV fs futs depth fuel) (hC : CodeAt w.heap.size w pa fs) :
    Calls Try.prog 96 #[progV pa fs.length pc futs depth fuel] w fun e w' => e = .returned (.int .i64 0) ∧ Bl w w' := by
  have hput := fun w' (hb : Bl w w') => put_ok pa pc futs depth fuel fs w' hP (Prg.CodeAt.mono (hC.bl hb) hb.size)
  have p1 := hP.one
  have p2 := hP.most
  have hrow := row4_alloc w (.slice pa fs.length pc) (.int .i64 futs) (.int .i64 depth) (.int .i64 fuel) 52
  have HC := Lib.hid hC
  have HP := Lib.hid hP
  clear hC hP
  unfold progV at *
  go_enter Try.func96, Try.ntmps96
  go_wp2_with fail
  refine (hput _ ((Bl.refl _).alloc _)).mono ?_
  rintro e w1 ⟨s, rfl, hb1⟩
  have hrow1 := row_bl hrow hb1
  have hB1 : Bl w w1 := Bl.trans ((Bl.refl _).alloc _) hb1
  clear hput hrow hb1
  go_wp2_with fail
  go_loopw [5] (fun i wr => ∃ j : Nat, j ≤ fs.length ∧ i = .int .i64 j ∧ Bl w1 wr) (fun i _ => fs.length - (intOf i).toNat)
  case atStart => exact ⟨0, by omega, rfl, Bl.refl _⟩
  case round =>
    obtain ⟨j, hj, rfl, hB2⟩ := hrel
    have hB3 : Bl w wr := Bl.trans hB1 hB2
    obtain ⟨⟨k0, k1, k2, k3⟩, _⟩ := row4_cells (row_bl hrow1 hB2)
    by_cases hlt : j < fs.length
    · obtain ⟨f, hf⟩ : ∃ f, fs[j]? = some f := ⟨_, List.getElem?_eq_getElem hlt⟩
      obtain ⟨b, off, hpa, hbK, fa, fc, hc1, hc2⟩ := HC.out j f hf
      obtain ⟨hf1, hf2, hf3, y, hy, hyo⟩ := HP.out.fns f (List.mem_of_getElem? hf)
      have hc1 := st_cell hB3 hc1
      have hrow2 := row_bl hrow1 hB2
      rw [hpa] at k0 hrow2
      have b1 : (j : Int) < (fs.length : Int) := by omega
      have b2 : (0 : Int) ≤ (j : Int) := by omega
      obtain ⟨db, do_, rfl, _, g0, _⟩ := hc2 (f.length - 1) y hy
      have g0 := st_cell hB3 g0
      have HC2 := Lib.hid hc2
      have HI := Lib.hid hf3
      have HPA := Lib.hid hpa
      have c1 : (f.length : Int) - 1 < (f.length : Int) := by omega
      have c2 : (0 : Int) ≤ (f.length : Int) - 1 := by omega
      have c3 : ((f.length : Int) - 1).toNat = f.length - 1 := by omega
      have c4 : ((f.length : Int) == 0) = false := beq_eq_false_iff_ne.2 (by omega)
      obtain ⟨wo, rfl⟩ : ∃ wo : World, wo = wr := ⟨_, rfl⟩
      clear hf hc2 hf3 hpa hy
      rcases hyo with hyo | hyo
      all_goals
        rw [hyo] at g0
        clear hyo
        go_wp2_with fail
        go_loopw [8] (fun i w2 => ∃ m : Nat, m ≤ f.length ∧ i = .int .i64 m ∧ Bl wo w2) (fun i _ => f.length - (intOf i).toNat)
        case atStart => exact ⟨0, by omega, rfl, Bl.refl _⟩
        case round =>
          obtain ⟨m, hm, rfl, hB7⟩ := hrel
          have hB8 : Bl w wr := Bl.trans hB3 hB7
          clear k0 k1 k2 k3 g0
          obtain ⟨⟨k0, k1, k2, k3⟩, _⟩ := row4_cells (row_bl hrow2 hB7)
          by_cases hml : m < f.length
          · obtain ⟨x, hx⟩ : ∃ x, f[m]? = some x := ⟨_, List.getElem?_eq_getElem hml⟩
            obtain ⟨db', do', hda, _, g0, g1, g2, g3⟩ := HC2.out m x hx
            cases hda
            have g0 := st_cell hB8 g0
            have g1 := st_cell hB8 g1
            have g2 := st_cell hB8 g2
            have g3 := st_cell hB8 g3
            have hrt := fun w => right5_ok (some ⟨b, off, none⟩) fs.length pc futs depth fuel f.length x w (HI.out x (List.mem_of_getElem? hx))
            unfold progV insV at hrt
            have a3 : (m : Int) < (f.length : Int) := by omega
            have a4 : (0 : Int) ≤ (m : Int) := by omega
            clear hx
            go_wp2_with fail
            refine still_tail 6 (by kernel_rfl) (by kernel_rfl) ?_
            simp only [List.take_succ_cons, List.take_zero, List.drop_succ_cons, List.drop_zero]
            repeat still_step
            refine wpStill_nil ?_
            go_wp2_with fail
            refine (hrt _).mono ?_
            rintro e w3 ⟨rfl, b3⟩
            go_wp2_with fail
            go_roundw
            case rel => exact ⟨m + 1, by omega, by go_num, by repeat (first | exact Bl.refl _ | assumption | apply Bl.drewN | apply Bl.drew | apply Bl.alloc | refine Bl.trans ?_ (by assumption))⟩
            case measure => simp [intOf]; omega
          · obtain rfl : m = f.length := by omega
            go_wp2_with fail
            go_roundw
            case rel => exact ⟨j + 1, by omega, by go_num, Bl.trans hB2 hB7⟩
            case measure => simp [intOf]; omega
    · obtain rfl : j = fs.length := by omega
      have c4 : ((fs.length : Int) == 0) = false := beq_eq_false_iff_ne.2 (by omega)
      go_wp2_with fail
      go_ret
      exact ⟨rfl, hB3⟩
end Go.Proofs.Ytonndofbnhnkpaa.PutA
