/- The program's package code: a program that may run is checked. -/
import Derived.Test.YtonndofbnhnkpaaGreatCodB
import Derived.Test.YtonndofbnhnkpaaGreatPutC
set_option linter.unusedVariables false
set_option linter.unusedSimpArgs false
set_option linter.unusedSectionVars false
namespace Go.Proofs.YtonndofbnhnkpaaGreat.CodA
open Go.RowKit Num KeyM KeyW StatW Blk VmA Prg PutA
set_option maxRecDepth 100000 in
set_option maxHeartbeats 8000000 in
theorem check_ok (pa : Option Addr) (pc : Nat) (futs depth fuel : Int) (fs : List (List Ins)) (w : World) (hP : PV fs futs depth fuel) (hC : CodeAt w.heap.size w pa fs) :
    Calls Tryz.prog 42 #[progV pa fs.length pc futs depth fuel] w fun e w' => e = .returned (.int .i64 0) ∧ Bl w w' := by
  have p1 := hP.one
  have p2 := hP.most
  have p3 := hP.futs0
  have p4 := hP.futs1
  have p5 := hP.dep0
  have p6 := hP.dep1
  have p7 := hP.fuel0
  have p8 := hP.fuel1
  obtain ⟨f0, hf0⟩ : ∃ f, fs[0]? = some f := ⟨_, List.getElem?_eq_getElem (by omega)⟩
  obtain ⟨b, off, rfl, _⟩ := hC 0 f0 hf0
  have hrow := row4_alloc w (.slice (some ⟨b, off, none⟩) fs.length pc) (.int .i64 futs) (.int .i64 depth) (.int .i64 fuel) 24
  have HC := Lib.hid hC
  have HP := Lib.hid hP
  clear hC hP hf0
  have b7 : ¬ (12 : Int) < (fs.length : Int) := by omega
  unfold progV
  go_enter Tryz.func42, Tryz.ntmps42
  go_wp2_with fail
  generalize hW1 : (w.alloc (.cells #[.slice (some ⟨b, off, none⟩) fs.length pc, .int .i64 futs, .int .i64 depth, .int .i64 fuel] 24)) = W1 at *
  have hB1 : Bl w W1 := by rw [← hW1]; exact (Bl.refl _).alloc _
  clear hW1
  go_loopw [16] (fun i wr => ∃ j : Nat, j ≤ fs.length ∧ i = .int .i64 j ∧ Bl W1 wr) (fun i _ => fs.length - (intOf i).toNat)
  case atStart => exact ⟨0, by omega, rfl, Bl.refl _⟩
  case round =>
    obtain ⟨j, hj, rfl, hB2⟩ := hrel
    have hB3 : Bl w wr := Bl.trans hB1 hB2
    by_cases hlt : j < fs.length
    · obtain ⟨f, hf⟩ : ∃ f, fs[j]? = some f := ⟨_, List.getElem?_eq_getElem hlt⟩
      obtain ⟨b', off', he, hbK, fa, fc, hc1, _⟩ := HC.out j f hf
      cases he
      have hfl := (HP.out.fns f (List.mem_of_getElem? hf)).2.1
      have hc1 := st_cell hB3 hc1
      have b1 : (j : Int) < (fs.length : Int) := by omega
      have b2 : (0 : Int) ≤ (j : Int) := by omega
      have b3 : ¬ (40 : Int) < (f.length : Int) := by omega
      clear hf
      go_wp2_with fail
      go_roundw
      case rel => exact ⟨j + 1, by omega, by go_num, hB2⟩
      case measure => simp [intOf]; omega
    · obtain rfl : j = fs.length := by omega
      have b1 : ¬ futs < 0 := by omega
      have b2 : ¬ 16 < futs := by omega
      have b3 : ¬ depth < 0 := by omega
      have b4 : ¬ 5 < depth := by omega
      have b5 : ¬ fuel < 1 := by omega
      have b6 : ¬ 500 < fuel := by omega
      obtain ⟨⟨k0, k1, k2, k3⟩, _⟩ := row4_cells (row_bl hrow hB2)
      go_wp2_with fail
      obtain ⟨Wp, hWp⟩ : ∃ Wp : World, Wp = wr := ⟨_, rfl⟩
      go_loopw [55] (fun i w2 => ∃ (q : Nat), q ≤ fs.length ∧ i = .int .i64 q ∧ Bl Wp w2) (fun i _ => fs.length - (intOf i).toNat)
      case atStart => exact ⟨0, by omega, rfl, by rw [hWp]; exact Bl.refl _⟩
      case round =>
        obtain ⟨q, hq, rfl, hB4⟩ := hrel
        have hB6 : Bl w wr := Bl.trans (by rw [hWp]; exact hB3) hB4
        clear k0 k1 k2 k3
        by_cases hlt : q < fs.length
        · obtain ⟨f, hf⟩ : ∃ f, fs[q]? = some f := ⟨_, List.getElem?_eq_getElem hlt⟩
          obtain ⟨b', off', he, hbK, fa, fc, hc1, hc2⟩ := HC.out q f hf
          cases he
          have hff := HP.out.fns f (List.mem_of_getElem? hf)
          have hfl := hff.2.1
          have HIN := Lib.hid hff.2.2.1
          have hc1' := st_cell hB6 hc1
          have a1 : (q : Int) < (fs.length : Int) := by omega
          have a2 : (0 : Int) ≤ (q : Int) := by omega
          have HC2 := Lib.hid hc2
          obtain ⟨wo, hwo⟩ : ∃ wo : World, wo = wr := ⟨_, rfl⟩
          have HW := Lib.hid hwo
          clear hf hc2 hff hwo
          go_wp2_with fail
          go_loopw [61] (fun i w2 => ∃ (m : Nat), m ≤ f.length ∧ i = .int .i64 m ∧ Bl wo w2) (fun i _ => f.length - (intOf i).toNat)
          case atStart => exact ⟨0, by omega, rfl, by rw [HW.out]; exact Bl.refl _⟩
          case round =>
            obtain ⟨m, hm, rfl, hB7⟩ := hrel
            rw [HW.out] at hB7
            have hB8 := Bl.trans hB6 hB7
            by_cases hml : m < f.length
            · obtain ⟨x, hx⟩ : ∃ x, f[m]? = some x := ⟨_, List.getElem?_eq_getElem hml⟩
              obtain ⟨db, do_, rfl, _, g0, g1, g2, g3⟩ := HC2.out m x hx
              have g0 := st_cell hB8 g0
              have g1 := st_cell hB8 g1
              have g2 := st_cell hB8 g2
              have g3 := st_cell hB8 g3
              have hsh := fun w => shape_ok x w (HIN.out x (List.mem_of_getElem? hx)).1
              unfold insV at hsh
              have a3 : (m : Int) < (f.length : Int) := by omega
              have a4 : (0 : Int) ≤ (m : Int) := by omega
              clear hx
              go_wp2_with fail
              refine (hsh _).mono ?_
              rintro e w3 ⟨rfl, b3⟩
              go_wp2_with fail
              go_roundw
              case rel => exact ⟨m + 1, by omega, by go_num, by rw [HW.out]; exact Bl.trans (Bl.trans hB7 (by repeat (first | exact Bl.refl _ | apply Bl.drewN | apply Bl.drew | apply Bl.alloc))) b3⟩
              case measure => simp [intOf]; omega
            · obtain rfl : m = f.length := by omega
              have a3 : decide (f.length < f.length) = false := by simp
              go_wp2_with fail
              go_roundw
              case rel => exact ⟨q + 1, by omega, by go_num, Bl.trans hB4 hB7⟩
              case measure => simp [intOf]; omega
        · obtain rfl : q = fs.length := by omega
          go_wp2_with fail
          go_ret
          exact ⟨rfl, hB6⟩
end Go.Proofs.YtonndofbnhnkpaaGreat.CodA
