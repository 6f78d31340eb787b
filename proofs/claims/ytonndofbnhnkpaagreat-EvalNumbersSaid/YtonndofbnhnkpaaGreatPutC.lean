/- The reference of chapter 2: the bytes of a program that may run. -/
import Derived.Test.YtonndofbnhnkpaaGreatPutB
set_option linter.unusedVariables false
set_option linter.unusedSimpArgs false
set_option linter.unusedSectionVars false
namespace Go.Proofs.YtonndofbnhnkpaaGreat.PutA
open Go.RowKit Num KeyM KeyW StatW Blk VmA Prg
def progV (pa : Option Addr) (n pc : Nat) (futs depth fuel : Int) : Value := .agg #[.slice pa n pc, .int .i64 futs, .int .i64 depth, .int .i64 fuel]
set_option maxRecDepth 100000 in
set_option maxHeartbeats 8000000 in
theorem put_ok (pa : Option Addr) (pc : Nat) (futs depth fuel : Int) (fs : List (List Ins)) (w : World) (hP : PV fs futs depth fuel) (hC : CodeAt w.heap.size w pa fs) :
    Calls Tryz.prog 37 #[progV pa fs.length pc futs depth fuel] w fun e w' => ∃ s : ByteArray, e = .returned (.tuple #[.string s, .int .i64 0]) ∧ Bl w w' := by
  have p1 := hP.one
  have p2 := hP.most
  have p3 := hP.futs0
  have p4 := hP.futs1
  have p5 := hP.dep0
  have p6 := hP.dep1
  have p7 := hP.fuel0
  have p8 := hP.fuel1
  have hrow := row4_alloc w (.slice pa fs.length pc) (.int .i64 futs) (.int .i64 depth) (.int .i64 fuel) 24
  have HC := Lib.hid hC
  have HP := Lib.hid hP
  clear hC hP
  unfold progV
  go_enter Tryz.func37, Tryz.ntmps37
  go_wp2_with fail
  generalize hW1 : (w.alloc (.cells #[.slice pa fs.length pc, .int .i64 futs, .int .i64 depth, .int .i64 fuel] 24)) = W1 at *
  have hB1 : Bl w W1 := by rw [← hW1]; exact (Bl.refl _).alloc _
  clear hW1
  go_loopw [4] (fun i wr => ∃ j : Nat, j ≤ fs.length ∧ i = .int .i64 j ∧ Bl W1 wr) (fun i _ => fs.length - (intOf i).toNat)
  case atStart => exact ⟨0, by omega, rfl, Bl.refl _⟩
  case round =>
    obtain ⟨j, hj, rfl, hB2⟩ := hrel
    have hB3 : Bl w wr := Bl.trans hB1 hB2
    obtain ⟨⟨k0, k1, k2, k3⟩, _⟩ := row4_cells (row_bl hrow hB2)
    by_cases hlt : j < fs.length
    · obtain ⟨f, hf⟩ : ∃ f, fs[j]? = some f := ⟨_, List.getElem?_eq_getElem hlt⟩
      obtain ⟨b, off, hpa, hbK, fa, fc, hc1, _⟩ := HC.out j f hf
      have hfl := (HP.out.fns f (List.mem_of_getElem? hf)).2.1
      have hc1 := st_cell hB3 hc1
      rw [hpa] at k0
      have b1 : (j : Int) < (fs.length : Int) := by omega
      have b2 : (0 : Int) ≤ (j : Int) := by omega
      have b3 : ¬ (40 : Int) < (f.length : Int) := by omega
      have HPA := Lib.hid hpa
      clear hf hpa
      go_wp2_with fail
      go_roundw
      case rel => exact ⟨j + 1, by omega, by go_num, hB2⟩
      case measure => simp [intOf]; omega
    · obtain rfl : j = fs.length := by omega
      have b1 : ¬ futs < 0 := by omega
      have b2 : ¬ 16 < futs := by omega
      have b3 : ¬ depth < 0 := by omega
      have b4 : ¬ 5 < depth := by omega
      have b5 : ¬ fuel < 1 := by omega
      have b6 : ¬ 500 < fuel := by omega
      have z5 := conv5
      have z1 := conv1
      go_wp2_with fail
      obtain ⟨Wp, rfl⟩ : ∃ Wp : World, Wp = wr := ⟨_, rfl⟩
      go_loopw [5, 6] (fun x i w2 => ∃ (q : Nat) (s : ByteArray), q ≤ fs.length ∧ s.size ≤ 8 + 241 * q ∧ x = .string s ∧ i = .int .i64 q ∧ Bl Wp w2) (fun _ i _ => fs.length - (intOf i).toNat)
      case atStart => exact ⟨0, _, by omega, by (rw [ByteArray.size_append, str_size]; simp [ByteArray.size]), rfl, rfl, by repeat (first | exact Bl.refl _ | assumption | apply Bl.drewN | apply Bl.drew | apply Bl.alloc | refine Bl.trans ?_ (by assumption))⟩
      case round =>
        obtain ⟨q, s, hq, hsz, rfl, rfl, hB4⟩ := hrel
        have hs1 : ∀ x0, (strOfNums [x0]).size = 1 := fun x0 => by rw [str_size]; rfl
        have hB5 : Bl W1 wr := Bl.trans hB2 hB4
        have hB6 : Bl w wr := Bl.trans hB1 hB5
        clear k0 k1 k2 k3 hB3
        obtain ⟨⟨k0, k1, k2, k3⟩, _⟩ := row4_cells (row_bl hrow hB5)
        by_cases hlt : q < fs.length
        · obtain ⟨f, hf⟩ : ∃ f, fs[q]? = some f := ⟨_, List.getElem?_eq_getElem hlt⟩
          obtain ⟨b, off, hpa, hbK, fa, fc, hc1, hc2⟩ := HC.out q f hf
          have hff := HP.out.fns f (List.mem_of_getElem? hf)
          have hfl := hff.2.1
          have HIN := Lib.hid hff.2.2.1
          have hk0 := k0
          rw [hpa] at k0
          have hc1' := st_cell hB6 hc1
          have a1 : (q : Int) < (fs.length : Int) := by omega
          have a2 : (0 : Int) ≤ (q : Int) := by omega
          have HC2 := Lib.hid hc2
          have HPA := Lib.hid hpa
          have hrow2 := row_bl hrow hB5
          rw [hpa] at hrow2
          obtain ⟨wo, rfl⟩ : ∃ wo : World, wo = wr := ⟨_, rfl⟩
          clear hf hc2 hff hk0 hpa
          go_wp2_with fail
          go_loopw [5, 7] (fun x i w2 => ∃ (m : Nat) (s : ByteArray), m ≤ f.length ∧ s.size ≤ 9 + 241 * q + 6 * m ∧ x = .string s ∧ i = .int .i64 m ∧ Bl wo w2) (fun _ i _ => f.length - (intOf i).toNat)
          case atStart => exact ⟨0, _, by omega, by (rw [ByteArray.size_append, hs1]; omega), rfl, rfl, by repeat (first | exact Bl.refl _ | assumption | apply Bl.drewN | apply Bl.drew | apply Bl.alloc | refine Bl.trans ?_ (by assumption))⟩
          case round =>
            obtain ⟨m, s2, hm, hsz2, rfl, rfl, hB7⟩ := hrel
            have hB8 : Bl w wr := Bl.trans hB6 hB7
            clear k0 k1 k2 k3
            obtain ⟨⟨k0, k1, k2, k3⟩, _⟩ := row4_cells (row_bl hrow2 hB7)
            have hc1' := st_cell hB7 hc1'
            by_cases hml : m < f.length
            · obtain ⟨x, hx⟩ : ∃ x, f[m]? = some x := ⟨_, List.getElem?_eq_getElem hml⟩
              obtain ⟨db, do_, rfl, _, g0, g1, g2, g3⟩ := HC2.out m x hx
              have g0 := st_cell hB8 g0
              have g1 := st_cell hB8 g1
              have g2 := st_cell hB8 g2
              have g3 := st_cell hB8 g3
              have hsh := fun w => shape_ok x w (HIN.out x (List.mem_of_getElem? hx)).1
              have hin := fun w => ins_any x w
              unfold insV at hsh hin
              have a3 : (m : Int) < (f.length : Int) := by omega
              have a4 : (0 : Int) ≤ (m : Int) := by omega
              clear hx
              go_wp2_with fail
              refine (hsh _).mono ?_
              rintro e w3 ⟨rfl, b3⟩
              have k0 := st_cell b3 k0
              have hc1' := st_cell b3 hc1'
              have g0 := st_cell b3 g0
              have g1 := st_cell b3 g1
              have g2 := st_cell b3 g2
              have g3 := st_cell b3 g3
              go_wp2_with fail
              refine (hin _).mono ?_
              rintro e w4 ⟨s4, rfl, hs4, b4⟩
              go_wp2_with fail
              go_roundw
              case rel =>
                first
                  | exact ⟨m + 1, s2 ++ s4, by omega, by (rw [ByteArray.size_append]; omega), rfl, by go_num, by repeat (first | exact Bl.refl _ | assumption | apply Bl.drewN | apply Bl.drew | apply Bl.alloc | refine Bl.trans ?_ (by assumption))⟩
                  | ((repeat apply Exists.intro); exact ⟨⟨m + 1, s2 ++ s4, by omega, by (rw [ByteArray.size_append]; omega), rfl, by go_num, by repeat (first | exact Bl.refl _ | assumption | apply Bl.drewN | apply Bl.drew | apply Bl.alloc | refine Bl.trans ?_ (by assumption))⟩, rfl⟩)
              case measure => simp [intOf]; omega
            · obtain rfl : m = f.length := by omega
              have a3 : decide (f.length < f.length) = false := by simp
              go_wp2_with fail
              go_roundw
              case rel => exact ⟨q + 1, _, by omega, by omega, rfl, by go_num, Bl.trans hB4 hB7⟩
              case measure => simp [intOf]; omega
        · obtain rfl : q = fs.length := by omega
          go_wp2_with fail
          go_ret2
          exact ⟨_, rfl, hB6⟩
end Go.Proofs.YtonndofbnhnkpaaGreat.PutA
