/- VmFuel: the walk, its whole. -/
import Derived.Test.YtonndofbnhnkpaaVmFW
namespace Go.Proofs.Ytonndofbnhnkpaa.VmFW
open Go.RowKit Num KeyM KeyW StatW Blk VmA VmG Prg Frm
theorem walk_long (a : Option Addr) (la ca : Nat) (arg times : Int) (w : World) (hl : 100 < la) :
    Calls Try.prog 8 #[.slice a la ca, .int .i64 arg, .int .i64 times] w fun e w' => e = .returned (.bool true) ∧ Bl w w' := by
  have hW := fun w => VmA.awake_any w
  have hl' : (100 : Int) < (la : Int) := by omega
  go_enter Try.func8, Try.ntmps8
  go_wp2_with (first | (go_at_call 33; refine (hW _).mono ?_; rintro e w1 ⟨rfl, hb1⟩))
  go_ret
  exact ⟨rfl, hb1⟩
set_option maxRecDepth 100000 in
set_option maxHeartbeats 8000000 in
theorem walk (a : Option Addr) (la ca : Nat) (zs : List Int) (arg times : Int) (w : World) (ha : IsRow .i64 w a la ca zs) (hl : la ≤ 100) :
    Calls Try.prog 8 #[.slice a la ca, .int .i64 arg, .int .i64 times] w fun e w' => e = .returned (.bool true) ∧ Bl w w' := by
  have hP := prog_any a la ca zs true w ha
  have hT := fun w => Val.place_any times 100 w (by decide) (by decide)
  have u1 := Int.emod_nonneg times (b := 100) (by decide)
  have u2 := Int.emod_lt_of_pos times (b := 100) (by decide)
  obtain ⟨k, hk⟩ := Int.eq_ofNat_of_zero_le u1
  rw [hk] at hT u2
  have hl' : ¬ (100 : Int) < (la : Int) := by omega
  clear u1 hk ha
  go_enter Try.func8, Try.ntmps8
  go_wp2_with fail
  refine hP.mono ?_
  rintro e w1 ⟨pa, pc, futs, depth, fuel, fs, rfl, hPV, hcode, hb⟩
  have hN := fun w => new_any pa fs.length pc futs depth fuel 0 arg 1125899906842624 w
  have HC := Lib.hid hcode
  clear hP hcode
  go_wp2_with fail
  refine (hN _).mono ?_
  rintro e w2 ⟨g, rfl, hg, hI, hb2⟩
  have hfuel := hPV.fuel0
  have hfuel1 := hPV.fuel1
  have hrow := row4_alloc w1 (.slice pa fs.length pc) (.int .i64 futs) (.int .i64 depth) (.int .i64 fuel) 52
  simp at hg
  have hA : At w1.heap.size (four (.slice pa fs.length pc) (.int .i64 futs) (.int .i64 depth) (.int .i64 fuel)) w1.heap.size g pa fs futs fuel 0 w w2 (tk0 pa fs.length pc futs depth fuel 0 arg 1125899906842624) := by
    refine ⟨hI, ⟨root_ok.1, hPV.dep1, Int.le_refl _, fun _ => ?_⟩, (HC.out.bl ((Bl.refl _).alloc _)).bl hb2, rfl, rfl, rfl, by show 0 + fuel = fuel; omega, by show 0 ≤ fuel; omega, fun _ => rfl, Ch.of_bl (Bl.trans (Bl.trans hb ((Bl.refl _).alloc _)) hb2), row_bl hrow hb2, by omega⟩
    have h1 := hPV.one
    obtain ⟨f, hf⟩ : ∃ f, fs[0]? = some f := ⟨_, List.getElem?_eq_getElem (by omega)⟩
    have hfl := (hPV.fns f (List.mem_of_getElem? hf)).1
    obtain ⟨y, hy, hy1, hy2, hy3⟩ := fn_at hPV hf 0 (by omega)
    exact ⟨0, 0, f, y, rfl, hf, rfl, hy, hy1, hy2, hy3, fun q hq => fn_at hPV hf q hq⟩
  have HA := Lib.hid hA
  have hK : w1.heap.size ≤ g := by omega
  have hw : w.heap.size ≤ g := by have := hb.size; omega
  clear hA hI hb2 hb hrow hN HC
  go_wp2_with (first | (go_at_call 26; with_reducible refine (hT _).mono ?_; rintro e w3 ⟨rfl, rfl⟩))
  go_loopw [10, 11] (fun us i wr => ∃ (q : Nat) (t : Tk) (u : Int), q ≤ k ∧ i = .int .i64 q ∧ us = .int .i64 u ∧ 0 ≤ u ∧ u ≤ q ∧ At w1.heap.size (four (.slice pa fs.length pc) (.int .i64 futs) (.int .i64 depth) (.int .i64 fuel)) w1.heap.size g pa fs futs fuel u w wr t) (fun _ i _ => 100 - (intOf i).toNat)
  case atStart => exact ⟨0, _, 0, by omega, rfl, rfl, by omega, by omega, HA.out⟩
  case round =>
    obtain ⟨q, t, u, hq, rfl, rfl, hu0, hu1, hAt⟩ := hrel
    clear HA
    by_cases hlt : q < k
    · have hE := end_any g t wr hAt.is
      have hL := fun w' (h : Bl wr w') => place4_any g t w' (hAt.is.bl h)
      have hfu := hAt.fuel
      have hfu0 := hAt.fuel0
      cases he : endB t
      · rw [he] at hE
        by_cases hf : t.fuel = 0
        · obtain ⟨s1, s2, s3⟩ := stop_how he
          have hX := fun w' (h : Bl wr w') => (hAt.bl h).out hK hw he hf
          have HE := Lib.hid he
          clear hAt he
          go_wp2_with fail
          refine hE.mono ?_
          rintro e w3 ⟨rfl, b3⟩
          go_wp2_with fail
          refine (hL _ (by repeat (first | with_reducible exact Bl.refl _ | with_reducible assumption | with_reducible apply Bl.drew | with_reducible apply Bl.drewN | with_reducible apply Bl.alloc | (with_reducible refine Bl.trans ?_ (by assumption))))).mono ?_
          rintro e w4 ⟨rfl, nq, rfl⟩
          go_wp2_with fail
          refine (hX _ (by repeat (first | with_reducible exact Bl.refl _ | with_reducible assumption | with_reducible apply Bl.drew | with_reducible apply Bl.drewN | with_reducible apply Bl.alloc | (with_reducible refine Bl.trans ?_ (by assumption))))).mono ?_
          rintro e w5 ⟨rfl, hA5⟩
          have hL5 := fun w' (h : Bl w5 w') => place4_any g (t.stop 5) w' (hA5.is.bl h)
          have hE5 := fun w' (h : Bl w5 w') => end_any g (t.stop 5) w' (hA5.is.bl h)
          rw [s1, s2] at hE5
          rw [s3] at hL5
          clear s1 s2 s3
          have HA5 := Lib.hid hA5
          clear hA5 hX hE hL
          unfold actV
          simp only [Act.zero]
          go_wp2_with fail
          refine (hL5 _ (by repeat (first | with_reducible exact Bl.refl _ | with_reducible assumption | with_reducible apply Bl.drew | with_reducible apply Bl.drewN | with_reducible apply Bl.alloc | (with_reducible refine Bl.trans ?_ (by assumption))))).mono ?_
          rintro e w6 ⟨rfl, nq2, rfl⟩
          go_wp2_with fail
          refine (hE5 _ (by repeat (first | with_reducible exact Bl.refl _ | with_reducible assumption | with_reducible apply Bl.drew | with_reducible apply Bl.drewN | with_reducible apply Bl.alloc | (with_reducible refine Bl.trans ?_ (by assumption))))).mono ?_
          rintro e w7 ⟨rfl, b7⟩
          have r7 := row_bl (row_drewN (row4_alloc w5 (.int .i64 0) (.int .i64 0) (.int .i64 0) (.int .i64 0) 56) nq2) b7
          have kA := (row4_cells r7).1.1
          have hz7 := r7.lt
          clear r7
          go_wp2_with fail
          go_roundw
          case rel => exact ⟨q + 1, t.stop 5, u, by omega, by go_num, rfl, by omega, by omega, HA5.out.bl (by repeat (first | with_reducible exact Bl.refl _ | with_reducible assumption | with_reducible apply Bl.drew | with_reducible apply Bl.drewN | with_reducible apply Bl.alloc | (with_reducible refine Bl.trans ?_ (by assumption))))⟩
          case measure => simp [intOf]; omega
        · have hX := fun w' (h : Bl wr w') => (hAt.bl h).next hPV hK hw he (by omega) (by omega)
          have HE := Lib.hid he
          have hf0 : (t.fuel == 0) = false := by simpa using hf
          clear hAt he hf
          go_wp2_with fail
          refine hE.mono ?_
          rintro e w3 ⟨rfl, b3⟩
          go_wp2_with fail
          refine (hL _ (by repeat (first | with_reducible exact Bl.refl _ | with_reducible assumption | with_reducible apply Bl.drew | with_reducible apply Bl.drewN | with_reducible apply Bl.alloc | (with_reducible refine Bl.trans ?_ (by assumption))))).mono ?_
          rintro e w4 ⟨rfl, nq, rfl⟩
          go_wp2_with fail
          refine (hX _ (by repeat (first | with_reducible exact Bl.refl _ | with_reducible assumption | with_reducible apply Bl.drew | with_reducible apply Bl.drewN | with_reducible apply Bl.alloc | (with_reducible refine Bl.trans ?_ (by assumption))))).mono ?_
          rintro e w5 ⟨⟨ak, aa, ab, ac⟩, t2, rfl, ha7, ha2, hu2, hA5⟩
          simp only at ha7 ha2
          have a7 : (ak == 7) = false := by simpa using ha7
          have a2 : (ak == 2) = false := by simpa using ha2
          clear ha7 ha2
          have hL5 := fun w' (h : Bl w5 w') => place4_any g t2 w' (hA5.is.bl h)
          have hE5 := fun w' (h : Bl w5 w') => end_any g t2 w' (hA5.is.bl h)
          rw [hu2] at hL5
          have HU2 := Lib.hid hu2
          clear hu2
          have HA5 := Lib.hid hA5
          clear hA5 hX hE hL
          unfold actV
          simp only [Act.zero]
          go_wp2_with fail
          refine (hL5 _ (by repeat (first | with_reducible exact Bl.refl _ | with_reducible assumption | with_reducible apply Bl.drew | with_reducible apply Bl.drewN | with_reducible apply Bl.alloc | (with_reducible refine Bl.trans ?_ (by assumption))))).mono ?_
          rintro e w6 ⟨rfl, nq2, rfl⟩
          go_wp2_with fail
          refine (hE5 _ (by repeat (first | with_reducible exact Bl.refl _ | with_reducible assumption | with_reducible apply Bl.drew | with_reducible apply Bl.drewN | with_reducible apply Bl.alloc | (with_reducible refine Bl.trans ?_ (by assumption))))).mono ?_
          rintro e w7 ⟨rfl, b7⟩
          have r7 := row_bl (row_drewN (row4_alloc w5 (.int .i64 ak) (.int .i64 aa) (.int .i64 ab) (.int .i64 ac) 56) nq2) b7
          have kA := (row4_cells r7).1.1
          have hz7 := r7.lt
          clear r7
          go_wp2_with fail
          go_roundw
          case rel => exact ⟨q + 1, t2, u + 1, by omega, by go_num, rfl, by omega, by omega, HA5.out.bl (by repeat (first | with_reducible exact Bl.refl _ | with_reducible assumption | with_reducible apply Bl.drew | with_reducible apply Bl.drewN | with_reducible apply Bl.alloc | (with_reducible refine Bl.trans ?_ (by assumption))))⟩
          case measure => simp [intOf]; omega
      · rw [he] at hE
        have hX := fun w' (h : Bl wr w') => (hAt.bl h).over hK hw he
        have HE := Lib.hid he
        clear hAt he
        go_wp2_with fail
        refine hE.mono ?_
        rintro e w3 ⟨rfl, b3⟩
        go_wp2_with fail
        refine (hL _ (by repeat (first | with_reducible exact Bl.refl _ | with_reducible assumption | with_reducible apply Bl.drew | with_reducible apply Bl.drewN | with_reducible apply Bl.alloc | (with_reducible refine Bl.trans ?_ (by assumption))))).mono ?_
        rintro e w4 ⟨rfl, nq, rfl⟩
        go_wp2_with fail
        refine (hX _ (by repeat (first | with_reducible exact Bl.refl _ | with_reducible assumption | with_reducible apply Bl.drew | with_reducible apply Bl.drewN | with_reducible apply Bl.alloc | (with_reducible refine Bl.trans ?_ (by assumption))))).mono ?_
        rintro e w5 ⟨rfl, hA5⟩
        have hL5 := fun w' (h : Bl w5 w') => place4_any g t w' (hA5.is.bl h)
        have hE5 := fun w' (h : Bl w5 w') => end_any g t w' (hA5.is.bl h)
        rw [HE.out] at hE5
        have HA5 := Lib.hid hA5
        clear hA5 hX hE hL
        unfold actV
        simp only [Act.zero]
        go_wp2_with fail
        refine (hL5 _ (by repeat (first | with_reducible exact Bl.refl _ | with_reducible assumption | with_reducible apply Bl.drew | with_reducible apply Bl.drewN | with_reducible apply Bl.alloc | (with_reducible refine Bl.trans ?_ (by assumption))))).mono ?_
        rintro e w6 ⟨rfl, nq2, rfl⟩
        go_wp2_with fail
        refine (hE5 _ (by repeat (first | with_reducible exact Bl.refl _ | with_reducible assumption | with_reducible apply Bl.drew | with_reducible apply Bl.drewN | with_reducible apply Bl.alloc | (with_reducible refine Bl.trans ?_ (by assumption))))).mono ?_
        rintro e w7 ⟨rfl, b7⟩
        have r7 := row_bl (row_drewN (row4_alloc w5 (.int .i64 7) (.int .i64 0) (.int .i64 0) (.int .i64 0) 56) nq2) b7
        have kA := (row4_cells r7).1.1
        have hz7 := r7.lt
        clear r7
        go_wp2_with fail
        go_roundw
        case rel => exact ⟨q + 1, t, u, by omega, by go_num, rfl, by omega, by omega, HA5.out.bl (by repeat (first | with_reducible exact Bl.refl _ | with_reducible assumption | with_reducible apply Bl.drew | with_reducible apply Bl.drewN | with_reducible apply Bl.alloc | (with_reducible refine Bl.trans ?_ (by assumption))))⟩
        case measure => simp [intOf]; omega
    · obtain rfl : q = k := by omega
      have hL := place4_any g t wr hAt.is
      have hk := fun w' (h : Bl wr w') => key_any g t w' (hAt.is.bl h)
      have hk1 := hAt.key
      rw [hk1] at hk
      obtain ⟨⟨r0, r1, r2, r3⟩, _⟩ := row4_cells hAt.row
      have hW := fun w => VmA.awake_any w
      have hfu := hAt.fuel
      have hfu0 := hAt.fuel0
      have hsum : ((u + t.fuel) == fuel) = true := by simp; omega
      have HCH := Lib.hid hAt.ch
      clear hAt hk1
      go_wp2_with fail
      refine hL.mono ?_
      rintro e w3 ⟨rfl, nq, rfl⟩
      go_wp2_with fail
      refine (hk _ (by repeat (first | with_reducible exact Bl.refl _ | with_reducible assumption | with_reducible apply Bl.drew | with_reducible apply Bl.drewN | with_reducible apply Bl.alloc | (with_reducible refine Bl.trans ?_ (by assumption))))).mono ?_
      rintro e w4 ⟨rfl, rfl⟩
      go_wp2_with fail
      refine (hW _).mono ?_
      rintro e w5 ⟨rfl, hb5⟩
      go_wp2_with fail
      go_ret
      exact ⟨rfl, (HCH.out.trans (Ch.of_bl (by repeat (first | with_reducible exact Bl.refl _ | with_reducible assumption | with_reducible apply Bl.drew | with_reducible apply Bl.drewN | with_reducible apply Bl.alloc | (with_reducible refine Bl.trans ?_ (by assumption)))))).bl (fun i hi h => by omega)⟩
theorem walk_of (a : Option Addr) (la ca : Nat) (zs : List Int) (arg times : Int) (w : World) (ha : IsRow .i64 w a la ca zs) (_ : la * 8 ≤ 140737488351232) (_ : (Lit.int .i64 arg).wf = true) (_ : (Lit.int .i64 times).wf = true) :
    Calls Try.prog 8 #[.slice a la ca, .int .i64 arg, .int .i64 times] w fun e w' => e = .returned (.bool true) ∧ Bl w w' := by
  rcases Nat.lt_or_ge 100 la with h | h
  · exact walk_long a la ca arg times w h
  · exact walk a la ca zs arg times w ha h
end Go.Proofs.Ytonndofbnhnkpaa.VmFW
