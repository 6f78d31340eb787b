/- The program's package code: the bytes of a program whose instructions may be. The program's package valid: a program of one function, one of whose forks goes astray, is refused. The program's package valid: a program of one function that may not run. -/
import Derived.Test.YtonndofbnhnkpaaCodF
import Derived.Test.YtonndofbnhnkpaaChkJ
set_option linter.unusedVariables false
set_option linter.unusedSimpArgs false
set_option linter.unusedSectionVars false
namespace Go.Proofs.Ytonndofbnhnkpaa.CodA
open Go.RowKit Num KeyM KeyW StatW Blk VmA Prg PutA
/-- A program that has bytes. -/
structure PU (fs : List (List Ins)) (futs depth fuel : Int) : Prop where
  one : 1 ≤ fs.length
  most : fs.length ≤ 12
  futs0 : 0 ≤ futs
  futs1 : futs ≤ 16
  dep0 : 0 ≤ depth
  dep1 : depth ≤ 5
  fuel0 : 1 ≤ fuel
  fuel1 : fuel ≤ 500
  fns : ∀ f ∈ fs, 1 ≤ f.length ∧ f.length ≤ 40 ∧ (∀ x ∈ f, InsOk x ∧ True) ∧ True
end Go.Proofs.Ytonndofbnhnkpaa.CodA
namespace Go.Proofs.Ytonndofbnhnkpaa.CodA
open Go.RowKit Num KeyM KeyW StatW Blk VmA Prg PutA
set_option maxRecDepth 100000 in
set_option maxHeartbeats 8000000 in
theorem check_okU (pa : Option Addr) (pc : Nat) (futs depth fuel : Int) (fs : List (List Ins)) (w : World) (hP : PU fs futs depth fuel) (hC : CodeAt w.heap.size w pa fs) :
    Calls Try.prog 116 #[progV pa fs.length pc futs depth fuel] w fun e w' => e = .returned (.int .i64 0) ∧ Bl w w' := by
  have p1 := hP.one
  have p2 := hP.most
  have p3 := hP.futs0
  have p4 := hP.futs1
  have p5 := hP.dep0
  have p6 := hP.dep1
  have p7 := hP.fuel0
  have p8 := hP.fuel1
  obtain ⟨f0, hf0⟩ : ∃ f, fs[0]? = some f := ⟨_, List.getElem?_eq_getElem (by omega)⟩
  obtain ⟨b, off, rfl, _⟩ := hC 0 f0 hf0
  have hrow := row4_alloc w (.slice (some ⟨b, off, none⟩) fs.length pc) (.int .i64 futs) (.int .i64 depth) (.int .i64 fuel) 52
  have HC := Lib.hid hC
  have HP := Lib.hid hP
  clear hC hP hf0
  have b7 : ¬ (12 : Int) < (fs.length : Int) := by omega
  unfold progV
  go_enter Try.func116, Try.ntmps116
  go_wp2_with fail
  generalize hW1 : (w.alloc (.cells #[.slice (some ⟨b, off, none⟩) fs.length pc, .int .i64 futs, .int .i64 depth, .int .i64 fuel] 52)) = W1 at *
  have hB1 : Bl w W1 := by rw [← hW1]; exact (Bl.refl _).alloc _
  clear hW1
  go_loopw [16] (fun i wr => ∃ j : Nat, j ≤ fs.length ∧ i = .int .i64 j ∧ Bl W1 wr) (fun i _ => fs.length - (intOf i).toNat)
  case atStart => exact ⟨0, by omega, rfl, Bl.refl _⟩
  case round =>
    obtain ⟨j, hj, rfl, hB2⟩ := hrel
    have hB3 : Bl w wr := Bl.trans hB1 hB2
    by_cases hlt : j < fs.length
    · obtain ⟨f, hf⟩ : ∃ f, fs[j]? = some f := ⟨_, List.getElem?_eq_getElem hlt⟩
      obtain ⟨b', off', he, hbK, fa, fc, hc1, _⟩ := HC.out j f hf
      cases he
      have hfl := (HP.out.fns f (List.mem_of_getElem? hf)).2.1
      have hc1 := st_cell hB3 hc1
      have b1 : (j : Int) < (fs.length : Int) := by omega
      have b2 : (0 : Int) ≤ (j : Int) := by omega
      have b3 : ¬ (40 : Int) < (f.length : Int) := by omega
      clear hf
      go_wp2_with fail
      go_roundw
      case rel => exact ⟨j + 1, by omega, by go_num, hB2⟩
      case measure => simp [intOf]; omega
    · obtain rfl : j = fs.length := by omega
      have b1 : ¬ futs < 0 := by omega
      have b2 : ¬ 16 < futs := by omega
      have b3 : ¬ depth < 0 := by omega
      have b4 : ¬ 5 < depth := by omega
      have b5 : ¬ fuel < 1 := by omega
      have b6 : ¬ 500 < fuel := by omega
      obtain ⟨⟨k0, k1, k2, k3⟩, _⟩ := row4_cells (row_bl hrow hB2)
      go_wp2_with fail
      obtain ⟨Wp, hWp⟩ : ∃ Wp : World, Wp = wr := ⟨_, rfl⟩
      go_loopw [55] (fun i w2 => ∃ (q : Nat), q ≤ fs.length ∧ i = .int .i64 q ∧ Bl Wp w2) (fun i _ => fs.length - (intOf i).toNat)
      case atStart => exact ⟨0, by omega, rfl, by rw [hWp]; exact Bl.refl _⟩
      case round =>
        obtain ⟨q, hq, rfl, hB4⟩ := hrel
        have hB6 : Bl w wr := Bl.trans (by rw [hWp]; exact hB3) hB4
        clear k0 k1 k2 k3
        by_cases hlt : q < fs.length
        · obtain ⟨f, hf⟩ : ∃ f, fs[q]? = some f := ⟨_, List.getElem?_eq_getElem hlt⟩
          obtain ⟨b', off', he, hbK, fa, fc, hc1, hc2⟩ := HC.out q f hf
          cases he
          have hff := HP.out.fns f (List.mem_of_getElem? hf)
          have hfl := hff.2.1
          have HIN := Lib.hid hff.2.2.1
          have hc1' := st_cell hB6 hc1
          have a1 : (q : Int) < (fs.length : Int) := by omega
          have a2 : (0 : Int) ≤ (q : Int) := by omega
          have HC2 := Lib.hid hc2
          obtain ⟨wo, hwo⟩ : ∃ wo : World, wo = wr := ⟨_, rfl⟩
          have HW := Lib.hid hwo
          clear hf hc2 hff hwo
          go_wp2_with fail
          go_loopw [61] (fun i w2 => ∃ (m : Nat), m ≤ f.length ∧ i = .int .i64 m ∧ Bl wo w2) (fun i _ => f.length - (intOf i).toNat)
          case atStart => exact ⟨0, by omega, rfl, by rw [HW.out]; exact Bl.refl _⟩
          case round =>
            obtain ⟨m, hm, rfl, hB7⟩ := hrel
            rw [HW.out] at hB7
            have hB8 := Bl.trans hB6 hB7
            by_cases hml : m < f.length
            · obtain ⟨x, hx⟩ : ∃ x, f[m]? = some x := ⟨_, List.getElem?_eq_getElem hml⟩
              obtain ⟨db, do_, rfl, _, g0, g1, g2, g3⟩ := HC2.out m x hx
              have g0 := st_cell hB8 g0
              have g1 := st_cell hB8 g1
              have g2 := st_cell hB8 g2
              have g3 := st_cell hB8 g3
              have hsh := fun w => shape_ok x w (HIN.out x (List.mem_of_getElem? hx)).1
              unfold insV at hsh
              have a3 : (m : Int) < (f.length : Int) := by omega
              have a4 : (0 : Int) ≤ (m : Int) := by omega
              clear hx
              go_wp2_with fail
              refine (hsh _).mono ?_
              rintro e w3 ⟨rfl, b3⟩
              go_wp2_with fail
              go_roundw
              case rel => exact ⟨m + 1, by omega, by go_num, by rw [HW.out]; exact Bl.trans (Bl.trans hB7 (by repeat (first | exact Bl.refl _ | apply Bl.drewN | apply Bl.drew | apply Bl.alloc))) b3⟩
              case measure => simp [intOf]; omega
            · obtain rfl : m = f.length := by omega
              have a3 : decide (f.length < f.length) = false := by simp
              go_wp2_with fail
              go_roundw
              case rel => exact ⟨q + 1, by omega, by go_num, Bl.trans hB4 hB7⟩
              case measure => simp [intOf]; omega
        · obtain rfl : q = fs.length := by omega
          go_wp2_with fail
          go_ret
          exact ⟨rfl, hB6⟩
end Go.Proofs.Ytonndofbnhnkpaa.CodA
namespace Go.Proofs.Ytonndofbnhnkpaa.CodA
open Go.RowKit Num KeyM KeyW StatW Blk VmA Prg PutA App
set_option maxRecDepth 100000 in
set_option maxHeartbeats 8000000 in
theorem codeput_okU (pa : Option Addr) (pc : Nat) (futs depth fuel : Int) (fs : List (List Ins)) (w : World) (hP : PU fs futs depth fuel) (hC : CodeAt w.heap.size w pa fs) :
    Calls Try.prog 84 #[progV pa fs.length pc futs depth fuel] w fun e w' => ∃ s : ByteArray, e = .returned (.tuple #[.string s, .int .i64 0]) ∧ Bl w w' := by
  have p1 := hP.one
  have p2 := hP.most
  have p3 := hP.futs0
  have p4 := hP.futs1
  have p5 := hP.dep0
  have p6 := hP.dep1
  have p7 := hP.fuel0
  have p8 := hP.fuel1
  obtain ⟨i0, hi, hz0, hz1, hz2⟩ := info_parts info5
  obtain ⟨f0, hf0⟩ : ∃ f, fs[0]? = some f := ⟨_, List.getElem?_eq_getElem (by omega)⟩
  obtain ⟨b, off, rfl, _⟩ := hC 0 f0 hf0
  have hrow := row4_alloc w (.slice (some ⟨b, off, none⟩) fs.length pc) (.int .i64 futs) (.int .i64 depth) (.int .i64 fuel) 52
  have hchk := fun w' (hb : Bl w w') => check_okU (some ⟨b, off, none⟩) pc futs depth fuel fs w' hP (Prg.CodeAt.mono (CodeAt.later (S := fun _ => False) hC (Ch.of_bl hb) (fun _ _ h => h)) hb.size)
  have hcs := fun (w : World) (C : Array Value) (n c : Nat) => Lib.run_convert_bytes_const (P := Try.prog) w 174 5 C n c Try.underlying174 Try.underlying5
  have HC := Lib.hid hC
  have HP := Lib.hid hP
  clear hC hP hf0
  unfold progV at *
  go_enter Try.func84, Try.ntmps84
  go_wp2_with fail
  refine (hchk _ ((Bl.refl _).alloc _)).mono ?_
  rintro e w2 ⟨rfl, hb2⟩
  have hrow2 := row_bl hrow hb2
  have HB2 : Hid (Bl w w2) := Bl.trans ((Bl.refl _).alloc _) hb2
  have hlt2 := hrow2.lt
  have HR2 := Lib.hid hrow2
  obtain ⟨⟨k0, k1, k2, k3⟩, _⟩ := row4_cells hrow2
  clear hrow hb2 hchk hrow2
  go_wp2_with (at_builtin; refine wpList_append_arg _ rfl _ _ 174 rfl 5 i0 _ 1 1 Try.underlying174 hi hz0 hz1 hz2 rfl (by decide) w2.heap.size 0 3 3 [.int .u8 77, .int .u8 71, .int .u8 80] rfl rfl ?c0 ⟨w2.heap.size + 1, 0, none⟩ 2 2 [.int .u8 futs, .int .u8 depth] rfl rfl ?c1 ?c2 (by intro h; omega) ?c3 ?c4 (by intro h; omega) ?c5)
  case c0 =>
    have hn := World.news_of_block (cs := #[.int .u8 77, .int .u8 71, .int .u8 80]) (t := 5) (fr := (3, 4)) (heap_alloc_new w2 _)
    intro j u hj
    have hj' := hn j u hj
    rw [Addr.add_lit] at hj'
    exact Lib.cell?_alloc_marked _ hj'
  case c1 =>
    intro j u hj
    rcases j with _ | _ | j
    · cases hj; go_simp
    · cases hj; go_simp
    · cases hj
  case c2 => intro u hu; simp at hu; rcases hu with rfl | rfl <;> rfl
  case c3 => decide
  case c4 => decide
  intro v5 w3 hown3 hgr
  have hB3 : Bl w2 w3 := Bl.trans (Bl.alloc (Bl.alloc (Bl.refl w2) (.cells #[.int .u8 77, .int .u8 71, .int .u8 80] 5 (3, 4))) (.cells #[.int .u8 futs, .int .u8 depth] 5)) (bl_of_grown hgr)
  have hown3 := own_base hown3 (show w2.heap.size ≤ w2.heap.size + 1 + 1 by omega)
  have ho3 : Own8 w2.heap.size w3 v5 5 := ⟨_, hown3, fun u hu => by simp at hu; rcases hu with rfl | rfl | rfl | rfl | rfl <;> exact ⟨_, rfl⟩⟩
  have rowb : ∀ w', Below w2.heap.size w3 w' → w'.rowIs w.heap.size 52 4 (four (.slice (some ⟨b, off, none⟩) fs.length pc) (.int .i64 futs) (.int .i64 depth) (.int .i64 fuel)) := fun w' hb => row_bl HR2.out (show Below w2.heap.size w2 w' from Below.trans hB3 hb)
  have HO3 := Lib.hid ho3
  have HB3 := Lib.hid hB3
  have HRW := Lib.hid rowb
  clear hown3 hgr ho3 hB3 rowb k0 k1 k2 k3
  go_upto_region 5 with fail
  have hs3 : w2.heap.size ≤ w3.heap.size := HB3.out.size
  refine Tab.region_tab3 (by kernel_rfl) idx5 83 (W5 w2.heap.size w3 v5 (.slice (some ⟨b, off, none⟩) fs.length pc) 5 w.heap.size fs.length fuel ((fs.length : Int) % 256)) (by kernel_rfl) (by rfl) (by kernel_rfl) ⟨_, W5.start HO3.out hs3⟩ ?_ ?_
  · intro L V a w4 hT hs hd hW
    have h5 := hW.out (hd 10 (by decide))
    have h34 := hW.fin (hd 9 (by decide))
    have hB4 : Bl w2 w4 := Below.trans HB3.out hW.bl
    have ha := hT.all (by show ∀ q ∈ idx5, q.2 < 83; decide) (fun q hq => hd q.1 (by revert q; decide))
    clear hT hs hd hW hs3
    rw [ha]
    clear ha
    simp only [Tab.puts, idx5, h5]
    have HO4 := Lib.hid h34
    clear h5 h34
    generalize V 25 = u25
    generalize V 26 = u26
    generalize V 27 = u27
    generalize V 28 = u28
    generalize V 29 = u29
    generalize V 30 = u30
    generalize V 31 = u31
    generalize V 32 = u32
    generalize V 33 = u33
    generalize V 34 = v8 at *
    obtain ⟨⟨k0, k1, k2, k3⟩, _⟩ := row4_cells (row_bl HR2.out hB4)
    have HB4 := Lib.hid hB4
    clear hB4 k1 k2 k3
    go_wp2_with fail
    clear k0
    go_loopw [5, 38] (fun x i wr => ∃ (q m : Nat), q ≤ fs.length ∧ m ≤ 8 + 241 * q ∧ 1 ≤ m ∧ i = .int .i64 q ∧ Own8 w2.heap.size wr x m ∧ Bl w2 wr) (fun _ i _ => fs.length - (intOf i).toNat)
    case atStart => exact ⟨0, 8, by omega, by omega, by omega, rfl, HO4.out, HB4.out⟩
    case round =>
      obtain ⟨q, m, hq, hm, hm1, rfl, ⟨xs, ho, hxs⟩, hB⟩ := hrel
      have hBw : Bl w wr := Bl.trans HB2.out hB
      have hsz := hB.size
      by_cases hlt : q < fs.length
      · obtain ⟨f, hf⟩ : ∃ f, fs[q]? = some f := ⟨_, List.getElem?_eq_getElem hlt⟩
        obtain ⟨b', off', he, hbK, fa, fc, hc1, hc2⟩ := HC.out q f hf
        cases he
        have hff := HP.out.fns f (List.mem_of_getElem? hf)
        have hfl := hff.2.1
        have hc1' := st_cell hBw hc1
        have a1 : (q : Int) < (fs.length : Int) := by omega
        have a2 : (0 : Int) ≤ (q : Int) := by omega
        have HC2 := Lib.hid hc2
        have HXS := Lib.hid hxs
        clear hf hc2 hff hc1 hxs
        go_wp2_with (at_builtin; refine wpList_append_own _ rfl _ _ 174 rfl w2.heap.size 5 i0 _ 1 1 Try.underlying174 hi hz0 hz1 hz2 rfl (by decide) _ _ _ rfl (ho.alloc _) ⟨wr.heap.size, 0, none⟩ 1 1 [.int .u8 (f.length : Int)] rfl rfl ?d1 ?d2 ?d3 ?d4 ?d5 ?_)
        case d1 => exact World.news_of_block (cs := #[.int .u8 (f.length : Int)]) (t := 5) (fr := (0, 0)) (heap_alloc_new wr _)
        case d2 => intro u hu; simp at hu; subst hu; rfl
        case d3 => unfold maxLen; omega
        case d4 => omega
        case d5 => simp; omega
        intro v6 w6 hown6 hgr _
        have hB6 : Bl w2 w6 := Below.grown (show Below w2.heap.size w2 _ from Bl.alloc hB (.cells #[.int .u8 (f.length : Int)] 5)) hgr (by simp; omega) (fun k hk => (World.ownsRow.lt ho k hk).1)
        have ho6 : Own8 w2.heap.size w6 v6 (m + 1) := ⟨_, hown6, fun u hu => by
          rcases List.mem_append.1 hu with h | h
          · exact HXS.out u h
          · simp at h; exact ⟨_, h⟩⟩
        have HB6 := Lib.hid hB6
        have HO6 := Lib.hid ho6
        clear hown6 hgr hB6 ho6 hB ho hBw hsz
        go_wp2_with fail
        go_loopw [5, 50] (fun x i wr => ∃ (j n : Nat), j ≤ f.length ∧ n ≤ 9 + 241 * q + 6 * j ∧ 1 ≤ n ∧ i = .int .i64 j ∧ Own8 w2.heap.size wr x n ∧ Bl w2 wr) (fun _ i _ => f.length - (intOf i).toNat)
        case atStart => exact ⟨0, m + 1, by omega, by omega, by omega, rfl, HO6.out, HB6.out⟩
        case round =>
          obtain ⟨j, n, hj, hn, hn1, rfl, ⟨ys, hoy, hys⟩, hBy⟩ := hrel
          have hBw : Bl w wr := Bl.trans HB2.out hBy
          have hsz := hBy.size
          have HYS := Lib.hid hys
          clear hys
          by_cases hjl : j < f.length
          · obtain ⟨x, hx⟩ : ∃ x, f[j]? = some x := ⟨_, List.getElem?_eq_getElem hjl⟩
            obtain ⟨db, do_, rfl, _, g0, g1, g2, g3⟩ := HC2.out j x hx
            have g0 := st_cell hBw g0
            have g1 := st_cell hBw g1
            have g2 := st_cell hBw g2
            have g3 := st_cell hBw g3
            have a3 : (j : Int) < (f.length : Int) := by omega
            have a4 : (0 : Int) ≤ (j : Int) := by omega
            clear hx hc1'
            go_wp2_with (at_builtin; refine wpList_append_own _ rfl _ _ 174 rfl w2.heap.size 5 i0 _ 1 1 Try.underlying174 hi hz0 hz1 hz2 rfl (by decide) _ _ _ rfl ((hoy.alloc _).alloc _) ⟨wr.heap.size + 1, 0, none⟩ 2 2 [.int .u8 (x.op % 256), .int .u8 (x.a % 256)] rfl rfl ?e1 ?e2 ?e3 ?e4 ?e5 ?_)
            case e1 =>
              intro j u hj
              rcases j with _ | _ | j
              · cases hj; go_simp
              · cases hj; go_simp
              · cases hj
            case e2 => intro u hu; simp at hu; rcases hu with rfl | rfl <;> rfl
            case e3 => unfold maxLen; omega
            case e4 => omega
            case e5 => simp; omega
            intro v7 w7 hown7 hgr _
            have hB6 : Bl w2 (wr.alloc (.cells #[.int .i64 x.op, .int .i64 x.a, .int .i64 x.b, .int .i64 x.c] 48)) := Bl.alloc hBy _
            have hB7 : Bl w2 w7 := Below.grown (show Below w2.heap.size w2 _ from Bl.alloc hB6 (.cells #[.int .u8 (x.op % 256), .int .u8 (x.a % 256)] 5)) hgr (by simp; omega) (fun k hk => (World.ownsRow.lt hoy k hk).1)
            have hI : wr.heap.size < w2.heap.size ∨ w2.heap.size ≤ wr.heap.size := by omega
            have hr7 : w7.rowIs wr.heap.size 48 4 (four (.int .i64 x.op) (.int .i64 x.a) (.int .i64 x.b) (.int .i64 x.c)) := by
              have h1 := row4_alloc wr (.int .i64 x.op) (.int .i64 x.a) (.int .i64 x.b) (.int .i64 x.c) 48
              have h2 := World.rowIs.alloc h1 (.cells #[.int .u8 (x.op % 256), .int .u8 (x.a % 256)] 5)
              exact (ch_of_grown hgr).row h2 (fun e => by have := (World.ownsRow.lt hoy _ e).2; omega)
            have ho7 : Own8 w2.heap.size w7 v7 (n + 2) := ⟨_, hown7, fun u hu => by
              rcases List.mem_append.1 hu with h | h
              · exact HYS.out u h
              · simp at h; rcases h with h | h <;> exact ⟨_, h⟩⟩
            obtain ⟨⟨t0, t1, t2, t3⟩, _⟩ := row4_cells hr7
            have hlt7 := hr7.lt
            have hsz7 := hB7.size
            clear hown7 hgr hB6 hoy hBy hI g0 g1 g2 g3 hr7
            by_cases h1 : x.op = 1
            · have hbg := big_any w2.heap.size (n + 2) 4 v7 x.b w7 (Or.inr rfl) ho7 hsz7 (by omega)
              obtain ⟨zs7, ho7', _⟩ := ho7
              have HL7 := Lib.hid (World.ownsRow.lt ho7')
              clear ho7'
              go_wp2_with fail
              refine hbg.mono ?_
              rintro e w8 ⟨v8', rfl, ho8, hc8, _⟩
              have hB8 : Bl w2 w8 := Below.trans hB7 (below_ch hc8 (fun i hi e => by have := (HL7.out i e).1; omega) hsz7)
              clear hbg hc8
              go_wp2_with fail
              go_roundw
              case rel => exact ⟨j + 1, n + 2 + 4, by omega, by omega, by omega, by go_num, ho8, hB8⟩
              case measure => simp [intOf]; omega
            · obtain ⟨zs7, ho7', hz7⟩ := ho7
              have HZ7 := Lib.hid hz7
              clear hz7
              go_wp2_with (at_builtin; refine wpList_append_own _ rfl _ _ 174 rfl w2.heap.size 5 i0 _ 1 1 Try.underlying174 hi hz0 hz1 hz2 rfl (by decide) _ _ _ rfl (ho7'.alloc _) ⟨w7.heap.size, 0, none⟩ 2 2 [.int .u8 (x.b % 256), .int .u8 (x.c % 256)] rfl rfl ?f1 ?f2 ?f3 ?f4 ?f5 ?_)
              case f1 => exact World.news_of_block (cs := #[.int .u8 (x.b % 256), .int .u8 (x.c % 256)]) (t := 5) (fr := (0, 0)) (heap_alloc_new w7 _)
              case f2 => intro u hu; simp at hu; rcases hu with rfl | rfl <;> rfl
              case f3 => unfold maxLen; omega
              case f4 => omega
              case f5 => simp; omega
              intro v8' w8 hown8 hgr _
              have hB8 : Bl w2 w8 := Below.grown (show Below w2.heap.size w2 _ from Bl.alloc hB7 (.cells #[.int .u8 (x.b % 256), .int .u8 (x.c % 256)] 5)) hgr (by simp; omega) (fun k hk => (World.ownsRow.lt ho7' k hk).1)
              have ho8 : Own8 w2.heap.size w8 v8' (n + 2 + 2) := ⟨_, hown8, fun u hu => by
                rcases List.mem_append.1 hu with h | h
                · exact HZ7.out u h
                · simp at h; rcases h with h | h <;> exact ⟨_, h⟩⟩
              clear hown8 hgr ho7' hB7
              go_wp2_with fail
              go_roundw
              case rel => exact ⟨j + 1, n + 2 + 2, by omega, by omega, by omega, by go_num, ho8, hB8⟩
              case measure => simp [intOf]; omega
          · obtain rfl : j = f.length := by omega
            have a3 : decide (f.length < f.length) = false := by simp
            go_wp2_with fail
            go_roundw
            case rel => exact ⟨q + 1, n, by omega, by omega, hn1, by go_num, ⟨ys, hoy, HYS.out⟩, hBy⟩
            case measure => simp [intOf]; omega
      · obtain rfl : q = fs.length := by omega
        have a3 : decide (fs.length < fs.length) = false := by simp
        obtain ⟨s, hcv⟩ := conv_own ⟨xs, ho, hxs⟩ (by omega)
        go_wp2_with fail
        go_ret2
        exact ⟨_, rfl, hBw⟩
  · intro i' o L V a w8 K' Q' hT hs hW hL ho hd hold hcl hK
    have hi' : i' < 11 := (Array.getElem?_eq_some_iff.1 ho).1
    have r1 : a.tmps[1]? = some (.pointer (some ⟨w.heap.size, 0, none⟩)) := (hT.out 1 (by decide)).trans rfl
    have HT : Hid (∀ q ∈ idx5, L[q.1]? = some true → a.tmps[q.2]? = some (V q.2)) := hT.tab
    have HW := Lib.hid hW
    have rowb := HRW.out
    clear hT hW
    obtain rfl | rfl | rfl | rfl | rfl | rfl | rfl | rfl | rfl | rfl | rfl : i' = 0 ∨ i' = 1 ∨ i' = 2 ∨ i' = 3 ∨ i' = 4 ∨ i' = 5 ∨ i' = 6 ∨ i' = 7 ∨ i' = 8 ∨ i' = 9 ∨ i' = 10 := by omega
    · have l10 : L[10]? = some false := notyet hs (hcl 10 _ rfl) 0 ⟨⟨0, .phase⟩, by simp, rfl, rfl⟩ hL
      have r5 : a.tmps[5]? = some v5 := (hold (10, 5) (by decide) l10).trans rfl
      cases ho
      clear hd HT hold hcl
      go_simp
      exact hK _ _ (HW.out.step 0 25 (by decide) (by decide) (by decide) (by decide))
    · cases ho
      clear hd HT hold hcl
      go_simp
      exact hK _ _ (HW.out.step 1 26 (by decide) (by decide) (by decide) (by decide))
    · obtain ⟨⟨m0, m1, m2, m3⟩, _⟩ := row4_cells (rowb _ (HW.out.bl))
      have s26 : a.tmps[26]? = some (.pointer (some ⟨w.heap.size, 3, none⟩)) := (HT.out (1, 26) (by decide) (by cases ho; exact hd ⟨1, .data⟩ (by simp) rfl)).trans (congrArg some (HW.out.stat (1, 26) (by decide) (by cases ho; exact hd ⟨1, .data⟩ (by simp) rfl)))
      cases ho
      clear hd HT hold hcl
      go_simp
      exact hK _ _ (HW.out.step 2 27 (by decide) (by decide) (by decide) (by decide))
    · have s25 : a.tmps[25]? = some (v5) := (HT.out (0, 25) (by decide) (by cases ho; exact hd ⟨0, .data⟩ (by simp) rfl)).trans (congrArg some (HW.out.stat (0, 25) (by decide) (by cases ho; exact hd ⟨0, .data⟩ (by simp) rfl)))
      have s27 : a.tmps[27]? = some (.int .i64 fuel) := (HT.out (2, 27) (by decide) (by cases ho; exact hd ⟨2, .data⟩ (by simp) rfl)).trans (congrArg some (HW.out.stat (2, 27) (by decide) (by cases ho; exact hd ⟨2, .data⟩ (by simp) rfl)))
      have l10 : L[10]? = some false := notyet hs (hcl 10 _ rfl) 3 ⟨⟨3, .phase⟩, by simp, rfl, rfl⟩ hL
      have l9 : L[9]? = some false := notyet hs (hcl 9 _ rfl) 3 ⟨⟨3, .data⟩, by simp, rfl, rfl⟩ hL
      cases ho
      clear hd HT hold hcl
      obtain ⟨hsz, hrow9⟩ : w2.heap.size ≤ w8.heap.size ∧ Own8 w2.heap.size w8 v5 5 := ⟨HW.out.sz, by have := HW.out.row (by rw [l9]; decide); unfold cur at this; rw [if_neg (by rw [hL]; decide), if_neg (by rw [hL]; decide)] at this; exact this⟩
      go_simp
      go_at_call 117
      refine (big_any w2.heap.size 5 2 v5 fuel w8 (Or.inl rfl) hrow9 hsz (by decide)).mono ?_
      rintro e w9 ⟨v', rfl, ho', hc', hat'⟩
      go_simp
      exact hK _ _ (HW.out.call hL l9 l10 v' ho' hc' hat')
    · cases ho
      clear hd HT hold hcl
      go_simp
      exact hK _ _ (HW.out.step 4 29 (by decide) (by decide) (by decide) (by decide))
    · obtain ⟨⟨m0, m1, m2, m3⟩, _⟩ := row4_cells (rowb _ (HW.out.bl))
      have s29 : a.tmps[29]? = some (.pointer (some ⟨w.heap.size, 0, none⟩)) := (HT.out (4, 29) (by decide) (by cases ho; exact hd ⟨4, .data⟩ (by simp) rfl)).trans (congrArg some (HW.out.stat (4, 29) (by decide) (by cases ho; exact hd ⟨4, .data⟩ (by simp) rfl)))
      cases ho
      clear hd HT hold hcl
      go_simp
      exact hK _ _ (HW.out.step 5 30 (by decide) (by decide) (by decide) (by decide))
    · have s30 : a.tmps[30]? = some (.slice (some ⟨b, off, none⟩) fs.length pc) := (HT.out (5, 30) (by decide) (by cases ho; exact hd ⟨5, .data⟩ (by simp) rfl)).trans (congrArg some (HW.out.stat (5, 30) (by decide) (by cases ho; exact hd ⟨5, .data⟩ (by simp) rfl)))
      cases ho
      clear hd HT hold hcl
      go_simp
      exact hK _ _ (HW.out.step 6 31 (by decide) (by decide) (by decide) (by decide))
    · have s31 : a.tmps[31]? = some (.int .i64 (fs.length : Int)) := (HT.out (6, 31) (by decide) (by cases ho; exact hd ⟨6, .data⟩ (by simp) rfl)).trans (congrArg some (HW.out.stat (6, 31) (by decide) (by cases ho; exact hd ⟨6, .data⟩ (by simp) rfl)))
      cases ho
      clear hd HT hold hcl
      go_simp
      exact hK _ _ (HW.out.step 7 32 (by decide) (by decide) (by decide) (by decide))
    · have s32 : a.tmps[32]? = some (.int .u8 ((fs.length : Int) % 256)) := (HT.out (7, 32) (by decide) (by cases ho; exact hd ⟨7, .data⟩ (by simp) rfl)).trans (congrArg some (HW.out.stat (7, 32) (by decide) (by cases ho; exact hd ⟨7, .data⟩ (by simp) rfl)))
      have l10 : L[10]? = some false := notyet hs (hcl 10 _ rfl) 8 ⟨⟨8, .phase⟩, by simp, rfl, rfl⟩ hL
      have l9 : L[9]? = some false := notyet hs (hcl 9 _ rfl) 8 ⟨⟨8, .data⟩, by simp, rfl, rfl⟩ hL
      cases ho
      clear hd HT hold hcl
      go_simp
      exact hK _ _ (HW.out.alloc hL l9 l10)
    · have l10 : L[10]? = some false := notyet hs (hcl 10 _ rfl) 9 ⟨⟨9, .phase⟩, by simp, rfl, rfl⟩ hL
      have l3 : L[3]? = some true := (by cases ho; exact hd ⟨3, .data⟩ (by simp) rfl)
      have l8 : L[8]? = some true := (by cases ho; exact hd ⟨8, .data⟩ (by simp) rfl)
      have s28 : a.tmps[28]? = some (V 28) := HT.out (3, 28) (by decide) l3
      have s33 : a.tmps[33]? = some (V 33) := HT.out (8, 33) (by decide) l8
      cases ho
      clear hd HT hold hcl
      obtain ⟨C, c1, c2, c3, c4, c5⟩ := HW.out.lit l8 (by rw [hL]; decide)
      have hrow9 := HW.out.row (by rw [hL]; decide)
      unfold cur at hrow9
      rw [if_pos l3, if_pos l3] at hrow9
      obtain ⟨xs, hx, hxz⟩ := hrow9
      rw [c1] at s33
      refine wp_append_own w8 (.tmp 28) (.tmp 33) 174 rfl w2.heap.size 5 i0 _ 1 1 Try.underlying174 hi hz0 hz1 hz2 rfl (by decide) (V 28) _ xs (by show a.tmps.getD 28 undef = _; rw [Array.getD_eq_getD_getElem?, s28]; rfl) hx ⟨C, 0, none⟩ 1 1 [.int .u8 ((fs.length : Int) % 256)] (by show a.tmps.getD 33 undef = _; rw [Array.getD_eq_getD_getElem?, s33]; rfl) rfl (fun j u hj => by cases j with | zero => (cases hj; exact c4) | succ j => cases hj) (by intro u hu; simp at hu; subst hu; rfl) (by decide) (by decide) HW.out.sz (fun v' w9 h2 h3 _ => ?_)
      exact hK _ _ (HW.out.app l3 hL l10 v' ⟨_, h2, fun u hu => by rcases List.mem_append.1 hu with h | h; exact hxz u h; (simp at h; exact ⟨_, h⟩)⟩ h3)
    · have l9 : L[9]? = some true := (by cases ho; exact hd ⟨9, .data⟩ (by simp) rfl)
      have s34 : a.tmps[34]? = some (V 34) := HT.out (9, 34) (by decide) l9
      cases ho
      clear hd HT hold hcl
      go_simp
      exact hK _ _ (HW.out.asg l9)
end Go.Proofs.Ytonndofbnhnkpaa.CodA
set_option linter.unusedVariables false
set_option linter.unusedSimpArgs false
set_option linter.unusedSectionVars false
namespace Go.Proofs.Ytonndofbnhnkpaa.Chk
open Go.RowKit Num KeyM KeyW StatW Blk VmA Prg PutA CodA
section
variable (pa : Option Addr) (nf pc n fc : Nat) (futs depth fuel : Int) (fa : Option Addr) (x : Ins) (w : World)
def forkR (nf : Nat) (x : Ins) : Bool := x.op != 9 || decide (x.b < nf)
theorem look4g : Calls Try.prog 135 #[progV pa nf pc futs depth fuel, .slice fa n fc, insV x] w fun e w' => e = .returned (.bool (forkR nf x)) ∧ Bl w w' := by
  unfold progV insV forkR
  by_cases h7 : x.op = 9
  · rw [h7]
    go_enter Try.func135, Try.ntmps135
    go_wp2_with fail
    go_ret
    exact ⟨by simp, ((Bl.refl _).alloc _).alloc _⟩
  · have h7' : (x.op == 9) = false := by simpa using h7
    have h8' : (x.op != 9) = true := by simpa using h7
    rw [h8']
    go_enter Try.func135, Try.ntmps135
    go_wp2_with fail
    go_ret
    exact ⟨rfl, ((Bl.refl _).alloc _).alloc _⟩
end
section
variable (pa : Option Addr) (nf pc n fc B8 P0 B6 BX : Nat) (futs depth fuel : Int) (fa : Option Addr) (x : Ins) (w : World)
set_option maxRecDepth 100000 in
set_option maxHeartbeats 4000000 in
theorem clos135g (r : Bool) (h8 : w.cell? ⟨B8, 0, none⟩ = some (.func (.func 135) #[] #[])) (hrow : w.rowIs P0 52 4 (four (.slice pa nf pc) (.int .i64 futs) (.int .i64 depth) (.int .i64 fuel))) (h6 : w.cell? ⟨B6, 0, none⟩ = some (.slice fa n fc))
    (hl : ∀ w', Bl w w' → Calls Try.prog 135 #[progV pa nf pc futs depth fuel, .slice fa n fc, insV x] w' fun e w'' => e = .returned (.bool r) ∧ Bl w' w'') :
    Calls Try.prog 101 #[insV x, .pointer (some ⟨B8, 0, none⟩), .pointer (some ⟨P0, 0, none⟩), .pointer (some ⟨B6, 0, none⟩)] w fun e w' => e = .returned (.bool (!r)) ∧ Bl w w' := by
  obtain ⟨⟨k0, k1, k2, k3⟩, _⟩ := row4_cells hrow
  have l8 := lt_of_cell h8
  have l6 := lt_of_cell h6
  have l0 := hrow.lt
  clear hrow
  unfold progV insV at *
  go_enter Try.func101, Try.ntmps101
  go_wp2_with fail
  refine (hl _ ((Bl.refl _).alloc _)).mono ?_
  rintro e w1 ⟨rfl, hb1⟩
  go_wp2_with fail
  go_ret
  exact ⟨rfl, Bl.trans ((Bl.refl _).alloc _) hb1⟩
end
set_option maxRecDepth 100000 in
set_option maxHeartbeats 4000000 in
theorem index_some (g : Ins → Bool) (fa : Option Addr) (fc : Nat) (f : List Ins) (a8 a0 a6 : Option Addr) (w : World) (hf : f.length ≤ 1000000) (hc : FnAt w fa f) (hg : ∃ x ∈ f, g x = true)
    (hcl : ∀ w', Bl w w' → ∀ x ∈ f, Calls Try.prog 101 #[insV x, .pointer a8, .pointer a0, .pointer a6] w' fun e w'' => e = .returned (.bool (g x)) ∧ Bl w' w'') :
    Calls Try.prog 138 #[.slice fa f.length fc, .func (.func 101) #[] #[.pointer a8, .pointer a0, .pointer a6]] w fun e w' => ∃ q : Nat, e = .returned (.int .i64 q) ∧ Bl w w' := by
  have HC := Lib.hid hc
  have HCL := Lib.hid hcl
  have HG := Lib.hid hg
  clear hc hcl hg
  go_enter Try.func138, Try.ntmps138
  go_wp2_with fail
  go_loopw [8] (fun i wr => ∃ j : Nat, j ≤ f.length ∧ i = .int .i64 j ∧ Bl w wr ∧ Hid (∀ k x, k < j → f[k]? = some x → g x = false)) (fun i _ => f.length - (intOf i).toNat)
  case atStart => exact ⟨0, by omega, rfl, Bl.refl _, Lib.hid (fun k x hk => by omega)⟩
  case round =>
    obtain ⟨j, hj, rfl, hB, hN⟩ := hrel
    by_cases hlt : j < f.length
    · obtain ⟨x, hx⟩ : ∃ x, f[j]? = some x := ⟨_, List.getElem?_eq_getElem hlt⟩
      obtain ⟨db, do_, rfl, g0, g1, g2, g3⟩ := HC.out j x hx
      have g0 := st_cell hB g0
      have g1 := st_cell hB g1
      have g2 := st_cell hB g2
      have g3 := st_cell hB g3
      have hk := HCL.out wr hB x (List.mem_of_getElem? hx)
      unfold insV at hk
      have a3 : (j : Int) < (f.length : Int) := by omega
      have a4 : (0 : Int) ≤ (j : Int) := by omega
      have HX := Lib.hid hx
      clear hx
      cases hgx : g x with
      | true =>
        rw [hgx] at hk
        go_wp2_with fail
        refine hk.mono ?_
        rintro e w1 ⟨rfl, hb1⟩
        go_wp2_with fail
        go_ret
        exact ⟨j, rfl, Bl.trans hB hb1⟩
      | false =>
        rw [hgx] at hk
        go_wp2_with fail
        refine hk.mono ?_
        rintro e w1 ⟨rfl, hb1⟩
        go_wp2_with fail
        go_roundw
        case rel => exact ⟨j + 1, by omega, by go_num, Bl.trans hB hb1, Lib.hid (fun k y hk hy => by
          rcases Nat.lt_or_eq_of_le (Nat.le_of_lt_succ hk) with h | h
          · exact hN.out k y h hy
          · subst h; rw [HX.out] at hy; cases hy; exact hgx)⟩
        case measure => simp [intOf]; omega
    · exfalso
      obtain ⟨x, hx, hgx⟩ := HG.out
      obtain ⟨k, hk⟩ := List.getElem?_of_mem hx
      have := (List.getElem?_eq_some_iff.1 hk).1
      rw [hN.out k x (by omega) hk] at hgx
      cases hgx
theorem contains_some (g : Ins → Bool) (fa : Option Addr) (fc : Nat) (f : List Ins) (a8 a0 a6 : Option Addr) (w : World) (hf : f.length ≤ 1000000) (hc : FnAt w fa f) (hg : ∃ x ∈ f, g x = true)
    (hcl : ∀ w', Bl w w' → ∀ x ∈ f, Calls Try.prog 101 #[insV x, .pointer a8, .pointer a0, .pointer a6] w' fun e w'' => e = .returned (.bool (g x)) ∧ Bl w' w'') :
    Calls Try.prog 100 #[.slice fa f.length fc, .func (.func 101) #[] #[.pointer a8, .pointer a0, .pointer a6]] w fun e w' => e = .returned (.bool true) ∧ Bl w w' := by
  have h := index_some g fa fc f a8 a0 a6 w hf hc hg hcl
  clear hcl hc hg
  go_enter Try.func100, Try.ntmps100
  go_wp2_with fail
  refine h.mono ?_
  rintro e w1 ⟨q, rfl, hb1⟩
  have hq : (0 : Int) ≤ (q : Int) := by omega
  go_wp2_with fail
  go_ret
  exact ⟨rfl, hb1⟩
end Go.Proofs.Ytonndofbnhnkpaa.Chk
set_option linter.unusedVariables false
set_option linter.unusedSimpArgs false
set_option linter.unusedSectionVars false
namespace Go.Proofs.Ytonndofbnhnkpaa.Chk
open Go.RowKit Num KeyM KeyW StatW Blk VmA Prg PutA CodA
set_option maxRecDepth 100000 in
set_option maxHeartbeats 8000000 in
theorem check_no (pa : Option Addr) (pc : Nat) (futs depth fuel : Int) (f : List Ins) (w : World) (hP : PU [f] futs depth fuel) (hC : CodeAt w.heap.size w pa [f])
    (hend : ∃ x, f[f.length - 1]? = some x ∧ (x.op = 7 ∨ x.op = 15)) (hin : ∀ x ∈ f, (x.op = 7 → x.a < f.length) ∧ (x.op = 8 → x.b < f.length)) (hbad : ∃ x ∈ f, (!forkR 1 x) = true) :
    Calls Try.prog 69 #[progV pa 1 pc futs depth fuel] w fun e w' => e = .returned (.int .i64 5) ∧ Bl w w' := by
  obtain ⟨b, off, rfl, hbK, fa, fc, hc1, hc2⟩ := hC 0 f rfl
  have hff := hP.fns f (by simp)
  have hfl := hff.2.1
  have hrow := row4_alloc w (.slice (some ⟨b, off, none⟩) 1 pc) (.int .i64 futs) (.int .i64 depth) (.int .i64 fuel) 52
  have hput := fun w' (hb : Bl w w') => codeput_okU (some ⟨b, off, none⟩) pc futs depth fuel [f] w' hP (Prg.CodeAt.mono (CodeAt.later (S := fun _ => False) hC (Ch.of_bl hb) (fun _ _ h => h)) hb.size)
  have HIN := Lib.hid hin
  have HBAD := Lib.hid hbad
  have HE := Lib.hid hend
  have HF1 := hff.1
  have HC1 := Lib.hid hc1
  have HC2 := Lib.hid hc2
  clear hC hP hin hbad hend hff hc1 hc2
  change ∀ w', Bl w w' → Calls Try.prog 84 #[progV (some ⟨b, off, none⟩) 1 pc futs depth fuel] w' fun e w'' => ∃ s : ByteArray, e = .returned (.tuple #[.string s, .int .i64 0]) ∧ Bl w' w'' at hput
  unfold progV at *
  go_enter Try.func69, Try.ntmps69
  go_wp2_with fail
  refine (hput _ ((Bl.refl _).alloc _)).mono ?_
  rintro e w2 ⟨s, rfl, hb2⟩
  have hrow2 := row_bl hrow hb2
  have HB2 : Hid (Bl w w2) := Bl.trans ((Bl.refl _).alloc _) hb2
  have hlt2 := hrow2.lt
  have HR2 := Lib.hid hrow2
  obtain ⟨⟨k0, k1, k2, k3⟩, _⟩ := row4_cells hrow2
  clear hrow hb2 hput hrow2
  go_wp2_with fail
  clear k0 k1 k2 k3
  go_loopw [24] (fun i wr => i = .int .i64 0 ∧ Bl w2 wr) (fun i _ => 0)
  case atStart => exact ⟨rfl, Bl.refl _⟩
  case round =>
    obtain ⟨rfl, hB⟩ := hrel
    have hBw : Bl w wr := Bl.trans HB2.out hB
    have hc1' := st_cell hBw HC1.out
    rw [Nat.add_zero] at hc1'
    have hFa : FnAt (wr.alloc (.cells #[.slice fa f.length fc] 49)) fa f := fun j x hx => by
      obtain ⟨d, o, e1, _, g0, g1, g2, g3⟩ := HC2.out j x hx
      have hb := Bl.alloc hBw (.cells #[.slice fa f.length fc] 49)
      exact ⟨d, o, e1, st_cell hb g0, st_cell hb g1, st_cell hb g2, st_cell hb g3⟩
    obtain ⟨xe, hxe, hoe⟩ := HE.out
    have hen := ends_ok fa fc f xe (wr.alloc (.cells #[.slice fa f.length fc] 49)) HF1 (by omega) hFa hxe hoe
    have HFA := Lib.hid hFa
    have h6 : (wr.alloc (.cells #[.slice fa f.length fc] 49)).cell? ⟨wr.heap.size, 0, none⟩ = some (.slice fa f.length fc) := by go_simp
    clear hFa hxe hoe
    go_wp2_with fail
    refine hen.mono ?_
    rintro e w3 ⟨rfl, hb3⟩
    have h6' := st_cell hb3 h6
    have hb3' : Bl w2 w3 := Bl.trans (Bl.alloc hB _) hb3
    have HF3 := Lib.hid (fnat_bl HFA.out hb3)
    have HB3 := Lib.hid hb3'
    generalize wr.heap.size = B6 at *
    clear hen hb3 h6 HFA hb3'
    go_wp2_with fail
    refine (looks_any _).mono ?_
    rintro e w4 ⟨G, BX, rfl, hb4, x0, g0, g1, g2, g3, g4⟩
    have h64 := st_cell hb4 h6'
    have HF := Lib.hid (fnat_bl HF3.out hb4)
    have HB4 : Hid (Bl w2 w4) := Bl.trans HB3.out hb4
    have HR4 := Lib.hid (row_bl HR2.out HB4.out)
    have H6 := Lib.hid h64
    have HX := Lib.hid x0
    clear h6' hb4 HF3 HB3 x0 h64 hB hBw hc1'
    go_wp2_with fail
    go_loopw [33] (fun i w5 => ∃ (j : Nat), j ≤ 2 ∧ i = .int .i64 j ∧ Bl w4 w5) (fun i _ => 5 - (intOf i).toNat)
    case atStart => exact ⟨0, by omega, rfl, Bl.refl _⟩
    case round =>
      obtain ⟨j, hj, rfl, hB5⟩ := hrel
      have HB5 := Lib.hid hB5
      obtain rfl | rfl | rfl : j = 0 ∨ j = 1 ∨ j = 2 := by omega
      · have hbW : Bl wr (wr.alloc (.cells #[.func (.func 133) #[] #[.pointer (some ⟨BX, 0, none⟩)]] 161)) := (Bl.refl _).alloc _
        have c0 := st_cell hB5 g0
        have hct := contains_none fa fc f (some ⟨wr.heap.size, 0, none⟩) (some ⟨w.heap.size, 0, none⟩) (some ⟨B6, 0, none⟩) (wr.alloc (.cells #[.func (.func 133) #[] #[.pointer (some ⟨BX, 0, none⟩)]] 161)) (by omega) (fnat_bl HF.out (Bl.trans HB5.out hbW)) (fun w' hw' x hx => by
          have hin := HIN.out x hx
          exact clos133 (some ⟨b, off, none⟩) 1 pc f.length fc wr.heap.size w.heap.size B6 BX futs depth fuel fa x w' (st_cell hw' (by go_simp)) (row_bl HR4.out (Bl.trans (Bl.trans HB5.out hbW) hw')) (st_cell (Bl.trans (Bl.trans HB5.out hbW) hw') H6.out) (fun w6 h6 => look2 (some ⟨b, off, none⟩) 1 pc f.length fc BX futs depth fuel fa x w6 (st_cell (Bl.trans (Bl.trans (Bl.trans HB5.out hbW) hw') h6) HX.out) hin.1))
        have h6' := st_cell hB5 H6.out
        have l6 := lt_of_cell h6'
        go_wp2_with fail
        refine hct.mono ?_
        rintro e w7 ⟨rfl, hb7⟩
        go_wp2_with fail
        go_roundw
        case rel => exact ⟨0+1, by omega, by go_num, Bl.trans (Bl.trans hB5 hbW) hb7⟩
        case measure => simp [intOf]
      · have hbW : Bl wr (wr.alloc (.cells #[.func (.func 134) #[] #[.pointer (some ⟨BX, 0, none⟩)]] 161)) := (Bl.refl _).alloc _
        have c1 := st_cell hB5 g1
        have hct := contains_none fa fc f (some ⟨wr.heap.size, 0, none⟩) (some ⟨w.heap.size, 0, none⟩) (some ⟨B6, 0, none⟩) (wr.alloc (.cells #[.func (.func 134) #[] #[.pointer (some ⟨BX, 0, none⟩)]] 161)) (by omega) (fnat_bl HF.out (Bl.trans HB5.out hbW)) (fun w' hw' x hx => by
          have hin := HIN.out x hx
          exact clos134 (some ⟨b, off, none⟩) 1 pc f.length fc wr.heap.size w.heap.size B6 BX futs depth fuel fa x w' (st_cell hw' (by go_simp)) (row_bl HR4.out (Bl.trans (Bl.trans HB5.out hbW) hw')) (st_cell (Bl.trans (Bl.trans HB5.out hbW) hw') H6.out) (fun w6 h6 => look3 (some ⟨b, off, none⟩) 1 pc f.length fc BX futs depth fuel fa x w6 (st_cell (Bl.trans (Bl.trans (Bl.trans HB5.out hbW) hw') h6) HX.out) hin.2))
        have h6' := st_cell hB5 H6.out
        have l6 := lt_of_cell h6'
        go_wp2_with fail
        refine hct.mono ?_
        rintro e w7 ⟨rfl, hb7⟩
        go_wp2_with fail
        go_roundw
        case rel => exact ⟨1+1, by omega, by go_num, Bl.trans (Bl.trans hB5 hbW) hb7⟩
        case measure => simp [intOf]
      · have hbW : Bl wr (wr.alloc (.cells #[.func (.func 135) #[] #[]] 161)) := (Bl.refl _).alloc _
        have c2 := st_cell hB5 g2
        have hct := contains_some (fun x => !forkR 1 x) fa fc f (some ⟨wr.heap.size, 0, none⟩) (some ⟨w.heap.size, 0, none⟩) (some ⟨B6, 0, none⟩) (wr.alloc (.cells #[.func (.func 135) #[] #[]] 161)) (by omega) (fnat_bl HF.out (Bl.trans HB5.out hbW)) HBAD.out (fun w' hw' x hx =>
          clos135g (some ⟨b, off, none⟩) 1 pc f.length fc wr.heap.size w.heap.size B6 futs depth fuel fa x w' (forkR 1 x) (st_cell hw' (by go_simp)) (row_bl HR4.out (Bl.trans (Bl.trans HB5.out hbW) hw')) (st_cell (Bl.trans (Bl.trans HB5.out hbW) hw') H6.out) (fun w6 h6 => look4g (some ⟨b, off, none⟩) 1 pc f.length fc futs depth fuel fa x w6))
        have h6' := st_cell hB5 H6.out
        have l6 := lt_of_cell h6'
        go_wp2_with fail
        refine hct.mono ?_
        rintro e w7 ⟨rfl, hb7⟩
        go_wp2_with fail
        go_ret
        exact ⟨rfl, Bl.trans HB2.out (Bl.trans HB4.out (Bl.trans (Bl.trans hB5 hbW) hb7))⟩
end Go.Proofs.Ytonndofbnhnkpaa.Chk
