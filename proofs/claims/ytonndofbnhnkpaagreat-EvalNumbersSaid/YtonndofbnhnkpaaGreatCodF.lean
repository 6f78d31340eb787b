/- The program's package code: the bytes of a program that may run. -/
import Derived.Test.YtonndofbnhnkpaaGreatCodE
import Derived.Lib.SlBytesConst
import Derived.ArgAppend
import Derived.Deep.CutBlock
set_option linter.unusedVariables false
set_option linter.unusedSimpArgs false
set_option linter.unusedSectionVars false
namespace Go.Proofs.YtonndofbnhnkpaaGreat.CodA
open Go.RowKit Num KeyM KeyW StatW Blk VmA Prg PutA App
theorem notyet {ops : Array Oper} {L : Array Bool} {o : Oper} {i : Nat} (hs : L.size = ops.size) (h : L[i]? = some true → ∀ e ∈ o.after.toList, Region.binds .any e = true → L[e.on]? = some true) (j : Nat) (hj : ∃ e ∈ o.after.toList, Region.binds .any e = true ∧ e.on = j) (hL : L[j]? = some false) (hi : i < ops.size := by decide) : L[i]? = some false := by
  obtain ⟨e, he, hb, rfl⟩ := hj
  cases hh : L[i]? with
  | none => rw [Array.getElem?_eq_none_iff] at hh; omega
  | some c =>
    cases c
    · rfl
    · have := h hh e he hb
      rw [hL] at this; cases this
set_option maxRecDepth 100000 in
set_option maxHeartbeats 8000000 in
theorem codeput_ok (pa : Option Addr) (pc : Nat) (futs depth fuel : Int) (fs : List (List Ins)) (w : World) (hP : PV fs futs depth fuel) (hC : CodeAt w.heap.size w pa fs) :
    Calls Tryz.prog 25 #[progV pa fs.length pc futs depth fuel] w fun e w' => ∃ s : ByteArray, e = .returned (.tuple #[.string s, .int .i64 0]) ∧ Bl w w' := by
  have p1 := hP.one
  have p2 := hP.most
  have p3 := hP.futs0
  have p4 := hP.futs1
  have p5 := hP.dep0
  have p6 := hP.dep1
  have p7 := hP.fuel0
  have p8 := hP.fuel1
  obtain ⟨i0, hi, hz0, hz1, hz2⟩ := info_parts info5
  obtain ⟨f0, hf0⟩ : ∃ f, fs[0]? = some f := ⟨_, List.getElem?_eq_getElem (by omega)⟩
  obtain ⟨b, off, rfl, _⟩ := hC 0 f0 hf0
  have hrow := row4_alloc w (.slice (some ⟨b, off, none⟩) fs.length pc) (.int .i64 futs) (.int .i64 depth) (.int .i64 fuel) 24
  have hchk := fun w' (hb : Bl w w') => check_ok (some ⟨b, off, none⟩) pc futs depth fuel fs w' hP (Prg.CodeAt.mono (CodeAt.later (S := fun _ => False) hC (Ch.of_bl hb) (fun _ _ h => h)) hb.size)
  have hcs := fun (w : World) (C : Array Value) (n c : Nat) => Lib.run_convert_bytes_const (P := Tryz.prog) w 104 5 C n c Tryz.underlying104 Tryz.underlying5
  have HC := Lib.hid hC
  have HP := Lib.hid hP
  clear hC hP hf0
  unfold progV at *
  go_enter Tryz.func25, Tryz.ntmps25
  go_wp2_with fail
  refine (hchk _ ((Bl.refl _).alloc _)).mono ?_
  rintro e w2 ⟨rfl, hb2⟩
  have hrow2 := row_bl hrow hb2
  have HB2 : Hid (Bl w w2) := Bl.trans ((Bl.refl _).alloc _) hb2
  have hlt2 := hrow2.lt
  have HR2 := Lib.hid hrow2
  obtain ⟨⟨k0, k1, k2, k3⟩, _⟩ := row4_cells hrow2
  clear hrow hb2 hchk hrow2
  go_wp2_with (at_builtin; refine wpList_append_arg _ rfl _ _ 104 rfl 5 i0 _ 1 1 Tryz.underlying104 hi hz0 hz1 hz2 rfl (by decide) w2.heap.size 0 3 3 [.int .u8 77, .int .u8 71, .int .u8 80] rfl rfl ?c0 ⟨w2.heap.size + 1, 0, none⟩ 2 2 [.int .u8 futs, .int .u8 depth] rfl rfl ?c1 ?c2 (by intro h; omega) ?c3 ?c4 (by intro h; omega) ?c5)
  case c0 =>
    have hn := World.news_of_block (cs := #[.int .u8 77, .int .u8 71, .int .u8 80]) (t := 5) (fr := (3, 4)) (heap_alloc_new w2 _)
    intro j u hj
    have hj' := hn j u hj
    rw [Addr.add_lit] at hj'
    exact Lib.cell?_alloc_marked _ hj'
  case c1 =>
    intro j u hj
    rcases j with _ | _ | j
    · cases hj; go_simp
    · cases hj; go_simp
    · cases hj
  case c2 => intro u hu; simp at hu; rcases hu with rfl | rfl <;> rfl
  case c3 => decide
  case c4 => decide
  intro v5 w3 hown3 hgr
  have hB3 : Bl w2 w3 := Bl.trans (Bl.alloc (Bl.alloc (Bl.refl w2) (.cells #[.int .u8 77, .int .u8 71, .int .u8 80] 5 (3, 4))) (.cells #[.int .u8 futs, .int .u8 depth] 5)) (bl_of_grown hgr)
  have hown3 := own_base hown3 (show w2.heap.size ≤ w2.heap.size + 1 + 1 by omega)
  have ho3 : Own8 w2.heap.size w3 v5 5 := ⟨_, hown3, fun u hu => by simp at hu; rcases hu with rfl | rfl | rfl | rfl | rfl <;> exact ⟨_, rfl⟩⟩
  have rowb : ∀ w', Below w2.heap.size w3 w' → w'.rowIs w.heap.size 24 4 (four (.slice (some ⟨b, off, none⟩) fs.length pc) (.int .i64 futs) (.int .i64 depth) (.int .i64 fuel)) := fun w' hb => row_bl HR2.out (show Below w2.heap.size w2 w' from Below.trans hB3 hb)
  have HO3 := Lib.hid ho3
  have HB3 := Lib.hid hB3
  have HRW := Lib.hid rowb
  clear hown3 hgr ho3 hB3 rowb k0 k1 k2 k3
  go_upto_region 5 with fail
  have hs3 : w2.heap.size ≤ w3.heap.size := HB3.out.size
  refine Tab.region_tab3 (by kernel_rfl) idx5 83 (W5 w2.heap.size w3 v5 (.slice (some ⟨b, off, none⟩) fs.length pc) 5 w.heap.size fs.length fuel ((fs.length : Int) % 256)) (by kernel_rfl) (by rfl) (by kernel_rfl) ⟨_, W5.start HO3.out hs3⟩ ?_ ?_
  · intro L V a w4 hT hs hd hW
    have h5 := hW.out (hd 10 (by decide))
    have h34 := hW.fin (hd 9 (by decide))
    have hB4 : Bl w2 w4 := Below.trans HB3.out hW.bl
    have ha := hT.all (by show ∀ q ∈ idx5, q.2 < 83; decide) (fun q hq => hd q.1 (by revert q; decide))
    clear hT hs hd hW hs3
    rw [ha]
    clear ha
    simp only [Tab.puts, idx5, h5]
    have HO4 := Lib.hid h34
    clear h5 h34
    generalize V 25 = u25
    generalize V 26 = u26
    generalize V 27 = u27
    generalize V 28 = u28
    generalize V 29 = u29
    generalize V 30 = u30
    generalize V 31 = u31
    generalize V 32 = u32
    generalize V 33 = u33
    generalize V 34 = v8 at *
    obtain ⟨⟨k0, k1, k2, k3⟩, _⟩ := row4_cells (row_bl HR2.out hB4)
    have HB4 := Lib.hid hB4
    clear hB4 k1 k2 k3
    go_wp2_with fail
    clear k0
    go_loopw [5, 38] (fun x i wr => ∃ (q m : Nat), q ≤ fs.length ∧ m ≤ 8 + 241 * q ∧ 1 ≤ m ∧ i = .int .i64 q ∧ Own8 w2.heap.size wr x m ∧ Bl w2 wr) (fun _ i _ => fs.length - (intOf i).toNat)
    case atStart => exact ⟨0, 8, by omega, by omega, by omega, rfl, HO4.out, HB4.out⟩
    case round =>
      obtain ⟨q, m, hq, hm, hm1, rfl, ⟨xs, ho, hxs⟩, hB⟩ := hrel
      have hBw : Bl w wr := Bl.trans HB2.out hB
      have hsz := hB.size
      by_cases hlt : q < fs.length
      · obtain ⟨f, hf⟩ : ∃ f, fs[q]? = some f := ⟨_, List.getElem?_eq_getElem hlt⟩
        obtain ⟨b', off', he, hbK, fa, fc, hc1, hc2⟩ := HC.out q f hf
        cases he
        have hff := HP.out.fns f (List.mem_of_getElem? hf)
        have hfl := hff.2.1
        have hc1' := st_cell hBw hc1
        have a1 : (q : Int) < (fs.length : Int) := by omega
        have a2 : (0 : Int) ≤ (q : Int) := by omega
        have HC2 := Lib.hid hc2
        have HXS := Lib.hid hxs
        clear hf hc2 hff hc1 hxs
        go_wp2_with (at_builtin; refine wpList_append_own _ rfl _ _ 104 rfl w2.heap.size 5 i0 _ 1 1 Tryz.underlying104 hi hz0 hz1 hz2 rfl (by decide) _ _ _ rfl (ho.alloc _) ⟨wr.heap.size, 0, none⟩ 1 1 [.int .u8 (f.length : Int)] rfl rfl ?d1 ?d2 ?d3 ?d4 ?d5 ?_)
        case d1 => exact World.news_of_block (cs := #[.int .u8 (f.length : Int)]) (t := 5) (fr := (0, 0)) (heap_alloc_new wr _)
        case d2 => intro u hu; simp at hu; subst hu; rfl
        case d3 => unfold maxLen; omega
        case d4 => omega
        case d5 => simp; omega
        intro v6 w6 hown6 hgr _
        have hB6 : Bl w2 w6 := Below.grown (show Below w2.heap.size w2 _ from Bl.alloc hB (.cells #[.int .u8 (f.length : Int)] 5)) hgr (by simp; omega) (fun k hk => (World.ownsRow.lt ho k hk).1)
        have ho6 : Own8 w2.heap.size w6 v6 (m + 1) := ⟨_, hown6, fun u hu => by
          rcases List.mem_append.1 hu with h | h
          · exact HXS.out u h
          · simp at h; exact ⟨_, h⟩⟩
        have HB6 := Lib.hid hB6
        have HO6 := Lib.hid ho6
        clear hown6 hgr hB6 ho6 hB ho hBw hsz
        go_wp2_with fail
        go_loopw [5, 50] (fun x i wr => ∃ (j n : Nat), j ≤ f.length ∧ n ≤ 9 + 241 * q + 6 * j ∧ 1 ≤ n ∧ i = .int .i64 j ∧ Own8 w2.heap.size wr x n ∧ Bl w2 wr) (fun _ i _ => f.length - (intOf i).toNat)
        case atStart => exact ⟨0, m + 1, by omega, by omega, by omega, rfl, HO6.out, HB6.out⟩
        case round =>
          obtain ⟨j, n, hj, hn, hn1, rfl, ⟨ys, hoy, hys⟩, hBy⟩ := hrel
          have hBw : Bl w wr := Bl.trans HB2.out hBy
          have hsz := hBy.size
          have HYS := Lib.hid hys
          clear hys
          by_cases hjl : j < f.length
          · obtain ⟨x, hx⟩ : ∃ x, f[j]? = some x := ⟨_, List.getElem?_eq_getElem hjl⟩
            obtain ⟨db, do_, rfl, _, g0, g1, g2, g3⟩ := HC2.out j x hx
            have g0 := st_cell hBw g0
            have g1 := st_cell hBw g1
            have g2 := st_cell hBw g2
            have g3 := st_cell hBw g3
            have a3 : (j : Int) < (f.length : Int) := by omega
            have a4 : (0 : Int) ≤ (j : Int) := by omega
            clear hx hc1'
            go_wp2_with (at_builtin; refine wpList_append_own _ rfl _ _ 104 rfl w2.heap.size 5 i0 _ 1 1 Tryz.underlying104 hi hz0 hz1 hz2 rfl (by decide) _ _ _ rfl ((hoy.alloc _).alloc _) ⟨wr.heap.size + 1, 0, none⟩ 2 2 [.int .u8 (x.op % 256), .int .u8 (x.a % 256)] rfl rfl ?e1 ?e2 ?e3 ?e4 ?e5 ?_)
            case e1 =>
              intro j u hj
              rcases j with _ | _ | j
              · cases hj; go_simp
              · cases hj; go_simp
              · cases hj
            case e2 => intro u hu; simp at hu; rcases hu with rfl | rfl <;> rfl
            case e3 => unfold maxLen; omega
            case e4 => omega
            case e5 => simp; omega
            intro v7 w7 hown7 hgr _
            have hB6 : Bl w2 (wr.alloc (.cells #[.int .i64 x.op, .int .i64 x.a, .int .i64 x.b, .int .i64 x.c] 53)) := Bl.alloc hBy _
            have hB7 : Bl w2 w7 := Below.grown (show Below w2.heap.size w2 _ from Bl.alloc hB6 (.cells #[.int .u8 (x.op % 256), .int .u8 (x.a % 256)] 5)) hgr (by simp; omega) (fun k hk => (World.ownsRow.lt hoy k hk).1)
            have hI : wr.heap.size < w2.heap.size ∨ w2.heap.size ≤ wr.heap.size := by omega
            have hr7 : w7.rowIs wr.heap.size 53 4 (four (.int .i64 x.op) (.int .i64 x.a) (.int .i64 x.b) (.int .i64 x.c)) := by
              have h1 := row4_alloc wr (.int .i64 x.op) (.int .i64 x.a) (.int .i64 x.b) (.int .i64 x.c) 53
              have h2 := World.rowIs.alloc h1 (.cells #[.int .u8 (x.op % 256), .int .u8 (x.a % 256)] 5)
              exact (ch_of_grown hgr).row h2 (fun e => by have := (World.ownsRow.lt hoy _ e).2; omega)
            have ho7 : Own8 w2.heap.size w7 v7 (n + 2) := ⟨_, hown7, fun u hu => by
              rcases List.mem_append.1 hu with h | h
              · exact HYS.out u h
              · simp at h; rcases h with h | h <;> exact ⟨_, h⟩⟩
            obtain ⟨⟨t0, t1, t2, t3⟩, _⟩ := row4_cells hr7
            have hlt7 := hr7.lt
            have hsz7 := hB7.size
            clear hown7 hgr hB6 hoy hBy hI g0 g1 g2 g3 hr7
            by_cases h1 : x.op = 1
            · have hbg := big_any w2.heap.size (n + 2) 4 v7 x.b w7 (Or.inr rfl) ho7 hsz7 (by omega)
              obtain ⟨zs7, ho7', _⟩ := ho7
              have HL7 := Lib.hid (World.ownsRow.lt ho7')
              clear ho7'
              go_wp2_with fail
              refine hbg.mono ?_
              rintro e w8 ⟨v8', rfl, ho8, hc8, _⟩
              have hB8 : Bl w2 w8 := Below.trans hB7 (below_ch hc8 (fun i hi e => by have := (HL7.out i e).1; omega) hsz7)
              clear hbg hc8
              go_wp2_with fail
              go_roundw
              case rel => exact ⟨j + 1, n + 2 + 4, by omega, by omega, by omega, by go_num, ho8, hB8⟩
              case measure => simp [intOf]; omega
            · obtain ⟨zs7, ho7', hz7⟩ := ho7
              have HZ7 := Lib.hid hz7
              clear hz7
              go_wp2_with (at_builtin; refine wpList_append_own _ rfl _ _ 104 rfl w2.heap.size 5 i0 _ 1 1 Tryz.underlying104 hi hz0 hz1 hz2 rfl (by decide) _ _ _ rfl (ho7'.alloc _) ⟨w7.heap.size, 0, none⟩ 2 2 [.int .u8 (x.b % 256), .int .u8 (x.c % 256)] rfl rfl ?f1 ?f2 ?f3 ?f4 ?f5 ?_)
              case f1 => exact World.news_of_block (cs := #[.int .u8 (x.b % 256), .int .u8 (x.c % 256)]) (t := 5) (fr := (0, 0)) (heap_alloc_new w7 _)
              case f2 => intro u hu; simp at hu; rcases hu with rfl | rfl <;> rfl
              case f3 => unfold maxLen; omega
              case f4 => omega
              case f5 => simp; omega
              intro v8' w8 hown8 hgr _
              have hB8 : Bl w2 w8 := Below.grown (show Below w2.heap.size w2 _ from Bl.alloc hB7 (.cells #[.int .u8 (x.b % 256), .int .u8 (x.c % 256)] 5)) hgr (by simp; omega) (fun k hk => (World.ownsRow.lt ho7' k hk).1)
              have ho8 : Own8 w2.heap.size w8 v8' (n + 2 + 2) := ⟨_, hown8, fun u hu => by
                rcases List.mem_append.1 hu with h | h
                · exact HZ7.out u h
                · simp at h; rcases h with h | h <;> exact ⟨_, h⟩⟩
              clear hown8 hgr ho7' hB7
              go_wp2_with fail
              go_roundw
              case rel => exact ⟨j + 1, n + 2 + 2, by omega, by omega, by omega, by go_num, ho8, hB8⟩
              case measure => simp [intOf]; omega
          · obtain rfl : j = f.length := by omega
            have a3 : decide (f.length < f.length) = false := by simp
            go_wp2_with fail
            go_roundw
            case rel => exact ⟨q + 1, n, by omega, by omega, hn1, by go_num, ⟨ys, hoy, HYS.out⟩, hBy⟩
            case measure => simp [intOf]; omega
      · obtain rfl : q = fs.length := by omega
        have a3 : decide (fs.length < fs.length) = false := by simp
        obtain ⟨s, hcv⟩ := conv_own ⟨xs, ho, hxs⟩ (by omega)
        go_wp2_with fail
        go_ret2
        exact ⟨_, rfl, hBw⟩
  · intro i' o L V a w8 K' Q' hT hs hW hL ho hd hold hcl hK
    have hi' : i' < 11 := (Array.getElem?_eq_some_iff.1 ho).1
    have r1 : a.tmps[1]? = some (.pointer (some ⟨w.heap.size, 0, none⟩)) := (hT.out 1 (by decide)).trans rfl
    have HT : Hid (∀ q ∈ idx5, L[q.1]? = some true → a.tmps[q.2]? = some (V q.2)) := hT.tab
    have HW := Lib.hid hW
    have rowb := HRW.out
    clear hT hW
    obtain rfl | rfl | rfl | rfl | rfl | rfl | rfl | rfl | rfl | rfl | rfl : i' = 0 ∨ i' = 1 ∨ i' = 2 ∨ i' = 3 ∨ i' = 4 ∨ i' = 5 ∨ i' = 6 ∨ i' = 7 ∨ i' = 8 ∨ i' = 9 ∨ i' = 10 := by omega
    · have l10 : L[10]? = some false := notyet hs (hcl 10 _ rfl) 0 ⟨⟨0, .phase⟩, by simp, rfl, rfl⟩ hL
      have r5 : a.tmps[5]? = some v5 := (hold (10, 5) (by decide) l10).trans rfl
      cases ho
      clear hd HT hold hcl
      go_simp
      exact hK _ _ (HW.out.step 0 25 (by decide) (by decide) (by decide) (by decide))
    · cases ho
      clear hd HT hold hcl
      go_simp
      exact hK _ _ (HW.out.step 1 26 (by decide) (by decide) (by decide) (by decide))
    · obtain ⟨⟨m0, m1, m2, m3⟩, _⟩ := row4_cells (rowb _ (HW.out.bl))
      have s26 : a.tmps[26]? = some (.pointer (some ⟨w.heap.size, 3, none⟩)) := (HT.out (1, 26) (by decide) (by cases ho; exact hd ⟨1, .data⟩ (by simp) rfl)).trans (congrArg some (HW.out.stat (1, 26) (by decide) (by cases ho; exact hd ⟨1, .data⟩ (by simp) rfl)))
      cases ho
      clear hd HT hold hcl
      go_simp
      exact hK _ _ (HW.out.step 2 27 (by decide) (by decide) (by decide) (by decide))
    · have s25 : a.tmps[25]? = some (v5) := (HT.out (0, 25) (by decide) (by cases ho; exact hd ⟨0, .data⟩ (by simp) rfl)).trans (congrArg some (HW.out.stat (0, 25) (by decide) (by cases ho; exact hd ⟨0, .data⟩ (by simp) rfl)))
      have s27 : a.tmps[27]? = some (.int .i64 fuel) := (HT.out (2, 27) (by decide) (by cases ho; exact hd ⟨2, .data⟩ (by simp) rfl)).trans (congrArg some (HW.out.stat (2, 27) (by decide) (by cases ho; exact hd ⟨2, .data⟩ (by simp) rfl)))
      have l10 : L[10]? = some false := notyet hs (hcl 10 _ rfl) 3 ⟨⟨3, .phase⟩, by simp, rfl, rfl⟩ hL
      have l9 : L[9]? = some false := notyet hs (hcl 9 _ rfl) 3 ⟨⟨3, .data⟩, by simp, rfl, rfl⟩ hL
      cases ho
      clear hd HT hold hcl
      obtain ⟨hsz, hrow9⟩ : w2.heap.size ≤ w8.heap.size ∧ Own8 w2.heap.size w8 v5 5 := ⟨HW.out.sz, by have := HW.out.row (by rw [l9]; decide); unfold cur at this; rw [if_neg (by rw [hL]; decide), if_neg (by rw [hL]; decide)] at this; exact this⟩
      go_simp
      go_at_call 43
      refine (big_any w2.heap.size 5 2 v5 fuel w8 (Or.inl rfl) hrow9 hsz (by decide)).mono ?_
      rintro e w9 ⟨v', rfl, ho', hc', hat'⟩
      go_simp
      exact hK _ _ (HW.out.call hL l9 l10 v' ho' hc' hat')
    · cases ho
      clear hd HT hold hcl
      go_simp
      exact hK _ _ (HW.out.step 4 29 (by decide) (by decide) (by decide) (by decide))
    · obtain ⟨⟨m0, m1, m2, m3⟩, _⟩ := row4_cells (rowb _ (HW.out.bl))
      have s29 : a.tmps[29]? = some (.pointer (some ⟨w.heap.size, 0, none⟩)) := (HT.out (4, 29) (by decide) (by cases ho; exact hd ⟨4, .data⟩ (by simp) rfl)).trans (congrArg some (HW.out.stat (4, 29) (by decide) (by cases ho; exact hd ⟨4, .data⟩ (by simp) rfl)))
      cases ho
      clear hd HT hold hcl
      go_simp
      exact hK _ _ (HW.out.step 5 30 (by decide) (by decide) (by decide) (by decide))
    · have s30 : a.tmps[30]? = some (.slice (some ⟨b, off, none⟩) fs.length pc) := (HT.out (5, 30) (by decide) (by cases ho; exact hd ⟨5, .data⟩ (by simp) rfl)).trans (congrArg some (HW.out.stat (5, 30) (by decide) (by cases ho; exact hd ⟨5, .data⟩ (by simp) rfl)))
      cases ho
      clear hd HT hold hcl
      go_simp
      exact hK _ _ (HW.out.step 6 31 (by decide) (by decide) (by decide) (by decide))
    · have s31 : a.tmps[31]? = some (.int .i64 (fs.length : Int)) := (HT.out (6, 31) (by decide) (by cases ho; exact hd ⟨6, .data⟩ (by simp) rfl)).trans (congrArg some (HW.out.stat (6, 31) (by decide) (by cases ho; exact hd ⟨6, .data⟩ (by simp) rfl)))
      cases ho
      clear hd HT hold hcl
      go_simp
      exact hK _ _ (HW.out.step 7 32 (by decide) (by decide) (by decide) (by decide))
    · have s32 : a.tmps[32]? = some (.int .u8 ((fs.length : Int) % 256)) := (HT.out (7, 32) (by decide) (by cases ho; exact hd ⟨7, .data⟩ (by simp) rfl)).trans (congrArg some (HW.out.stat (7, 32) (by decide) (by cases ho; exact hd ⟨7, .data⟩ (by simp) rfl)))
      have l10 : L[10]? = some false := notyet hs (hcl 10 _ rfl) 8 ⟨⟨8, .phase⟩, by simp, rfl, rfl⟩ hL
      have l9 : L[9]? = some false := notyet hs (hcl 9 _ rfl) 8 ⟨⟨8, .data⟩, by simp, rfl, rfl⟩ hL
      cases ho
      clear hd HT hold hcl
      go_simp
      exact hK _ _ (HW.out.alloc hL l9 l10)
    · have l10 : L[10]? = some false := notyet hs (hcl 10 _ rfl) 9 ⟨⟨9, .phase⟩, by simp, rfl, rfl⟩ hL
      have l3 : L[3]? = some true := (by cases ho; exact hd ⟨3, .data⟩ (by simp) rfl)
      have l8 : L[8]? = some true := (by cases ho; exact hd ⟨8, .data⟩ (by simp) rfl)
      have s28 : a.tmps[28]? = some (V 28) := HT.out (3, 28) (by decide) l3
      have s33 : a.tmps[33]? = some (V 33) := HT.out (8, 33) (by decide) l8
      cases ho
      clear hd HT hold hcl
      obtain ⟨C, c1, c2, c3, c4, c5⟩ := HW.out.lit l8 (by rw [hL]; decide)
      have hrow9 := HW.out.row (by rw [hL]; decide)
      unfold cur at hrow9
      rw [if_pos l3, if_pos l3] at hrow9
      obtain ⟨xs, hx, hxz⟩ := hrow9
      rw [c1] at s33
      refine wp_append_own w8 (.tmp 28) (.tmp 33) 104 rfl w2.heap.size 5 i0 _ 1 1 Tryz.underlying104 hi hz0 hz1 hz2 rfl (by decide) (V 28) _ xs (by show a.tmps.getD 28 undef = _; rw [Array.getD_eq_getD_getElem?, s28]; rfl) hx ⟨C, 0, none⟩ 1 1 [.int .u8 ((fs.length : Int) % 256)] (by show a.tmps.getD 33 undef = _; rw [Array.getD_eq_getD_getElem?, s33]; rfl) rfl (fun j u hj => by cases j with | zero => (cases hj; exact c4) | succ j => cases hj) (by intro u hu; simp at hu; subst hu; rfl) (by decide) (by decide) HW.out.sz (fun v' w9 h2 h3 _ => ?_)
      exact hK _ _ (HW.out.app l3 hL l10 v' ⟨_, h2, fun u hu => by rcases List.mem_append.1 hu with h | h; exact hxz u h; (simp at h; exact ⟨_, h⟩)⟩ h3)
    · have l9 : L[9]? = some true := (by cases ho; exact hd ⟨9, .data⟩ (by simp) rfl)
      have s34 : a.tmps[34]? = some (V 34) := HT.out (9, 34) (by decide) l9
      cases ho
      clear hd HT hold hcl
      go_simp
      exact hK _ _ (HW.out.asg l9)
end Go.Proofs.YtonndofbnhnkpaaGreat.CodA
