/- An evaluation by tasks of the machine: a task to its end. -/
import Derived.Test.YtonndofbnhnkpaaSimB
import Derived.Test.YtonndofbnhnkpaaStatD
import Derived.Test.YtonndofbnhnkpaaVmF
import Derived.Test.YtonndofbnhnkpaaRfG
import Derived.Deep.CutBlock
import Derived.Deep.LoopGhost
namespace Go.Proofs.Ytonndofbnhnkpaa.Sim
open Go.RowKit Num KeyM KeyW StatW Blk VmA VmG Prg EvM Rf
theorem wf_i {v : Int} (h0 : -9223372036854775808 ≤ v) (h1 : v ≤ 9223372036854775807) : (Lit.int .i64 v).wf = true := by
  unfold Lit.wf
  simp only [Bool.and_eq_true, decide_eq_true_eq]
  exact ⟨h0, h1⟩
/-- A task under way. -/
def Lx (c : Xc) (B E n k : Nat) (fn key : Int) (u : RT) (S2 : RS) (w : World) (v : Value) (wr : World) : Prop :=
  ∃ (i : Nat) (t : Tk) (r : RT) (S : RS), v = .int .i64 i ∧ PI c n k fn key u S2 i t r S ∧ Is wr B t ∧ IsX c wr S (k + 1) ∧ wr.rowIs E 35 2 (fun _ => .int .i64 0) ∧ Ch (fun k => Xvs c k ∨ k = B) w wr
set_option maxRecDepth 100000 in
set_option maxHeartbeats 8000000 in
theorem x_step (c : Xc) (hc : XCfg c) (n : Nat) (ih : ∀ m, m < n → XSays c m) : XSays c n := by
  intro k fn arg key S u S2 hev hov hfn hkey hsok w hX
  have q0 : w.cell? ⟨c.X, 0, none⟩ = some (.slice c.pa c.fs.length c.pc) := hX.row.cell (i := 0) (by omega)
  have q1 : w.cell? ⟨c.X, 1, none⟩ = some (.int .i64 c.futs) := hX.row.cell (i := 1) (by omega)
  have q2 : w.cell? ⟨c.X, 2, none⟩ = some (.int .i64 c.depth) := hX.row.cell (i := 2) (by omega)
  have q3 : w.cell? ⟨c.X, 3, none⟩ = some (.int .i64 c.fuel) := hX.row.cell (i := 3) (by omega)
  have hlt := hX.row.lt
  have hst0 : 0 ≤ S.steps ∧ S.steps ≤ 1000 ∧ (S.ran.length : Int) + (k : Int) ≤ 1000 := by have := hsok.rf; have := hsok.fs; have := hsok.sm; have := hc.most1; omega
  have HX := Lib.hid hX
  have HEV := Lib.hid hev
  have HIH := Lib.hid ih
  clear hX hev ih
  go_enter Try.func38, Try.ntmps38
  go_wp2_with fail
  refine (new_any c.pa c.fs.length c.pc c.futs c.depth c.fuel fn arg key _).mono ?_
  rintro e w1 ⟨B, rfl, hBg, hI1, hb1⟩
  have hE1 : w1.rowIs w.heap.size 35 2 (fun _ => .int .i64 0) := row_bl (World.rowIs_alloc w #[.int .i64 0, .int .i64 0] 35 (fun _ => .int .i64 0) (fun i hi => by
      have hi : i < 2 := hi
      obtain rfl | rfl : i = 0 ∨ i = 1 := by omega
      all_goals rfl)) hb1
  have hb1' : Bl w w1 := Bl.trans ((Bl.refl _).alloc _) hb1
  have hX1 := HX.out.bl hb1'
  have hwB : w.heap.size + 1 ≤ B := by simpa using hBg
  clear hb1 q0 q1 q2 q3 hBg
  have q6 : w1.cell? ⟨c.X, 6, none⟩ = some (.int .i64 S.steps) := hX1.row.cell (i := 6) (by omega)
  have q7 : w1.cell? ⟨c.X, 7, none⟩ = some (.int .i64 ((S.ran.length : Int) + (k : Int))) := hX1.row.cell (i := 7) (by omega)
  have g7 := hX1.row.frozen 7
  have hlt1 := hX1.row.lt
  have HX1 := Lib.hid hX1
  have HI1 := Lib.hid hI1
  have HE1 := Lib.hid hE1
  have HB1 := Lib.hid hb1'
  generalize hT : (S.ran.length : Int) + (k : Int) = T at *
  clear hX1 hI1 hE1 hb1'
  go_upto_block 0 with fail
  refine at_world (fun w2 => Is w2 B ⟨c.pa, c.fs.length, c.pc, c.futs, c.depth, c.fuel, fn, 0, c.fuel, 0, key, fun j => if j = 0 then wrap32 arg else 0, fun _ => Hd.zero, 0, 0⟩ ∧ IsX c w2 S (k + 1) ∧ w2.rowIs w.heap.size 35 2 (fun _ => .int .i64 0) ∧ Ch (Xvs c) w w2) ?_ ?_
  · have hnB : B ≠ c.X := by omega
    have hnE : w.heap.size ≠ c.X := by omega
    exact ⟨row_setO HI1.out hnB _, by rw [← hT]; exact isX_tasks HX1.out, row_setO HE1.out hnE _, (Ch.of_bl HB1.out).set (Or.inl (Or.inl rfl)) _⟩
  rintro w2 ⟨hI2, hX2, hE2, hC2⟩
  generalize hE : w.heap.size = E at *
  have HE := Lib.hid hE
  have hKB : c.K ≤ B := by have := hX2.far.1; omega
  have hKE : c.K ≤ E := by have := hX2.far.1; omega
  have HC2 := Lib.hid hC2
  have HST : Hid (Lx c B E n k fn key u S2 w2 (.int .i64 ((0 : Nat) : Int)) w2) := by
    have hf0 := hc.pv.fuel0
    have hf1 := hc.pv.fuel1
    refine ⟨0, _, rt0 fn arg key c.fuel, S, rfl, ⟨⟨n, Nat.le_refl _, HEV.out⟩, ⟨rfl, rfl, rfl, rfl, rfl, rfl, rfl, fun j => rfl, fun j => rfl, fun j => ?_, fun j => ?_, fun _ => rfl, fun j hj => (by cases hj), ?_⟩, rok_new hc.pv rfl hfn hkey, rfl, rfl, ?_, fun _ => ?_, hsok, rfl, rfl, rfl⟩, hI2, hX2, hE2, Ch.refl _ _⟩
    · show wrap32 (if j = 0 then wrap32 arg else 0) = if j = 0 then wrap32 arg else 0
      split
      · exact w32_idem _
      · unfold wrap32; omega
    · show wrap32 0 = 0
      unfold wrap32; omega
    · show wrap32 0 = 0
      unfold wrap32; omega
    · show ((0 : Nat) : Int) + c.fuel ≤ 501; omega
    · show ((0 : Nat) : Int) + c.fuel ≤ 500; omega
  clear q6 q7 g7 hlt1 HX1 HI1 HE1 HB1 hI2 hX2 hE2 hC2 hE hst0 hsok hlt hT HX HEV
  go_wp2_with fail
  go_loopw [10] (fun v wr => Lx c B E n k fn key u S2 w2 v wr) (fun v _ => 1000 - (intOf v).toNat)
  case atStart => exact HST.out
  case round =>
    obtain ⟨i, t, r, S', rfl, hpi, hI, hX, hE, hC⟩ := hrel
    have hi : (i : Int) < 1000 := by have := hpi.i1; have := hpi.ok.fuel; omega
    obtain ⟨a, t2, hd, hsm, hN, hR⟩ := round_any c hc n k fn key u S2 i B t r S' hpi hov hX.ft HIH.out hKB
    have hsk := hpi.s
    have hst0 : 0 ≤ S'.steps ∧ S'.steps ≤ 1000 := by have := hsk.rf; have := hsk.fs; have := hsk.sm; have := hc.most1; omega
    have hfu : 0 ≤ t.fuel ∧ t.fuel ≤ 1000 := by have := hpi.sim.fuel; have := hpi.ok.fuel; have := hpi.i1; omega
    have HR := Lib.hid hR
    have HI := Lib.hid hI
    have HX := Lib.hid hX
    have HE := Lib.hid hE
    have HC := Lib.hid hC
    clear hR hI hX hE hC hpi hsk
    go_wp2_with fail
    refine (place4_any B t _ HI.out).mono ?_
    rintro e w3 ⟨rfl, d3, rfl⟩
    go_wp2_with fail
    refine (hN _ (row_drewN HI.out d3) ((HX.out.bl (Bl.drewN (Bl.refl _) _)).code)).mono ?_
    rintro e w4 ⟨rfl, hI4, hc4⟩
    have hX4 : IsX c w4 S' (k + 1) := (HX.out.bl (Bl.drewN (Bl.refl _) _)).on (ty := 113) (row_drewN HI.out d3) (by decide) (by decide) (by decide) hKB hc4
    have hE4 : w4.rowIs E 35 2 (fun _ => .int .i64 0) := hc4.row (row_drewN HE.out d3) (fun e => by omega)
    have hC4 : Ch (fun k => Xvs c k ∨ k = B) w2 w4 := (HC.out.drewN d3).trans (hc4.mono (fun _ _ e => Or.inr e))
    have q6 : w4.cell? ⟨c.X, 6, none⟩ = some (.int .i64 S'.steps) := hX4.row.cell (i := 6) (by omega)
    have g6 := hX4.row.frozen 6
    have hlt4 := hX4.row.lt
    have hfar := hX4.far_b hI4 (by decide) (by decide) (by decide)
    have hfarE := hX4.far_b hE4 (by decide) (by decide) (by decide)
    have hBE : B ≠ E := by omega
    have hEl := hE4.lt
    have hBl := hI4.lt
    obtain ⟨ak, aa, ab, ac⟩ := a
    have hA4 := row4_alloc w4 (.int .i64 ak) (.int .i64 aa) (.int .i64 ab) (.int .i64 ac) 56
    have HI4 := Lib.hid hI4
    have HX4 := Lib.hid hX4
    have HE4 := Lib.hid hE4
    have HC4 := Lib.hid hC4
    have HA4 := Lib.hid hA4
    have HIA : ∀ o, Is (w4.alloc o) B t2 := fun o => World.rowIs.alloc hI4 o
    clear hI4 hX4 hE4 hC4 hc4 hN HI HX HE HC hA4
    unfold actV
    go_wp2_with fail
    refine (place4_any B t2 _ (HIA _)).mono ?_
    rintro e w5 ⟨rfl, d5, rfl⟩
    clear HIA
    go_upto_region 12 with fail
    generalize hA : w4.heap.size = A at *
    refine at_world (fun w6 => Is w6 B t2 ∧ IsX c w6 { S' with steps := S'.steps + t.fuel - t2.fuel } (k + 1) ∧ w6.rowIs E 35 2 (fun _ => .int .i64 0) ∧ w6.rowIs A 56 4 (four (.int .i64 ak) (.int .i64 aa) (.int .i64 ab) (.int .i64 ac)) ∧ Ch (fun k => Xvs c k ∨ k = B) w2 w6) ?_ ?_
    · have hAX : A ≠ c.X := by omega
      exact ⟨row_setO (row_drewN (World.rowIs.alloc HI4.out _) _) hfar.1 _, isX_steps (HX4.out.bl (Bl.drewN ((Bl.refl _).alloc _) _)) _, row_setO (row_drewN (World.rowIs.alloc HE4.out _) _) hfarE.1 _, row_setO (row_drewN HA4.out _) hAX _, ((HC4.out.alloc _).drewN _).set (Or.inl (Or.inl (Or.inl rfl))) _⟩
    rintro w6 ⟨hI6, hX6, hE6, hA6, hC6⟩
    clear q6 g6 hlt4 HI4 HX4 HE4 HC4 HA4
    clear hA
    obtain ⟨S3, hS3⟩ : ∃ S3 : RS, S3 = { S' with steps := S'.steps + t.fuel - t2.fuel } := ⟨_, rfl⟩
    rw [← hS3] at hX6 HR
    clear hS3 hst0 hfu hd hsm hEl hBl
    obtain ⟨⟨a0, a1, a2, a3⟩, _⟩ := row4_cells hA6
    have hAl := hA6.lt
    have hEl := hE6.lt
    have hBl := hI6.lt
    have HI6 := Lib.hid hI6
    have HX6 := Lib.hid hX6
    have HE6 := Lib.hid hE6
    have HA6 := Lib.hid hA6
    have HC6 := Lib.hid hC6
    have HRR := Lib.hid HR.out
    clear hI6 hX6 hE6 hA6 hC6 HR
    cases HRR.out with
    | over e1 e2 e3 e4 e5 =>
      injection e1 with k1 k2 k3 k4
      subst k1 k2 k3 k4 e2
      have z0 : w6.cell? ⟨E, 0, none⟩ = some (.int .i64 0) := HE6.out.cell (i := 0) (by omega)
      have z1 : w6.cell? ⟨E, 1, none⟩ = some (.int .i64 0) := HE6.out.cell (i := 1) (by omega)
      have y0 := HE6.out.frozen 0
      have y1 := HE6.out.frozen 1
      clear HRR a1 a2 a3
      go_wp2_with fail
      refine (end_any B t2 _ HI6.out).mono ?_
      rintro e w7 ⟨rfl, hb7⟩
      rw [e3, e4]
      have z0' := st_cell hb7 z0
      have z1' := st_cell hb7 z1
      have y0' := st_frozen hb7 z0 y0
      have y1' := st_frozen hb7 z1 y1
      have HE7 := Lib.hid (row_bl HE6.out hb7)
      have HX7 := Lib.hid (HX6.out.bl hb7)
      have HC7 := Lib.hid (HC6.out.trans (Ch.of_bl hb7))
      have hEl7 := HE7.out.lt
      clear z0 z1 y0 y1 hb7
      go_wp2_with fail
      have hwE : w.heap.size ≤ E := by have := HE.out; omega
      have HC8 : Hid (Ch (Xvs c) w w7) := HC2.out.then HC7.out (fun i hi e => by
        rcases e with e | e
        · exact e
        · have := HE.out; omega)
      have hEr := World.rowIs.alloc (World.rowIs.set (World.rowIs.set HE7.out 0 (.int .i64 u.how)) 1 (.int .i64 u.val)) (.cells #[.int .i64 u.how, .int .i64 u.val] 35)
      have c0 : (((w7.setCell ⟨E, 0, none⟩ (.int .i64 u.how)).setCell ⟨E, 1, none⟩ (.int .i64 u.val)).alloc (.cells #[.int .i64 u.how, .int .i64 u.val] 35)).cell? ⟨E, 0, none⟩ = some (.int .i64 u.how) := hEr.cell (i := 0) (by omega)
      have c1 : (((w7.setCell ⟨E, 0, none⟩ (.int .i64 u.how)).setCell ⟨E, 1, none⟩ (.int .i64 u.val)).alloc (.cells #[.int .i64 u.how, .int .i64 u.val] 35)).cell? ⟨E, 1, none⟩ = some (.int .i64 u.val) := hEr.cell (i := 1) (by omega)
      refine bodyPost_ret (v := .agg #[.int .i64 u.how, .int .i64 u.val]) (by simp [results, Try.results38, go_sem, c0, c1]) rfl ⟨rfl, ?_, ?_, e5⟩
      · have h1 : IsX c (((w7.setCell ⟨E, 0, none⟩ (.int .i64 u.how)).setCell ⟨E, 1, none⟩ (.int .i64 u.val)).alloc (.cells #[.int .i64 u.how, .int .i64 u.val] 35)) S3 (k + 1) := (HX7.out.on HE7.out (by decide) (by decide) (by decide) hKE (((Ch.refl _ _).setB _).setB _)).bl ((Bl.refl _).alloc _)
        have hf : finish u S3 arg = { S3 with ran := put S3.ran ⟨u.key, u.fn, wrap32 arg, u.how, u.val⟩ } := by unfold finish; rw [hov]; rfl
        rw [hf]
        exact isX_ran h1 (by show ((put S3.ran _).length : Int) + (k : Int) = _; rw [put_len]; omega) rfl rfl rfl
      · exact ((HC8.out.set (Or.inr hwE) _).set (Or.inr hwE) _).alloc _
    | go e1 e2 =>
      obtain ⟨r3, hpi⟩ := e2
      have HP := Lib.hid hpi
      clear hpi HRR
      rcases e1 with e1 | e1
      · injection e1 with k1 k2 k3 k4
        subst k1 k2 k3 k4
        clear a1 a2 a3
        go_wp2_with fail
        go_roundw
        case rel => exact ⟨i + 1, t2, r3, S3, by go_num, HP.out, HI6.out, HX6.out, HE6.out, HC6.out⟩
        case measure => simp [intOf]; omega
      · injection e1 with k1 k2 k3 k4
        subst k1 k2 k3 k4
        clear a1 a2 a3
        go_wp2_with fail
        go_roundw
        case rel => exact ⟨i + 1, t2, r3, S3, by go_num, HP.out, HI6.out, HX6.out, HE6.out, HC6.out⟩
        case measure => simp [intOf]; omega
    | fork x b v ck S4 how val e1 hx hb hbl hck hch hpi =>
      injection e1 with k1 k2 k3 k4
      subst k1 k2 k3 k4
      obtain ⟨z, hz⟩ : ∃ z : Int, z = (b : Int) + 16 * (x : Int) := ⟨_, rfl⟩
      rw [← hz] at a1
      have hA1 := HA6.out
      rw [← hz] at hA1
      have HA7 := Lib.hid hA1
      have hm : z % 16 = b := by omega
      have hq : z.tdiv 16 = x := by rw [Int.tdiv_eq_ediv_of_nonneg (by omega)]; omega
      have hqw : IntKind.i64.wrap (z.tdiv 16) = z.tdiv 16 := by rw [hq, IntKind.wrap_i64]; omega
      have hz0 : 0 ≤ z := by omega
      have hz1 : z < 100 := by omega
      have hPl := fun w => Plc.place_any z 16 w (wf_i (by omega) (by omega)) (by decide) (by decide)
      rw [hm] at hPl
      have hSH := fun w (h : Is w B t2) => setHand_any B t2 x ⟨2, 0, how, val⟩ w h hx
      rw [← hq] at hSH
      unfold hdV at hSH
      have q0 : w6.cell? ⟨c.X, 0, none⟩ = some (.slice c.pa c.fs.length c.pc) := HX6.out.row.cell (i := 0) (by omega)
      have hXl := HX6.out.row.lt
      have i1 : (b : Int) < (c.fs.length : Int) := by omega
      unfold XChild at hch
      have HCH := Lib.hid hch
      have HP := Lib.hid hpi
      have HZ := Lib.hid hz
      clear hch hpi HRR hz hm hA1 hq
      go_wp2_with fail
      refine (hPl _).mono ?_
      rintro e w7 ⟨rfl, rfl⟩
      go_upto_region 20 with fail
      refine Tab.region_tab (by kernel_rfl) idx20 [] 207 (V20 c.X A B z (z.tdiv 16) b ab ac how val) (W20 c k E A B (four (.int .i64 1) (.int .i64 z) (.int .i64 ab) (.int .i64 ac)) w6 S3 S4 t2 (t2.setHand x ⟨2, 0, how, val⟩) val) (by kernel_rfl) (by rfl) (by kernel_rfl) (by intro g hg; cases hg) (W20.start HA7.out HE6.out HX6.out HI6.out) ?_ ?_
      · intro L w8 hs hd hW
        obtain ⟨hE8, hc8, hX8, hI8, hv8⟩ := hW.done (hd 10 (by decide)) (hd 12 (by decide))
        obtain ⟨r3, hp⟩ := HP.out hv8
        have HP3 := Lib.hid hp
        have HE8 := Lib.hid hE8
        have HX8 := Lib.hid hX8
        have HI8 := Lib.hid hI8
        have HC8 := Lib.hid (HC6.out.trans hc8)
        clear hp hE8 hX8 hI8 hc8 hv8 hW hd hs hPl hSH q0 a0 a1 a2 a3 HCH HP HA6 HA7 HX6 HI6 HE6 HC6
        simp only [Tab.puts, idx20, V20]
        go_wp2_with fail
        go_roundw
        case rel => exact ⟨i + 1, _, r3, S4, by go_num, HP3.out, HI8.out, HX8.out, HE8.out, HC8.out⟩
        case measure => simp [intOf]; omega
      · intro i' o L a w8 K Q' hT hs hW hL ho hd hK
        have hi' : i' < 13 := (Array.getElem?_eq_some_iff.1 ho).1
        have r0 : a.tmps[0]? = some (.pointer (some ⟨c.X, 0, none⟩)) := (hT.out 0 (by decide)).trans rfl
        have r9 : a.tmps[9]? = some (.pointer (some ⟨B, 0, none⟩)) := (hT.out 9 (by decide)).trans rfl
        have r15 : a.tmps[15]? = some (.pointer (some ⟨A, 0, none⟩)) := (hT.out 15 (by decide)).trans rfl
        have r22 : a.tmps[22]? = some (.int .i64 b) := (hT.out 22 (by decide)).trans rfl
        have hrow := hW.act
        obtain ⟨⟨b0, b1, b2, b3⟩, _⟩ := row4_cells hrow
        have hAl8 := hrow.lt
        have HT : Hid (∀ q ∈ idx20, L[q.1]? = some true → a.tmps[q.2]? = some (V20 c.X A B z (z.tdiv 16) b ab ac how val q.2)) := hT.tab
        have HW := Lib.hid hW
        clear hT hW hrow hPl q0 a0 a1 a2 a3 HP HA6 HA7 HX6 HI6 HE6 HC6
        obtain rfl | rfl | rfl | rfl | rfl | rfl | rfl | rfl | rfl | rfl | rfl | rfl | rfl : i' = 0 ∨ i' = 1 ∨ i' = 2 ∨ i' = 3 ∨ i' = 4 ∨ i' = 5 ∨ i' = 6 ∨ i' = 7 ∨ i' = 8 ∨ i' = 9 ∨ i' = 10 ∨ i' = 11 ∨ i' = 12 := by omega
        · cases ho
          clear hd
          go_simp
          exact hK _ (HW.out.skip 0 (by decide) (by decide))
        · cases ho
          clear hd
          go_simp
          exact hK _ (HW.out.skip 1 (by decide) (by decide))
        · have s112 : a.tmps[112]? = some (.pointer (some ⟨A, 1, none⟩)) := HT.out (1, 112) (by decide) (by cases ho; exact hd ⟨1, .data⟩ (by simp) rfl)
          cases ho
          clear hd
          go_simp
          exact hK _ (HW.out.skip 2 (by decide) (by decide))
        · have s113 : a.tmps[113]? = some (.int .i64 z) := HT.out (2, 113) (by decide) (by cases ho; exact hd ⟨2, .data⟩ (by simp) rfl)
          cases ho
          clear hd
          go_simp
          try rw [hqw]
          exact hK _ (HW.out.skip 3 (by decide) (by decide))
        · cases ho
          clear hd
          go_simp
          exact hK _ (HW.out.skip 4 (by decide) (by decide))
        · cases ho
          clear hd
          go_simp
          exact hK _ (HW.out.skip 5 (by decide) (by decide))
        · cases ho
          clear hd
          go_simp
          exact hK _ (HW.out.skip 6 (by decide) (by decide))
        · have s117 : a.tmps[117]? = some (.pointer (some ⟨A, 2, none⟩)) := HT.out (6, 117) (by decide) (by cases ho; exact hd ⟨6, .data⟩ (by simp) rfl)
          cases ho
          clear hd
          go_simp
          exact hK _ (HW.out.skip 7 (by decide) (by decide))
        · cases ho
          clear hd
          go_simp
          exact hK _ (HW.out.skip 8 (by decide) (by decide))
        · have s119 : a.tmps[119]? = some (.pointer (some ⟨A, 3, none⟩)) := HT.out (8, 119) (by decide) (by cases ho; exact hd ⟨8, .data⟩ (by simp) rfl)
          cases ho
          clear hd
          go_simp
          exact hK _ (HW.out.skip 9 (by decide) (by decide))
        · have s115 : a.tmps[115]? = some (.pointer (some ⟨c.X, 0, none⟩)) := HT.out (4, 115) (by decide) (by cases ho; exact hd ⟨4, .data⟩ (by simp) rfl)
          have s116 : a.tmps[116]? = some (.int .i64 b) := HT.out (5, 116) (by decide) (by cases ho; exact hd ⟨5, .data⟩ (by simp) rfl)
          have s118 : a.tmps[118]? = some (.int .i64 ab) := HT.out (7, 118) (by decide) (by cases ho; exact hd ⟨7, .data⟩ (by simp) rfl)
          have s120 : a.tmps[120]? = some (.int .i64 ac) := HT.out (9, 120) (by decide) (by cases ho; exact hd ⟨9, .data⟩ (by simp) rfl)
          cases ho
          clear hd
          have hx8 := HW.out.ex0 hL
          go_simp
          go_at_call 38
          refine (HCH.out w8 hx8).mono ?_
          rintro e w9 ⟨rfl, hX9, hc9, hw9⟩
          go_simp
          exact hK _ (HW.out.child hL hX9 hc9 hw9)
        · have s121 : a.tmps[121]? = some (.agg #[.int .i64 how, .int .i64 val]) := HT.out (10, 121) (by decide) (by cases ho; exact hd ⟨10, .data⟩ (by simp) rfl)
          cases ho
          clear hd
          go_simp
          exact hK _ (HW.out.skip 11 (by decide) (by decide))
        · have s111 : a.tmps[111]? = some (.pointer (some ⟨B, 0, none⟩)) := HT.out (0, 111) (by decide) (by cases ho; exact hd ⟨0, .data⟩ (by simp) rfl)
          have s114 : a.tmps[114]? = some (.int .i64 (z.tdiv 16)) := HT.out (3, 114) (by decide) (by cases ho; exact hd ⟨3, .data⟩ (by simp) rfl)
          have s122 : a.tmps[122]? = some (.agg #[.int .i64 2, .int .i64 0, .int .i64 how, .int .i64 val]) := HT.out (11, 122) (by decide) (by cases ho; exact hd ⟨11, .data⟩ (by simp) rfl)
          cases ho
          clear hd
          have ht8 := HW.out.task0 hL
          go_simp
          go_at_call 68
          refine (hSH w8 ht8).mono ?_
          rintro e w9 ⟨rfl, hI9, hc9⟩
          go_simp
          exact hK _ (HW.out.hand hL hKB hI9 hc9)
    | set x v e1 hx hv h1 h2 =>
      injection e1 with k1 k2 k3 k4
      subst k1 k2 k3 k4
      have hm : (x : Int) % ((c.futs : Int) + 1) = x := Int.emod_eq_of_lt (by omega) (by omega)
      have hfu := hc.pv.futs1
      have hPl := fun w => Plc.place_any (x : Int) ((c.futs : Int) + 1) w (wf_i (by omega) (by omega)) (by omega) (by omega)
      rw [hm] at hPl
      have q5 : w6.cell? ⟨c.X, 5, none⟩ = some (.slice (some ⟨c.WB, 0, none⟩) c.futs c.futs) := HX6.out.row.cell (i := 5) (by omega)
      have hXl := HX6.out.row.lt
      have i1 : (x : Int) < (c.futs : Int) := by omega
      have i2 : (0 : Int) ≤ (x : Int) := by omega
      have hfA := HX6.out.far_b HA6.out (by decide) (by decide) (by decide)
      have H1 := Lib.hid h1
      have H2 := Lib.hid h2
      have HV := Lib.hid hv
      have hSF := fun w (h : Is w B t2) => stop_any B t2 3 w h
      clear h1 h2 HRR hv
      go_wp2_with fail
      go_quiet ((go_at_call 26; exact Calls.quiet_of_same ((hPl _).mono fun _ _ ⟨p, q⟩ => ⟨p, q.symm⟩)))
      go_upto_region 23 with fail
      clear hPl
      refine at_world (fun w7 => Bl w6 w7) (Bl.drewN (Bl.refl _) _) ?_
      rintro w7 hb7
      have q5' := st_cell hb7 q5
      have a2' := st_cell hb7 a2
      have HI7 := Lib.hid (HI6.out.bl hb7)
      have HX7 := Lib.hid (HX6.out.bl hb7)
      have HE7 := Lib.hid (row_bl HE6.out hb7)
      have HC7 : Hid (Ch (fun k => Xvs c k ∨ k = B) w2 w7) := HC6.out.trans (Ch.of_bl hb7)
      have q4' : w7.cell? ⟨c.X, 4, none⟩ = some (.slice (some ⟨c.FB, 0, none⟩) c.futs c.futs) := HX7.out.row.cell (i := 4) (by omega)
      have qb' : w7.cell? ⟨c.WB, x, none⟩ = some (.bool (S3.was x)) := HX7.out.was.cell hx
      have qf' : w7.cell? ⟨c.FB, x, none⟩ = some (.int .i64 (S3.futs x)) := HX7.out.fut.cell hx
      have gb' := HX7.out.was.frozen x
      have gf' := HX7.out.fut.frozen x
      have hX7 := HX7.out.row.lt
      have hW7 := HX7.out.was.lt
      have hF7 := HX7.out.fut.lt
      have hA7 : A < w7.heap.size := Nat.lt_of_lt_of_le hAl hb7.size
      have hne := HX7.out.ne
      have hA1 : ¬ c.X = A := fun e => hfA.1 e.symm
      have hA2 : ¬ c.FB = A := fun e => hfA.2.1 e.symm
      have hA3 : ¬ c.WB = A := fun e => hfA.2.2 e.symm
      clear q5 a0 a1 a2 a3 hb7 HI6 HX6 HE6 HC6 HA6 hXl hAl hEl hBl
      have HOn : Hid (∀ w8, Ch (· = B) w7 w8 → IsX c w8 S3 (k + 1) ∧ w8.rowIs E 35 2 (fun _ => .int .i64 0) ∧ Ch (fun k => Xvs c k ∨ k = B) w2 w8) := fun w8 h8 =>
        ⟨HX7.out.on HI7.out (by decide) (by decide) (by decide) hKB h8, h8.row HE7.out (fun e => by omega), HC7.out.trans (h8.mono (fun _ _ e => Or.inr e))⟩
      cases hwas : S3.was x
      · obtain ⟨r3, hp⟩ := H2.out hwas
        have HP := Lib.hid hp
        rw [hwas] at qb'
        clear hp H1 H2 hwas
        go_wp2_with fail
        go_region
        all_goals
          go_wp2_with fail
          go_roundw
          case rel =>
            refine ⟨i + 1, t2, r3, _, by go_num, HP.out, ?_, ?_, ?_, ?_⟩
            · repeat (first | exact HI7.out | refine World.rowIs.drew ?_ | refine row_setO ?_ hfar.2.1 _ | refine row_setO ?_ hfar.2.2 _)
            · first | exact (isX_set1 HX7.out x ab HV.out).bl (Bl.drew (Bl.refl _)) | exact (isX_set2 HX7.out x ab HV.out).bl (Bl.drew (Bl.refl _))
            · repeat (first | exact HE7.out | refine World.rowIs.drew ?_ | refine row_setO ?_ hfarE.2.1 _ | refine row_setO ?_ hfarE.2.2 _)
            · repeat (first | exact HC7.out | refine Ch.drew ?_ | refine Ch.set ?_ (Or.inl (Or.inl (Or.inr (Or.inl rfl)))) _ | refine Ch.set ?_ (Or.inl (Or.inl (Or.inr (Or.inr rfl)))) _)
          case measure => simp [intOf]; omega
      · obtain ⟨r3, hp⟩ := H1.out hwas
        have HP := Lib.hid hp
        rw [hwas] at qb'
        clear hp H1 H2 hwas
        go_wp2_with fail
        refine (hSF _ HI7.out).mono ?_
        rintro e w8 ⟨rfl, hI8, hc8⟩
        have H8 := Lib.hid (HOn.out w8 hc8)
        have HI8 := Lib.hid hI8
        clear hI8 hc8
        go_wp2_with fail
        go_roundw
        case rel => exact ⟨i + 1, _, r3, S3, by go_num, HP.out, HI8.out, H8.out.1, H8.out.2.1, H8.out.2.2⟩
        case measure => simp [intOf]; omega
    | get x b e1 hx hb h1 h2 =>
      injection e1 with k1 k2 k3 k4
      subst k1 k2 k3 k4
      have hm : (b : Int) % ((c.futs : Int) + 1) = b := Int.emod_eq_of_lt (by omega) (by omega)
      have hfu := hc.pv.futs1
      have hPl := fun w => Plc.place_any (b : Int) ((c.futs : Int) + 1) w (wf_i (by omega) (by omega)) (by omega) (by omega)
      rw [hm] at hPl
      have q5 : w6.cell? ⟨c.X, 5, none⟩ = some (.slice (some ⟨c.WB, 0, none⟩) c.futs c.futs) := HX6.out.row.cell (i := 5) (by omega)
      have q4 : w6.cell? ⟨c.X, 4, none⟩ = some (.slice (some ⟨c.FB, 0, none⟩) c.futs c.futs) := HX6.out.row.cell (i := 4) (by omega)
      have qb : w6.cell? ⟨c.WB, b, none⟩ = some (.bool (S3.was b)) := HX6.out.was.cell hb
      have qf : w6.cell? ⟨c.FB, b, none⟩ = some (.int .i64 (S3.futs b)) := HX6.out.fut.cell hb
      have hXl := HX6.out.row.lt
      have hWl := HX6.out.was.lt
      have hFl := HX6.out.fut.lt
      have i1 : (b : Int) < (c.futs : Int) := by omega
      have i2 : (0 : Int) ≤ (b : Int) := by omega
      have H1 := Lib.hid h1
      have H2 := Lib.hid h2
      have hSR := fun w (h : Is w B t2) => setReg_any B t2 x (S3.futs b) w h hx
      have hSF := fun w (h : Is w B t2) => stop_any B t2 4 w h
      clear h1 h2 HRR
      go_wp2_with fail
      go_quiet ((go_at_call 26; exact Calls.quiet_of_same ((hPl _).mono fun _ _ ⟨p, q⟩ => ⟨p, q.symm⟩)))
      go_upto_region 30 with fail
      clear hPl
      refine at_world (fun w7 => Bl w6 w7) (Bl.drewN (Bl.refl _) _) ?_
      rintro w7 hb7
      have q5' := st_cell hb7 q5
      have q4' := st_cell hb7 q4
      have qb' := st_cell hb7 qb
      have qf' := st_cell hb7 qf
      have a1' := st_cell hb7 a1
      have HI7 := Lib.hid (HI6.out.bl hb7)
      have HX7 := Lib.hid (HX6.out.bl hb7)
      have HE7 := Lib.hid (row_bl HE6.out hb7)
      have HC7 : Hid (Ch (fun k => Xvs c k ∨ k = B) w2 w7) := HC6.out.trans (Ch.of_bl hb7)
      have hX7 := HX7.out.row.lt
      have hW7 := HX7.out.was.lt
      have hF7 := HX7.out.fut.lt
      have hA7 : A < w7.heap.size := Nat.lt_of_lt_of_le hAl hb7.size
      clear q5 q4 qb qf a0 a1 a2 a3 hb7 HI6 HX6 HE6 HC6 HA6 hXl hWl hFl hAl hEl hBl
      have HOn : Hid (∀ w8, Ch (· = B) w7 w8 → IsX c w8 S3 (k + 1) ∧ w8.rowIs E 35 2 (fun _ => .int .i64 0) ∧ Ch (fun k => Xvs c k ∨ k = B) w2 w8) := fun w8 h8 =>
        ⟨HX7.out.on HI7.out (by decide) (by decide) (by decide) hKB h8, h8.row HE7.out (fun e => by omega), HC7.out.trans (h8.mono (fun _ _ e => Or.inr e))⟩
      cases hwas : S3.was b
      · obtain ⟨r3, hp⟩ := H1.out hwas
        have HP := Lib.hid hp
        rw [hwas] at qb'
        clear hp H1 H2 hwas
        go_wp2_with fail
        refine (hSF _ HI7.out).mono ?_
        rintro e w8 ⟨rfl, hI8, hc8⟩
        have H8 := Lib.hid (HOn.out w8 hc8)
        have HI8 := Lib.hid hI8
        clear hI8 hc8
        go_wp2_with fail
        go_roundw
        case rel => exact ⟨i + 1, _, r3, S3, by go_num, HP.out, HI8.out, H8.out.1, H8.out.2.1, H8.out.2.2⟩
        case measure => simp [intOf]; omega
      · obtain ⟨r3, hp⟩ := H2.out hwas
        have HP := Lib.hid hp
        rw [hwas] at qb'
        clear hp H1 H2 hwas
        go_wp2_with fail
        refine still_tail 10 (by kernel_rfl) (by kernel_rfl) ?_
        simp only [List.take_succ_cons, List.take_zero, List.drop_succ_cons, List.drop_zero]
        repeat still_step
        refine wpStill_nil ?_
        go_wp2_with fail
        refine (hSR _ ?_).mono ?_
        · first | exact HI7.out | exact World.rowIs.drew HI7.out
        rintro e w8 ⟨rfl, hI8, hc8⟩
        have H8 := Lib.hid (HOn.out w8 (by first | exact hc8 | exact Ch.trans ((Ch.refl _ _).drew) hc8))
        have HI8 := Lib.hid hI8
        clear hI8 hc8
        go_wp2_with fail
        go_roundw
        case rel => exact ⟨i + 1, _, r3, S3, by go_num, HP.out, HI8.out, H8.out.1, H8.out.2.1, H8.out.2.2⟩
        case measure => simp [intOf]; omega
end Go.Proofs.Ytonndofbnhnkpaa.Sim
