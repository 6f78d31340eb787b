/- The reference's evaluator: a task to its end. -/
import Derived.Test.YtonndofbnhnkpaaRfG
import Derived.Test.YtonndofbnhnkpaaRfN
import Derived.Test.YtonndofbnhnkpaaEvB
import Derived.Deep.CutBlock
import Derived.Deep.LoopGhost
namespace Go.Proofs.Ytonndofbnhnkpaa.Rf
open Go.RowKit Num KeyM KeyW StatW StatE Blk VmA VmG Prg EvM
theorem one_fork_deep (c : Fx) (base B : Nat) (t : RT) (S : RS) (a b x : Int) (w : World) (hT : IsT w B t) (hR : IsR c base w S) (hK : c.K ≤ B) (hd : c.depth ≤ dep t.key) :
    Calls Try.prog 130 #[.pointer (some ⟨c.R, 0, none⟩), .pointer (some ⟨B, 0, none⟩), insV ⟨9, a, b, x⟩] w fun e w' => e = .returned (.tuple #[]) ∧ Left c base B w { t with how := 6 } S w' := by
  have hT1 : IsT (w.alloc (.cells #[.int .i64 9, .int .i64 a, .int .i64 b, .int .i64 x] 48)) B t := World.rowIs.alloc hT.row _
  have hR1 : IsR c base (w.alloc (.cells #[.int .i64 9, .int .i64 a, .int .i64 b, .int .i64 x] 48)) S := hR.bl ((Bl.refl _).alloc _)
  refine one_other c.R B 9 a b x w _ (by simp) ?_
  exact (ot_fork_deep c base B t S a b x _ hT1 hR1 hd).mono fun e w' ⟨h1, h2, h3⟩ => ⟨h1, h2, hR1.on hT1.row hK h3, (Ch.trans ((Ch.refl _ _).alloc _) h3).mono (fun _ _ e => Or.inr e)⟩
theorem one_fork_many (c : Fx) (base B : Nat) (t : RT) (S : RS) (a b x : Int) (w : World) (hT : IsT w B t) (hR : IsR c base w S) (hK : c.K ≤ B) (hd : ¬ c.depth ≤ dep t.key) (hm : 1000 ≤ t.forks) :
    Calls Try.prog 130 #[.pointer (some ⟨c.R, 0, none⟩), .pointer (some ⟨B, 0, none⟩), insV ⟨9, a, b, x⟩] w fun e w' => e = .returned (.tuple #[]) ∧ Left c base B w { t with how := 9 } S w' := by
  have hT1 : IsT (w.alloc (.cells #[.int .i64 9, .int .i64 a, .int .i64 b, .int .i64 x] 48)) B t := World.rowIs.alloc hT.row _
  have hR1 : IsR c base (w.alloc (.cells #[.int .i64 9, .int .i64 a, .int .i64 b, .int .i64 x] 48)) S := hR.bl ((Bl.refl _).alloc _)
  refine one_other c.R B 9 a b x w _ (by simp) ?_
  exact (ot_fork_many c base B t S a b x _ hT1 hR1 hd hm).mono fun e w' ⟨h1, h2, h3⟩ => ⟨h1, h2, hR1.on hT1.row hK h3, (Ch.trans ((Ch.refl _ _).alloc _) h3).mono (fun _ _ e => Or.inr e)⟩
theorem one_fork (c : Fx) (base B : Nat) (t : RT) (S S2 : RS) (a b x : Nat) (hw vl : Int) (w : World) (hT : IsT w B t) (hR : IsR c base w S) (hbs : base ≤ w.heap.size) (hd : ¬ c.depth ≤ dep t.key) (hd5 : dep t.key < 5) (hm : ¬ 1000 ≤ t.forks) (hm0 : 0 ≤ t.forks) (hS0 : 0 ≤ S.forks) (hS1 : S.forks ≤ 100000) (hk : chk t.key = true) (h0 : t.how = 0)
    (ha : a < 4) (hx : x < 8) (hKB : c.K ≤ B) (hC : Child c base b (t.regs x) (child t.key (t.forks + 1)) { S with forks := S.forks + 1 } S2 hw vl) :
    Calls Try.prog 130 #[.pointer (some ⟨c.R, 0, none⟩), .pointer (some ⟨B, 0, none⟩), insV ⟨9, a, b, x⟩] w fun e w' => e = .returned (.tuple #[]) ∧ Left c base B w { t with forks := t.forks + 1, has := upd t.has a true, hh := upd t.hh a hw, hv := upd t.hv a vl } S2 w' := by
  have hT1 : IsT (w.alloc (.cells #[.int .i64 9, .int .i64 a, .int .i64 b, .int .i64 x] 48)) B t := World.rowIs.alloc hT.row _
  have hR1 : IsR c base (w.alloc (.cells #[.int .i64 9, .int .i64 a, .int .i64 b, .int .i64 x] 48)) S := hR.bl ((Bl.refl _).alloc _)
  refine one_other c.R B 9 a b x w _ (by simp) ?_
  exact (ot_fork c base B t S S2 a b x hw vl _ hT1 hR1 (by simp; omega) hd hd5 hm hm0 hS0 hS1 hk h0 ha hx hKB hC).mono fun e w' ⟨h1, h2, h3, h4⟩ => ⟨h1, h2, h3, Ch.trans ((Ch.refl _ _).alloc _) h4⟩
structure Cfg (c : Fx) : Prop where
  pv : PV c.fs c.futs c.depth c.fuel
  most0 : 0 ≤ c.most
  most1 : c.most ≤ 100000
def TaskSays (c : Fx) (n : Nat) : Prop := ∀ (base k fn : Nat) (arg key : Int) (S : RS) (u : RT) (S2 : RS), evLoop c.fs c.depth c.fuel c.most n (rt0 fn arg key c.fuel) S = some (u, S2) → fn < c.fs.length → chk key = true → SOk k c.most S → Child c base fn arg key S (finish u S2 arg) u.how u.val
/-- A task under way: so many rounds are to come at most. -/
def Lp (c : Fx) (base B n k : Nat) (fn key : Int) (u : RT) (S2 : RS) (w : World) (m : Nat) (wr : World) : Prop :=
  ∃ t S, m ≤ n ∧ evLoop c.fs c.depth c.fuel c.most m t S = some (u, S2) ∧ ROk c.fs c.futs t ∧ t.key = key ∧ t.fn = fn ∧ t.fuel ≤ 500 ∧ SOk k c.most S ∧ IsT wr B t ∧ IsR c base wr S ∧ Ch (fun k => Evs c k ∨ k = B) w wr
theorem t_start {c : Fx} {base : Nat} {S : RS} {w : World} (h : IsR c base w S) (fn arg key fuel : Int) :
    IsT ((w.alloc (.cells #[.int .i64 0, .int .i64 0] 35)).alloc (.cells #[.int .i64 (wrap32 arg), .int .i64 0, .int .i64 0, .int .i64 0, .int .i64 0, .int .i64 0, .int .i64 0, .int .i64 0, .bool false, .bool false, .bool false, .bool false, .int .i64 0, .int .i64 0, .int .i64 0, .int .i64 0, .int .i64 0, .int .i64 0, .int .i64 0, .int .i64 0, .int .i64 fn, .int .i64 0, .int .i64 fuel, .int .i64 0, .int .i64 key, .int .i64 0, .int .i64 0] 198)).drew (w.heap.size + 1) (rt0 fn arg key fuel) ∧
    IsR c base ((w.alloc (.cells #[.int .i64 0, .int .i64 0] 35)).alloc (.cells #[.int .i64 (wrap32 arg), .int .i64 0, .int .i64 0, .int .i64 0, .int .i64 0, .int .i64 0, .int .i64 0, .int .i64 0, .bool false, .bool false, .bool false, .bool false, .int .i64 0, .int .i64 0, .int .i64 0, .int .i64 0, .int .i64 0, .int .i64 0, .int .i64 0, .int .i64 0, .int .i64 fn, .int .i64 0, .int .i64 fuel, .int .i64 0, .int .i64 key, .int .i64 0, .int .i64 0] 198)).drew S ∧
    ((w.alloc (.cells #[.int .i64 0, .int .i64 0] 35)).alloc (.cells #[.int .i64 (wrap32 arg), .int .i64 0, .int .i64 0, .int .i64 0, .int .i64 0, .int .i64 0, .int .i64 0, .int .i64 0, .bool false, .bool false, .bool false, .bool false, .int .i64 0, .int .i64 0, .int .i64 0, .int .i64 0, .int .i64 0, .int .i64 0, .int .i64 0, .int .i64 0, .int .i64 fn, .int .i64 0, .int .i64 fuel, .int .i64 0, .int .i64 key, .int .i64 0, .int .i64 0] 198)).drew.rowIs w.heap.size 35 2 (fun _ => .int .i64 0) ∧
    Ch (Evs c) w ((w.alloc (.cells #[.int .i64 0, .int .i64 0] 35)).alloc (.cells #[.int .i64 (wrap32 arg), .int .i64 0, .int .i64 0, .int .i64 0, .int .i64 0, .int .i64 0, .int .i64 0, .int .i64 0, .bool false, .bool false, .bool false, .bool false, .int .i64 0, .int .i64 0, .int .i64 0, .int .i64 0, .int .i64 0, .int .i64 0, .int .i64 0, .int .i64 0, .int .i64 fn, .int .i64 0, .int .i64 fuel, .int .i64 0, .int .i64 key, .int .i64 0, .int .i64 0] 198)).drew := by
  refine ⟨?_, h.bl (Bl.drew (((Bl.refl _).alloc _).alloc _)), ?_, (((Ch.refl _ _).alloc _).alloc _).drew⟩
  · have h2 := World.rowIs_alloc (w.alloc (.cells #[.int .i64 0, .int .i64 0] 35)) #[.int .i64 (wrap32 arg), .int .i64 0, .int .i64 0, .int .i64 0, .int .i64 0, .int .i64 0, .int .i64 0, .int .i64 0, .bool false, .bool false, .bool false, .bool false, .int .i64 0, .int .i64 0, .int .i64 0, .int .i64 0, .int .i64 0, .int .i64 0, .int .i64 0, .int .i64 0, .int .i64 fn, .int .i64 0, .int .i64 fuel, .int .i64 0, .int .i64 key, .int .i64 0, .int .i64 0] 198 (rtF (rt0 fn arg key fuel)) (by
      show ∀ i, i < 27 → _
      repeat refine all_lt ?_ rfl
      exact all_none)
    have hs : (w.alloc (.cells #[.int .i64 0, .int .i64 0] 35)).heap.size = w.heap.size + 1 := by simp
    rw [hs] at h2
    exact h2
  · refine World.rowIs.drew (World.rowIs.alloc ?_ _)
    exact World.rowIs_alloc w #[.int .i64 0, .int .i64 0] 35 _ (fun i hi => by
      have hi : i < 2 := hi
      obtain rfl | rfl : i = 0 ∨ i = 1 := by omega
      all_goals rfl)
set_option maxRecDepth 100000 in
set_option maxHeartbeats 8000000 in
theorem task_step (c : Fx) (hcf : Cfg c) (n : Nat) (ih : ∀ m, m < n → TaskSays c m) : TaskSays c n := by
  intro base k fn arg key S u S2 hev hfn hkey hsok w hR hbs
  have hW := fun a w => Ref1.wrap_any a w
  have hlt := hR.lts
  have q3 : w.cell? ⟨c.R, 3, none⟩ = some (.int .i64 c.fuel) := by obtain ⟨⟨vr, r1, r2⟩, r3, r4, r5, r6⟩ := hR; exact r1.cell (i := 3) (by omega)
  have HR := Lib.hid hR
  have HEV := Lib.hid hev
  have HI := Lib.hid ih
  clear hR hev ih
  go_enter Try.func97, Try.ntmps97
  go_wp2_with fail
  refine still_tail 6 (by kernel_rfl) (by kernel_rfl) ?_
  simp only [List.take_succ_cons, List.take_zero, List.drop_succ_cons, List.drop_zero]
  repeat (first | still_step | still_call ((hW _ _).mono fun _ _ ⟨he, hw⟩ => ⟨he, hw.symm⟩))
  refine wpStill_nil ?_
  go_upto_block 0 with fail
  refine at_world (fun w1 => IsT w1 (w.heap.size + 1) (rt0 fn arg key c.fuel) ∧ IsR c base w1 S ∧ w1.rowIs w.heap.size 35 2 (fun _ => .int .i64 0) ∧ Ch (Evs c) w w1) ?_ ?_
  · exact t_start HR.out fn arg key c.fuel
  rintro w1 ⟨hT1, hR1, hE1, hC1⟩
  generalize hB : w.heap.size + 1 = B at *
  generalize hE : w.heap.size = E at *
  have hKB : c.K ≤ B := by have := hR1.far.1; omega
  have HB := Lib.hid hB
  have HE := Lib.hid hE
  clear hB hE
  have hw1E := hE1.lt
  go_cut [10] (fun x wc => IsT wc B u ∧ IsR c base wc S2 ∧ SOk k c.most S2 ∧ Ch (fun k => Evs c k ∨ k = B) w1 wc)
  case first =>
    go_wp2_with fail
    go_loopg [10] n (fun m x wr => Lp c base B n k fn key u S2 w1 m wr)
    case atStart => exact ⟨rt0 fn arg key c.fuel, S, Nat.le_refl _, HEV.out, rok_new hcf.pv rfl hfn hkey, rfl, rfl, hcf.pv.fuel1, hsok, hT1, hR1, Ch.refl _ _⟩
    case round =>
      obtain ⟨t, S', hm, hev, hrk, hkt, hft, hfu, hsk, hT, hR, hC⟩ := hrel
      obtain ⟨m, rfl⟩ : ∃ m, gk = m + 1 := by
        cases gk with
        | zero => simp [evLoop] at hev
        | succ m => exact ⟨m, rfl⟩
      unfold evLoop at hev
      obtain ⟨e20, e21, e22, e23, e24, e25, e26⟩ := ct_nums hT
      have f22 := hT.row.frozen 22
      have f25 := hT.row.frozen 25
      have hlB := hT.row.lt
      have hRr := hR.ran
      obtain ⟨vr, r1, _⟩ := hRr
      have q7 : wr.cell? ⟨c.R, 7, none⟩ = some (.int .i64 S'.steps) := r1.cell (i := 7) (by omega)
      have q9 : wr.cell? ⟨c.R, 9, none⟩ = some (.int .i64 c.most) := r1.cell (i := 9) (by omega)
      have q10 : wr.cell? ⟨c.R, 10, none⟩ = some (.bool S'.over) := r1.cell (i := 10) (by omega)
      have g7 := r1.frozen 7
      have g10 := r1.frozen 10
      have lR := r1.lt
      have HT := Lib.hid hT
      have HRR := Lib.hid hR
      have HC := Lib.hid hC
      have HRK := Lib.hid hrk
      have HSK := Lib.hid hsk
      have nRB : ¬ c.R = B := fun e => (hR.far_t hT.row).1 e.symm
      have hfl := hrk.fuel
      have hst0 : 0 ≤ S'.steps := by have := hsk.rf; have := hsk.fs; omega
      have hst2 : S'.steps ≤ 100000 := by have := hsk.sm; have := hcf.most1; omega
      clear hT hR hC hrk hsk r1 hT1 hR1 hE1 HEV HR hC1
      by_cases h1 : t.how ≠ 0 ∨ S'.over = true
      · rw [if_pos h1] at hev
        cases hev
        by_cases h2 : u.how = 0
        · have h3 : S2.over = true := by rcases h1 with h | h; exact absurd h2 h; exact h
          rw [h2] at e25
          rw [h3] at q10
          clear h1 h2 h3
          go_wp2_with fail
          go_meet
          exact ⟨HT.out, HRR.out, HSK.out, HC.out⟩
        · have h2' : (u.how == 0) = false := by simpa using h2
          clear h1 h2
          go_wp2_with fail
          go_meet
          exact ⟨HT.out, HRR.out, HSK.out, HC.out⟩
      · rw [if_neg h1] at hev
        have h0 : t.how = 0 := by
          rcases Decidable.em (t.how = 0) with h | h
          · exact h
          · exact absurd (Or.inl h) h1
        have ho : S'.over = false := by
          cases hh : S'.over
          · rfl
          · exact absurd (Or.inr hh) h1
        have H0 := Lib.hid h0
        have HO := Lib.hid ho
        rw [h0] at e25
        rw [ho] at q10
        clear h1 h0 ho
        by_cases h2 : t.fuel = 0
        · rw [if_pos h2] at hev
          cases hev
          rw [h2] at e22
          clear h2
          go_wp2_with fail
          go_meet
          exact ⟨t_how (HT.out.set 25 _), HRR.out.on HT.out hKB ((Ch.refl _ _).setB _), HSK.out, HC.out.set (Or.inl (Or.inr rfl)) _⟩
        · rw [if_neg h2] at hev
          have h2' : (t.fuel == 0) = false := by simpa using h2
          by_cases h3 : c.most ≤ S'.steps
          · rw [if_pos h3] at hev
            cases hev
            go_wp2_with fail
            go_quiet (fail)
            go_wp2_with fail
            go_meet
            exact ⟨row_setO (row_drewN HT.out _) (fun e => nRB e.symm) _, isR_over (HRR.out.bl (Bl.drewN (Bl.refl _) _)) true, ⟨HSK.out.rf, HSK.out.fs, HSK.out.sm⟩, (HC.out.drewN _).set (Or.inl (Or.inl (Or.inl rfl))) _⟩
          · rw [if_neg h3] at hev
            have h3' : ¬ S'.steps ≥ c.most := h3
            go_wp2_with fail
            go_quiet (fail)
            go_upto_region 10 with fail
            have hst1 : S'.steps + 1 ≤ 100000 := by have := hcf.most1; omega
            refine at_world (fun w4 => IsT w4 B { t with fuel := t.fuel - 1 } ∧ IsR c base w4 { S' with steps := S'.steps + 1 } ∧ Ch (fun k => Evs c k ∨ k = B) w1 w4) ?_ ?_
            · exact ⟨row_setO (t_fuel (row_drewN HT.out _ |>.set 22 _)).row (fun e => nRB e.symm) _, isR_steps (S := S') (IsR.on (HRR.out.bl (Bl.drewN (Bl.refl _) _)) (row_drewN HT.out _) hKB ((Ch.refl _ _).setB _)) _, (((HC.out.drewN _).set (Or.inl (Or.inr rfl)) _).set (Or.inl (Or.inl (Or.inl rfl))) _)⟩
            rintro w4 ⟨hT4, hR4, hC4⟩
            clear q7 q9 q10 g7 g10 e20 e21 e22 e23 e24 e25 e26 f22 f25 HT HRR HC
            obtain ⟨nn, pp, f, hn1, hn2, hn3, hn4⟩ := HRK.out.place H0.out
            obtain rfl : nn = fn := by omega
            obtain ⟨i, hi⟩ := ins_here hcf.pv hn2 hn4
            have hia := insAt_of hn1 hn2 hn3 hi.1
            rw [hia] at hev
            simp only at hev
            obtain ⟨x20, x21, e22, e23, e24, e25, e26⟩ := ct_nums hT4
            have e20 : w4.cell? ⟨B, 20, none⟩ = some (.int .i64 (nn : Int)) := by rw [← hn1]; exact x20
            have e21 : w4.cell? ⟨B, 21, none⟩ = some (.int .i64 (pp : Int)) := by rw [← hn3]; exact x21
            clear x20 x21
            have f21 := hT4.row.frozen 21
            have hlB4 := hT4.row.lt
            obtain ⟨vr4, r4, _⟩ := hR4.ran
            have p0 : w4.cell? ⟨c.R, 0, none⟩ = some (.slice c.pa c.fs.length c.pc) := r4.cell (i := 0) (by omega)
            have lR4 := r4.lt
            obtain ⟨cb, co, hpa, hcbK, fa, fc, hc1, hc2⟩ := hR4.code nn f hn2
            obtain ⟨db, do_, hfa, hdbK, d0, d1, d2, d3⟩ := hc2 pp i hi.1
            have hnl : nn < c.fs.length := (List.getElem?_eq_some_iff.1 hn2).1
            have lcb := lt_of_cell hc1
            have ldb := lt_of_cell d0
            subst hfa
            rw [hpa] at p0
            have i1 : (nn : Int) < (c.fs.length : Int) := by omega
            have i2 : (0 : Int) ≤ (nn : Int) := by omega
            have i3 : (pp : Int) < (f.length : Int) := by omega
            have i4 : (0 : Int) ≤ (pp : Int) := by omega
            have hpp : pp ≤ 40 := hi.2.1
            have HIN := Lib.hid hi
            have HN := Lib.hid (And.intro hn1 (And.intro hn2 (And.intro hn3 hn4)))
            have HEV := Lib.hid hev
            have HT4 := Lib.hid hT4
            have HR4 := Lib.hid hR4
            have HC4 := Lib.hid hC4
            have HPA := Lib.hid hpa
            clear hn1 hn2 hn3 hn4 hi hev hT4 hR4 hC4 hc2 hpa hia r4
            go_region
            go_upto_region 12 with fail
            refine at_world (fun w6 => IsT w6 B { t with fuel := t.fuel - 1, place := t.place + 1 } ∧ IsR c base w6 { S' with steps := S'.steps + 1 } ∧ w6.rowIs w4.heap.size 48 4 (four (.int .i64 i.op) (.int .i64 i.a) (.int .i64 i.b) (.int .i64 i.c)) ∧ Ch (fun k => Evs c k ∨ k = B) w1 w6) ?_ ?_
            · refine ⟨?_, ?_, ?_, ?_⟩
              · rw [HN.out.2.2.1]
                exact t_place (t := { t with fuel := t.fuel - 1 }) (World.rowIs.drew (World.rowIs.alloc (HT4.out.row.set 21 _) _))
              · exact IsR.bl (IsR.on HR4.out HT4.out hKB ((Ch.refl _ _).setB _)) (Bl.drew ((Bl.refl _).alloc _))
              · have h := row4_alloc (w4.setCell ⟨B, 21, none⟩ (.int .i64 ((pp : Int) + 1))) (.int .i64 i.op) (.int .i64 i.a) (.int .i64 i.b) (.int .i64 i.c) 48
                have hs : (w4.setCell ⟨B, 21, none⟩ (.int .i64 ((pp : Int) + 1))).heap.size = w4.heap.size := by simp
                rw [hs] at h
                exact h
              · exact ((HC4.out.set (Or.inl (Or.inr rfl)) _).alloc _).drew
            rintro w6 ⟨hT6, hR6, hx6, hC6⟩
            obtain ⟨⟨k0, k1, k2, k3⟩, _⟩ := row4_cells hx6
            have HT6 := Lib.hid hT6
            have HR6 := Lib.hid hR6
            have HC6 := Lib.hid hC6
            clear hT6 hR6 hC6 hx6 e20 e21 e22 e23 e24 e25 e26 f21 p0 hc1 d0 d1 d2 d3 HT4 HR4 HC4
            have hbs6 : base ≤ w6.heap.size := by have := HC6.out.size; omega
            by_cases h9 : i.op = 9
            · have H9 := Lib.hid h9
              have hio := HIN.out.2.2.1
              have hg : Rg i.a 4 ∧ Rg i.b 12 ∧ Rg i.c 8 := by rcases hio.1 with g | g | g | g | g | g | g | g | g | g | g <;> first | exact g.2 | (exfalso; omega)
              have hbf := hio.2.2.2.1 h9
              obtain ⟨⟨ha0, ha1⟩, ⟨hb0, hb1⟩, ⟨hx0, hx1⟩⟩ := hg
              obtain ⟨ia, hia⟩ := Int.eq_ofNat_of_zero_le ha0
              obtain ⟨ib, hib⟩ := Int.eq_ofNat_of_zero_le hb0
              obtain ⟨ix, hix⟩ := Int.eq_ofNat_of_zero_le hx0
              have hev := HEV.out
              rw [if_pos h9] at hev
              rw [h9] at k0
              rw [hia] at k1
              rw [hib] at k2
              rw [hix] at k3
              have hreg : t.reg i.c = t.regs ix := by unfold RT.reg; rw [hix]; rfl
              have hat : i.a.toNat = ia := by omega
              rw [hreg, hib, hat] at hev
              have hia4 : ia < 4 := by omega
              have hib4 : ib < c.fs.length := by omega
              have hix8 : ix < 8 := by omega
              clear ha0 ha1 hb0 hb1 hx0 hx1 hbf hio hat hreg hia hib hix h9
              have hd5 := hcf.pv.dep1
              by_cases hdp : c.depth ≤ dep t.key
              · rw [if_pos hdp] at hev
                have hO := one_fork_deep c base B { t with fuel := t.fuel - 1, place := t.place + 1 } { S' with steps := S'.steps + 1 } ia ib ix w6 HT6.out HR6.out hKB hdp
                have HF : Hid (∀ w7, Left c base B w6 { t with fuel := t.fuel - 1, place := t.place + 1, how := 6 } { S' with steps := S'.steps + 1 } w7 → Lp c base B n k nn key u S2 w1 m w7) := by
                  intro w7 ⟨g1, g2, g3⟩
                  exact ⟨_, _, by omega, hev, ⟨HRK.out.key, HRK.out.forks, by show 0 ≤ t.fuel - 1; omega, fun e => by simp at e⟩, hkt, hft, by show t.fuel - 1 ≤ 500; omega, sok_step HSK.out (by omega), g1, g2, HC6.out.trans g3⟩
                unfold insV at hO
                clear hev HEV
                go_wp2_with fail
                refine hO.mono ?_
                rintro e w7 ⟨rfl, hL⟩
                have HL := Lib.hid (HF.out w7 hL)
                clear hL HF hO
                go_wp2_with fail
                go_roundg m
                case measure => omega
                case rel => exact HL.out
              · rw [if_neg hdp] at hev
                by_cases hmn : 1000 ≤ t.forks
                · rw [if_pos hmn] at hev
                  have hO := one_fork_many c base B { t with fuel := t.fuel - 1, place := t.place + 1 } { S' with steps := S'.steps + 1 } ia ib ix w6 HT6.out HR6.out hKB hdp hmn
                  have HF : Hid (∀ w7, Left c base B w6 { t with fuel := t.fuel - 1, place := t.place + 1, how := 9 } { S' with steps := S'.steps + 1 } w7 → Lp c base B n k nn key u S2 w1 m w7) := by
                    intro w7 ⟨g1, g2, g3⟩
                    exact ⟨_, _, by omega, hev, ⟨HRK.out.key, HRK.out.forks, by show 0 ≤ t.fuel - 1; omega, fun e => by simp at e⟩, hkt, hft, by show t.fuel - 1 ≤ 500; omega, sok_step HSK.out (by omega), g1, g2, HC6.out.trans g3⟩
                  unfold insV at hO
                  clear hev HEV
                  go_wp2_with fail
                  refine hO.mono ?_
                  rintro e w7 ⟨rfl, hL⟩
                  have HL := Lib.hid (HF.out w7 hL)
                  clear hL HF hO
                  go_wp2_with fail
                  go_roundg m
                  case measure => omega
                  case rel => exact HL.out
                · rw [if_neg hmn] at hev
                  cases hc : evLoop c.fs c.depth c.fuel c.most m (rt0 ib (t.regs ix) (child t.key (t.forks + 1)) c.fuel) { S' with steps := S'.steps + 1, forks := S'.forks + 1 } with
                  | none => rw [hc] at hev; cases hev
                  | some q =>
                    obtain ⟨u', S2'⟩ := q
                    rw [hc] at hev
                    simp only at hev
                    have hfk := HRK.out.forks
                    have hbn := born (n := t.forks + 1) HRK.out.key (by omega) (by omega) (by omega)
                    have hch : Child c base ib (t.regs ix) (child t.key (t.forks + 1)) { S' with steps := S'.steps + 1, forks := S'.forks + 1 } (finish u' S2' (t.regs ix)) u'.how u'.val :=
                      HI.out m (by omega) base (k + 1) ib (t.regs ix) (child t.key (t.forks + 1)) _ u' S2' hc hib4 hbn.1 (sok_fork HSK.out (by omega))
                    have hO := one_fork c base B { t with fuel := t.fuel - 1, place := t.place + 1 } { S' with steps := S'.steps + 1 } (finish u' S2' (t.regs ix)) ia ib ix u'.how u'.val w6 HT6.out HR6.out hbs6 hdp (by show dep t.key < 5; omega) hmn hfk (by show 0 ≤ S'.forks; have := HSK.out.rf; omega) (by show S'.forks ≤ 100000; have := HSK.out.fs; omega) HRK.out.key H0.out hia4 hix8 hKB hch
                    have HF : Hid (∀ w7, Left c base B w6 { t with fuel := t.fuel - 1, place := t.place + 1, forks := t.forks + 1, has := upd t.has ia true, hh := upd t.hh ia u'.how, hv := upd t.hv ia u'.val } (finish u' S2' (t.regs ix)) w7 → Lp c base B n k nn key u S2 w1 m w7) := by
                      intro w7 ⟨g1, g2, g3⟩
                      refine ⟨_, _, by omega, hev, ⟨HRK.out.key, by show 0 ≤ t.forks + 1; omega, by show 0 ≤ t.fuel - 1; omega, fun _ => ?_⟩, hkt, hft, by show t.fuel - 1 ≤ 500; omega, sok_finish (evLoop_sok hc (sok_fork HSK.out (by omega))), g1, g2, HC6.out.trans g3⟩
                      have hpl : pp + 1 < f.length := by
                        rcases HIN.out.2.2.2 with g | g | g
                        · exact g
                        · have := H9.out; omega
                        · have := H9.out; omega
                      exact ⟨nn, pp + 1, f, HN.out.1, HN.out.2.1, by show t.place + 1 = _; rw [HN.out.2.2.1]; omega, hpl⟩
                    unfold insV at hO
                    clear hev HEV hc hch hbn
                    go_wp2_with fail
                    refine hO.mono ?_
                    rintro e w7 ⟨rfl, hL⟩
                    have HL := Lib.hid (HF.out w7 hL)
                    clear hL HF hO
                    go_wp2_with fail
                    go_roundg m
                    case measure => omega
                    case rel => exact HL.out
            · have hev := HEV.out
              rw [if_neg h9] at hev
              have hO := one_any c base B { t with fuel := t.fuel - 1, place := t.place + 1 } { S' with steps := S'.steps + 1 } i c.fs.length f.length w6 HT6.out HR6.out hKB HIN.out.2.2.1 h9
              have hrn := rok_next (S := { S' with steps := S'.steps + 1 }) hcf.pv HRK.out (by omega) HN.out.1 HN.out.2.1 HN.out.2.2.1 HIN.out
              have hkp := one_keep { t with fuel := t.fuel - 1, place := t.place + 1 } { S' with steps := S'.steps + 1 } i
              have hsk := sok_one (t := { t with fuel := t.fuel - 1, place := t.place + 1 }) (i := i) (sok_step HSK.out (by omega))
              have HF : Hid (∀ w7, Left c base B w6 (oneM { t with fuel := t.fuel - 1, place := t.place + 1 } { S' with steps := S'.steps + 1 } i).1 (oneM { t with fuel := t.fuel - 1, place := t.place + 1 } { S' with steps := S'.steps + 1 } i).2 w7 → Lp c base B n k nn key u S2 w1 m w7) := by
                intro w7 ⟨g1, g2, g3⟩
                exact ⟨_, _, by omega, hev, hrn.1, by rw [hkp.1]; exact hkt, by rw [hkp.2]; exact hft, by rw [hrn.2.1]; omega, hsk, g1, g2, HC6.out.trans g3⟩
              unfold insV at hO
              clear hev hrn hkp hsk HEV
              go_wp2_with fail
              refine hO.mono ?_
              rintro e w7 ⟨rfl, hL⟩
              have HL := Lib.hid (HF.out w7 hL)
              clear hL HF hO
              go_wp2_with fail
              go_roundg m
              case measure => omega
              case rel => exact HL.out
  case rest =>
    obtain ⟨hT2, hR2, hs2, hC2⟩ := hcut
    have lt2 := hR2.lts
    have hE2 : wc.rowIs E 35 2 (fun _ => .int .i64 0) := hC2.row hE1 (fun e => by have := HB.out; rcases e with (e | e | e) | e <;> omega)
    have hkeep := evLoop_keep HEV.out
    have HK : Hid (u.key = key ∧ u.fn = fn) := hkeep
    have hfar := hR2.far.1
    obtain ⟨e20, e21, e22, e23, e24, e25, e26⟩ := ct_nums hT2
    have z0 : wc.cell? ⟨E, 0, none⟩ = some (.int .i64 0) := hE2.cell (i := 0) (by omega)
    have z1 : wc.cell? ⟨E, 1, none⟩ = some (.int .i64 0) := hE2.cell (i := 1) (by omega)
    have y0 := hE2.frozen 0
    have y1 := hE2.frozen 1
    have zl := hE2.lt
    have HR2 := Lib.hid hR2
    have HE2 := Lib.hid hE2
    have HC1 := Lib.hid hC1
    have HC2 := Lib.hid hC2
    have HC3 : Hid (Ch (Evs c) w wc) := HC1.out.then HC2.out (fun i hi e => by
      rcases e with e | e
      · exact e
      · have := HB.out; have := HE.out; omega)
    have hwE : w.heap.size ≤ E := by have := HE.out; omega
    have hKE : c.K ≤ E := by omega
    obtain ⟨⟨vr, r1, r2⟩, _, _, _, _⟩ := hR2
    have q10 : wc.cell? ⟨c.R, 10, none⟩ = some (.bool S2.over) := r1.cell (i := 10) (by omega)
    have q4 : wc.cell? ⟨c.R, 4, none⟩ = some vr := r1.cell (i := 4) (by omega)
    have f4 := r1.frozen 4
    have hown := Lib.hid r2
    have hrl : S2.ran.length ≤ 100000 := by have := hs2.rf; have := hs2.fs; have := hs2.sm; have := hcf.most1; omega
    clear hkeep hR1 hT1 hE1 hC1 hE2 hC2 r1 r2 hT2 hs2 hsok
    cases ho : S2.over
    · rw [ho] at q10
      have HF : Hid (finish u S2 arg = { S2 with ran := put S2.ran ⟨u.key, u.fn, wrap32 arg, u.how, u.val⟩ }) := by show _ = _; unfold finish; rw [ho]; rfl
      clear ho
      go_wp2_with fail
      go_region_with (first
        | (go_at_call 129; with_reducible refine (hW _ _).mono ?_; rintro e w' ⟨rfl, rfl⟩)
        | (go_at_call 131; refine (put_any ⟨key, fn, wrap32 arg, u.how, u.val⟩ base S2.ran vr wc.drew hown.out hrl (by show base ≤ wc.heap.size; omega)).mono ?_; rintro e w5 ⟨v5, rfl, ho5, hb5⟩; obtain ⟨a5, c5, rfl, _⟩ := own_shape5 ho5; have p4 := st_cell hb5 (show wc.drew.cell? _ = _ from q4); have g4 := st_frozen hb5 (show wc.drew.cell? _ = _ from q4) f4))
      all_goals
        have z0' := z0
        have z0 := st_cell hb5 (show wc.drew.cell? _ = _ from z0)
        have z1' := z1
        have z1 := st_cell hb5 (show wc.drew.cell? _ = _ from z1)
        have y0 := st_frozen hb5 (show wc.drew.cell? _ = _ from z0') y0
        have y1 := st_frozen hb5 (show wc.drew.cell? _ = _ from z1') y1
        have e25 := st_cell hb5 (show wc.drew.cell? _ = _ from e25)
        have e26 := st_cell hb5 (show wc.drew.cell? _ = _ from e26)
        have HE5 : Hid (w5.rowIs E 35 2 (fun _ => .int .i64 0)) := row_bl (show wc.drew.rowIs _ _ _ _ from HE2.out) hb5
        have HR5 : Hid (IsR c base w5 S2) := HR2.out.bl (Bl.trans (Bl.drew (Bl.refl _)) hb5)
        have HO5 := Lib.hid ho5
        have hs5 := hb5.size
        have hs5' : wc.heap.size ≤ w5.heap.size := hs5
        have HB5 : Hid (Ch (Evs c) wc w5) := Ch.of_bl (Bl.trans (Bl.drew (Bl.refl _)) hb5)
        have nRE : ¬ c.R = E := by omega
        clear ho5 hb5 hs5 z0' z1'
        go_wp2_with fail
        refine bodyPost_ret (v := .agg #[.int .i64 u.how, .int .i64 u.val]) (by simp [results, Try.results97, go_sem, z0, z1]) rfl ⟨rfl, ?_, ?_⟩
        · rw [HF.out, HK.out.1, HK.out.2]
          have h1 := isR_ran (ran := put S2.ran ⟨key, fn, wrap32 arg, u.how, u.val⟩) HR5.out _ (by rw [put_len]; exact HO5.out)
          exact IsR.on35 h1 (row_setO HE5.out (fun e => nRE e.symm) _) hKE (((Ch.refl _ _).setB _).setB _)
        · exact ((HC3.out.trans HB5.out).set (Or.inl (Or.inl rfl)) _).set (Or.inr hwE) _ |>.set (Or.inr hwE) _
    · rw [ho] at q10
      have HF : Hid (finish u S2 arg = S2) := by show _ = _; unfold finish; rw [ho]; rfl
      clear ho
      go_wp2_with fail
      refine bodyPost_ret (v := .agg #[.int .i64 u.how, .int .i64 u.val]) (by simp [results, Try.results97, go_sem, z0, z1]) rfl ⟨rfl, ?_, ?_⟩
      · rw [HF.out]
        exact HR2.out.on35 HE2.out hKE (((Ch.refl _ _).setB _).setB _)
      · exact (HC3.out.set (Or.inr hwE) _).set (Or.inr hwE) _
theorem task_says (c : Fx) (hcf : Cfg c) (n : Nat) : TaskSays c n := by
  induction n using Nat.strongRecOn with
  | ind n ih => exact task_step c hcf n ih
end Go.Proofs.Ytonndofbnhnkpaa.Rf
