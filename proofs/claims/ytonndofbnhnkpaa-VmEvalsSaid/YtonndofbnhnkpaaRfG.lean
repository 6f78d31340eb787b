/- The reference's evaluator: a fork that goes. -/
import Derived.Test.YtonndofbnhnkpaaRfF
import Derived.Deep.DeepCutAuto
namespace Go.Proofs.Ytonndofbnhnkpaa.Rf
open Go.RowKit Num KeyM KeyW StatW Blk VmA VmG Prg EvM
/-- Behind a new task's end. -/
def Aft (c : Fx) (base B X : Nat) (t : RT) (S : RS) (x : Nat → Value) (how val : Int) (w : World) (e : Value) (wc : World) : Prop :=
  ∃ E, e = .pointer (some ⟨E, 0, none⟩) ∧ wc.cell? ⟨E, 0, none⟩ = some (.int .i64 how) ∧ wc.cell? ⟨E, 1, none⟩ = some (.int .i64 val) ∧ IsT wc B t ∧ IsR c base wc S ∧ wc.rowIs X 48 4 x ∧ Ch (Evs c) w wc
theorem IsR.on35 {c : Fx} {base E n : Nat} {w w' : World} {S : RS} {f : Nat → Value} (h : IsR c base w S) (ht : w.rowIs E 35 n f) (hK : c.K ≤ E) (hc : Ch (· = E) w w') : IsR c base w' S := by
  obtain ⟨⟨vr, h1, h2⟩, h3, h4, h5, h6⟩ := h
  have ne : ∀ {b m : Nat} {t : TypeId} {g : Nat → Value}, w.rowIs b t m g → t ≠ 35 → ¬ b = E := fun hr ht' e => by
    obtain ⟨cur, hcur⟩ := row_type hr
    exact ty_ne ht hcur ht' e
  refine ⟨⟨vr, hc.row h1 (ne h1 (by decide)), own_ch h2 hc (fun k hk e => ?_)⟩, hc.row h3 (ne h3 (by decide)), hc.row h4 (ne h4 (by decide)), h5.on hc hK, h6⟩
  obtain ⟨cur, hcur⟩ := own_type h2 hk
  exact ty_ne ht hcur (by decide) e
theorem IsR.lts {c : Fx} {base : Nat} {w : World} {S : RS} (h : IsR c base w S) : c.R < w.heap.size ∧ c.FB < w.heap.size ∧ c.WB < w.heap.size := by
  obtain ⟨⟨vr, h1, h2⟩, h3, h4, h5, h6⟩ := h
  exact ⟨h1.lt, h3.lt, h4.lt⟩
theorem x_far {c : Fx} {base X : Nat} {w : World} {S : RS} {f : Nat → Value} (h : IsR c base w S) (hx : w.rowIs X 48 4 f) : X ≠ c.R ∧ X ≠ c.FB ∧ X ≠ c.WB := by
  obtain ⟨⟨vr, h1, h2⟩, h3, h4, h5, h6⟩ := h
  have ne : ∀ {b m : Nat} {t : TypeId} {g : Nat → Value}, w.rowIs b t m g → t ≠ 48 → X ≠ b := fun hr ht' e => by
    obtain ⟨cur, hcur⟩ := row_type hx
    exact ty_ne hr hcur (fun e => ht' e.symm) e
  exact ⟨ne h1 (by decide), ne h3 (by decide), ne h4 (by decide)⟩
theorem aft_late {c : Fx} {base B X : Nat} {t : RT} {S1 S2 : RS} {x : Nat → Value} {how val : Int} {w1 w5 : World} (hT : IsT w1 B t) (hR : IsR c base w1 S1) (hx : w1.rowIs X 48 4 x) (hR5 : IsR c base w5 S2) (hc5 : Ch (Evs c) w1.drew w5) :
    Aft c base B X t S2 x how val w1 (.pointer (some ⟨w5.heap.size, 0, none⟩)) (w5.alloc (.cells #[.int .i64 how, .int .i64 val] 35)) := by
  have hc : Ch (Evs c) w1 w5 := Ch.trans ((Ch.refl _ _).drew) hc5
  have hn := x_far hR hx
  exact ⟨_, rfl, by go_simp, by go_simp, World.rowIs.alloc (isT_ch hT (hR.far_t hT.row) hc).row _, hR5.bl ((Bl.refl _).alloc _), (hc.row hx (fun e => by rcases e with e | e | e; exact hn.1 e; exact hn.2.1 e; exact hn.2.2 e)).alloc _, hc.alloc _⟩
theorem aft_early {c : Fx} {base B X : Nat} {t : RT} {S1 S2 : RS} {x : Nat → Value} {how val : Int} {w1 w5 : World} (hT : IsT w1 B t) (hR : IsR c base w1 S1) (hx : w1.rowIs X 48 4 x) (hR5 : IsR c base w5 S2)
    (hc5 : Ch (Evs c) (w1.alloc (.cells #[.int .i64 0, .int .i64 0] 35)).drew w5) (hE : w5.rowIs w1.heap.size 35 2 (fun _ => .int .i64 0)) :
    Aft c base B X t S2 x how val w1 (.pointer (some ⟨w1.heap.size, 0, none⟩)) ((w5.setCell ⟨w1.heap.size, 0, none⟩ (.int .i64 how)).setCell ⟨w1.heap.size, 1, none⟩ (.int .i64 val)) := by
  have hc : Ch (Evs c) w1 w5 := Ch.trans (((Ch.refl _ _).alloc _).drew) hc5
  have hn := x_far hR hx
  have lt := hR.lts
  have hr : ((w5.setCell ⟨w1.heap.size, 0, none⟩ (.int .i64 how)).setCell ⟨w1.heap.size, 1, none⟩ (.int .i64 val)).rowIs w1.heap.size 35 2 (fun j => if j = 1 then .int .i64 val else if j = 0 then .int .i64 how else .int .i64 0) := (hE.set 0 _).set 1 _
  have hch : Ch (· = w1.heap.size) w5 ((w5.setCell ⟨w1.heap.size, 0, none⟩ (.int .i64 how)).setCell ⟨w1.heap.size, 1, none⟩ (.int .i64 val)) := ((Ch.refl _ _).setB _).setB _
  have hT5 := isT_ch hT (hR.far_t hT.row) hc
  have hx5 := hc.row hx (fun e => by rcases e with e | e | e; exact hn.1 e; exact hn.2.1 e; exact hn.2.2 e)
  have lB := hT.row.lt
  have lX := hx.lt
  refine ⟨_, rfl, hr.cell (i := 0) (by omega), hr.cell (i := 1) (by omega), row_setO (row_setO hT5.row (by omega) _) (by omega) _, hR5.on35 hE (by have := hR5.far.1; omega) hch, row_setO (row_setO hx5 (by omega) _) (by omega) _, ?_⟩
  exact (hc.set (Or.inr (Nat.le_refl _)) _).set (Or.inr (Nat.le_refl _)) _
/-- What a new task must do. -/
def Child (c : Fx) (base : Nat) (fn : Nat) (arg key : Int) (S S2 : RS) (how val : Int) : Prop :=
  ∀ w, IsR c base w S → base ≤ w.heap.size → Calls Try.prog 97 #[.pointer (some ⟨c.R, 0, none⟩), .int .i64 fn, .int .i64 arg, .int .i64 key] w fun e w' => e = .returned (.agg #[.int .i64 how, .int .i64 val]) ∧ IsR c base w' S2 ∧ Ch (Evs c) w w'
set_option maxRecDepth 100000 in
set_option maxHeartbeats 8000000 in
theorem ot_fork (c : Fx) (base B : Nat) (t : RT) (S S2 : RS) (a b x : Nat) (hw vl : Int) (w : World) (h : IsT w B t) (hR : IsR c base w S) (hbs : base ≤ w.heap.size) (hd : ¬ c.depth ≤ dep t.key) (hd5 : dep t.key < 5) (hm : ¬ 1000 ≤ t.forks) (hm0 : 0 ≤ t.forks) (hS0 : 0 ≤ S.forks) (hS1 : S.forks ≤ 100000) (hk : chk t.key = true) (h0 : t.how = 0)
    (ha : a < 4) (hx : x < 8) (hKB : c.K ≤ B) (hC : Child c base b (t.regs x) (child t.key (t.forks + 1)) { S with forks := S.forks + 1 } S2 hw vl) :
    Calls Try.prog 161 #[.pointer (some ⟨c.R, 0, none⟩), .pointer (some ⟨B, 0, none⟩), insV ⟨9, a, b, x⟩] w fun e w' => e = .returned (.tuple #[]) ∧ IsT w' B { t with forks := t.forks + 1, has := upd t.has a true, hh := upd t.hh a hw, hv := upd t.hv a vl } ∧ IsR c base w' S2 ∧ Ch (fun k => Evs c k ∨ k = B) w w' := by
  have HT : Hid (w.rowIs B 198 27 (rtF t)) := h
  have HR := Lib.hid hR
  have hlt := h.row.lt
  have hl1 : B < w.heap.size + 1 := by omega
  have hl2 : B < w.heap.size + 1 + 1 := by omega
  obtain ⟨e20, e21, e22, e23, e24, e25, e26⟩ := ct_nums h
  have f25 := h.row.frozen 25
  have f23 := h.row.frozen 23
  have hfar := hR.far_t h.row
  obtain ⟨⟨vr, r1, r2⟩, r3, r4, r5, r6⟩ := hR
  have lR := r1.lt
  have q2 : w.cell? ⟨c.R, 2, none⟩ = some (.int .i64 c.depth) := r1.cell (i := 2) (by omega)
  have nRB : ¬ c.R = B := fun e => hfar.1 e.symm
  have hdep := fun w => Ref6.depth_any t.key w
  have q8 : w.cell? ⟨c.R, 8, none⟩ = some (.int .i64 S.forks) := r1.cell (i := 8) (by omega)
  have g8 := r1.frozen 8
  have hch := fun w => Ref6.child_yes t.key (t.forks + 1) w hk hd5 (by omega) (by omega)
  obtain ⟨ck, hck⟩ : ∃ ck, child t.key (t.forks + 1) = ck := ⟨_, rfl⟩
  rw [hck] at hch hC
  rw [h0] at e25
  unfold Child at hC
  have HC := Lib.hid hC
  clear h r1 r2 r3 r4 r5 r6 hC hck h0
  unfold insV
  go_enter Try.func161, Try.ntmps161
  go_wp2_with fail
  go_quiet ((go_at_call 55; exact Calls.quiet_of_same ((hdep _).mono fun _ _ ⟨p, q⟩ => ⟨p, q.symm⟩)))
  go_wp2_with fail
  go_quiet ((go_at_call 27; exact Calls.quiet_of_same ((hch _).mono fun _ _ ⟨p, q⟩ => ⟨p, q.symm⟩)))
  go_wp2_with fail
  refine at_world (fun w' => IsT w' B { t with forks := t.forks + 1 } ∧ IsR c base w' { S with forks := S.forks + 1 } ∧ w'.rowIs w.heap.size 48 4 (four (.int .i64 9) (.int .i64 a) (.int .i64 b) (.int .i64 x)) ∧ Ch (fun k => Evs c k ∨ k = B) w w') ?_ ?_
  · refine ⟨?_, ?_, ?_, ?_⟩
    · show World.rowIs _ _ _ _ _
      refine row_drewN (row_setO (t_forks (World.rowIs.set (row_drewN (World.rowIs.alloc HT.out _) _) 23 _)).row (fun e => nRB e.symm) _) _
    · have h1 : IsR c base ((w.alloc (.cells #[.int .i64 9, .int .i64 a, .int .i64 b, .int .i64 x] 48)).drewN nq) S := HR.out.bl (Bl.drewN ((Bl.refl _).alloc _) _)
      refine IsR.bl ?_ (Bl.drewN (Bl.refl _) _)
      refine isR_forks (S := S) (IsR.on HR.out HT.out hKB ?_) (S.forks + 1)
      exact (((Ch.refl _ _).alloc _).drewN _).setB _
    · refine row_drewN (row_setO (row_setO (row_drewN (row4_alloc w _ _ _ _ 48) _) (by omega) _) (by omega) _) _
    · exact ((((((Ch.refl _ _).alloc _).drewN _).set (Or.inl (Or.inr rfl)) _).set (Or.inl (Or.inl (Or.inl rfl))) _).drewN _)
  · rintro w1 ⟨hT1, hR1, hx1, hch1⟩
    have hs1 := hch1.size
    have hbs1 : base ≤ w1.heap.size := by omega
    have HI : Hid (∀ w2, Bl w1 w2 → IsR c base w2 { S with forks := S.forks + 1 }) := fun w2 hb => hR1.bl hb
    obtain ⟨⟨k0, k1, k2, k3⟩, _⟩ := row4_cells hx1
    have cx := ct_reg hT1 hx
    have nx : (x : Int) < 8 := by omega
    have zx : (0 : Int) ≤ (x : Int) := by omega
    have HX1 := Lib.hid hx1
    have HT1 := Lib.hid hT1
    have HR1 := Lib.hid hR1
    have HCH := Lib.hid hch1
    have hlx := hx1.lt
    have hlB := hT1.row.lt
    clear hx1 hT1 hR1 hch1 e20 e21 e22 e23 e24 e25 e26 f25 f23 q2 q8 g8 HT HR hdep hch
    have HE : Hid (∀ w5, Ch (Evs c) (w1.alloc (.cells #[.int .i64 0, .int .i64 0] 35)).drew w5 → w5.rowIs w1.heap.size 35 2 (fun _ => .int .i64 0)) := by
      intro w5 h5
      have h2 : (w1.alloc (.cells #[.int .i64 0, .int .i64 0] 35)).drew.rowIs w1.heap.size 35 2 (fun _ => .int .i64 0) := World.rowIs_alloc w1 #[.int .i64 0, .int .i64 0] 35 _ (fun i hi => by
        have hi : i < 2 := hi
        obtain rfl | rfl : i = 0 ∨ i = 1 := by omega
        all_goals rfl)
      refine h5.row h2 (fun e => ?_)
      obtain ⟨⟨vr, r1, r2⟩, r3, r4, r5, r6⟩ := HR1.out
      have := r1.lt; have := r3.lt; have := r4.lt
      rcases e with e | e | e <;> omega
    go_cut [8] (fun e wc => Aft c base B w.heap.size { t with forks := t.forks + 1 } S2 (four (.int .i64 9) (.int .i64 a) (.int .i64 b) (.int .i64 x)) hw vl w1 e wc)
    case first =>
     go_region_with (first
      | (go_at_call 97; with_reducible refine (HC.out (w1.alloc (.cells #[.int .i64 0, .int .i64 0] 35)).drew (HI.out _ (by repeat (first | with_reducible exact Bl.refl _ | with_reducible assumption | with_reducible apply Bl.drew | with_reducible apply Bl.drewN | with_reducible apply Bl.alloc))) (by simp; omega)).mono ?_; rintro e w5 ⟨rfl, hR5, hc5⟩; have hE := HE.out _ hc5; have z0 := hE.cell (i := 0) (by omega); have z1 := hE.cell (i := 1) (by omega); have y0 := hE.frozen 0; have y1 := hE.frozen 1; have zl := hE.lt)
      | (go_at_call 97; with_reducible refine (HC.out w1.drew (HI.out _ (by repeat (first | with_reducible exact Bl.refl _ | with_reducible assumption | with_reducible apply Bl.drew | with_reducible apply Bl.drewN | with_reducible apply Bl.alloc))) (by simp; omega)).mono ?_; rintro e w5 ⟨rfl, hR5, hc5⟩))
     all_goals (
      go_wp2_with fail
      go_meet
      first
        | (refine aft_late (S1 := { S with forks := S.forks + 1 }) HT1.out HR1.out HX1.out hR5 ?_; assumption)
        | (refine aft_early (S1 := { S with forks := S.forks + 1 }) HT1.out HR1.out HX1.out hR5 ?_ ?_ <;> assumption))
    case rest =>
      obtain ⟨E, rfl, E0, E1, hT6, hR6, hx6, hc6⟩ := hcut
      have ka := ct_has hT6 ha
      have fka := hT6.row.frozen (8 + a)
      obtain ⟨ia, ja⟩ := ct_hand hT6 ha
      have fia := hT6.row.frozen (12 + a * 2)
      have fja := hT6.row.frozen (12 + a * 2 + 1)
      have ma : (a : Int) < 4 := by omega
      have ya : 0 ≤ (a : Int) := by omega
      have o1a : ¬ 12 + a * 2 = 8 + a := by omega
      have o2a : ¬ 12 + a * 2 + 1 = 8 + a := by omega
      obtain ⟨⟨l0, l1, l2, l3⟩, _⟩ := row4_cells hx6
      have HT6 := Lib.hid hT6
      have HR6 := Lib.hid hR6
      have HC6 := Lib.hid hc6
      have lB6 := hT6.row.lt
      clear hT6 hR6 hx6 hc6 k0 k1 k2 k3 cx HE
      go_wp2_with fail
      go_region
      all_goals
        go_wp2_with fail
        go_end0
        refine ⟨rfl, ?_, ?_, ?_⟩
        · exact t_hand ha (World.rowIs.set (World.rowIs.set (IsT.row (t_has ha (World.rowIs.set HT6.out _ _))) _ _) _ _)
        · exact IsR.on HR6.out HT6.out hKB (by repeat (first | with_reducible exact Ch.refl _ _ | with_reducible apply Ch.setB | with_reducible apply Ch.drew | with_reducible apply Ch.drewN))
        · exact Ch.trans HCH.out (Ch.trans (HC6.out.mono (fun i _ e => Or.inl e)) (Ch.mono (show Ch (· = B) _ _ from by repeat (first | with_reducible exact Ch.refl _ _ | with_reducible apply Ch.setB | with_reducible apply Ch.drew | with_reducible apply Ch.drewN)) (fun i _ e => Or.inr e)))
end Go.Proofs.Ytonndofbnhnkpaa.Rf
