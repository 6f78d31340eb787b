/- Tasks of package vm: a fork. -/
import Derived.Test.YtonndofbnhnkpaaVmB
import Derived.Test.YtonndofbnhnkpaaKeyB
set_option linter.unusedVariables false
set_option linter.unusedSimpArgs false
set_option linter.unusedSectionVars false
namespace Go.Proofs.Ytonndofbnhnkpaa.VmA
open Go.RowKit Num KeyM KeyW StatW Blk
theorem Is.bl {w w' : World} {B : Nat} {t : Tk} (h : Is w B t) (k : Bl w w') : Is w' B t := row_bl h k
set_option maxRecDepth 100000 in
set_option maxHeartbeats 4000000 in
theorem fork_deep (B : Nat) (t : Tk) (i : Ins) (w : World) (h : Is w B t) (hd : t.depth ≤ dep t.key) :
    Calls Try.prog 90 #[.pointer (some ⟨B, 0, none⟩), insV i] w fun e w' => e = .returned (actV Act.zero) ∧ Is w' B (t.stop 6) ∧ Ch (· = B) w w' := by
  have c1 : w.cell? ⟨B, 8, none⟩ = some (.int .i64 t.key) := h.cell (i := 8) (by omega)
  have c2 : w.cell? ⟨B, 2, none⟩ = some (.int .i64 t.depth) := h.cell (i := 2) (by omega)
  have c3 : w.cell? ⟨B, 7, none⟩ = some (.int .i64 t.forks) := h.cell (i := 7) (by omega)
  have f3 := h.frozen 7
  have HI : Hid (w.rowIs B 113 35 (tkF t)) := h
  have hI : ∀ w', Bl w w' → Is w' B t := fun w' => Is.bl h
  have hlt := h.lt
  have hD := fun w => depth_any t.key w
  clear h
  unfold insV
  go_enter Try.func90, Try.ntmps90
  go_wp2_with fail
  have hR := row4_alloc1 w (.cells #[.int .i64 i.op, .int .i64 i.a, .int .i64 i.b, .int .i64 i.c] 48) (.int .i64 0) (.int .i64 0) (.int .i64 0) (.int .i64 0) 56
  have hR' := fun w' => row_bl (w' := w') hR
  clear hR
  go_region_with (go_at_call 85; refine (hD _).mono ?_; rintro x w1 ⟨rfl, hb1⟩; have k5 := st_cell hb1 (show World.cell? _ ⟨B, 2, none⟩ = some (.int .i64 t.depth) by go_simp); have k7 := st_cell hb1 (show World.cell? _ ⟨B, 7, none⟩ = some (.int .i64 t.forks) by go_simp))
  all_goals
    go_wp2_with (first | (go_at_call 61; with_reducible refine (stop_any B t 6 _ (hI _ (by repeat (first | with_reducible exact Bl.refl _ | with_reducible assumption | with_reducible apply Bl.drew | with_reducible apply Bl.drewN | with_reducible apply Bl.alloc | (with_reducible refine Bl.trans ?_ (by assumption)))))).mono ?_; rintro e w2 ⟨rfl, h1, h2⟩; obtain ⟨⟨q0, q1, q2, q3⟩, g0, g1, g2, g3⟩ := row4_cells (h2.row (hR' _ (by repeat (first | with_reducible exact Bl.refl _ | with_reducible assumption | with_reducible apply Bl.drew | with_reducible apply Bl.drewN | with_reducible apply Bl.alloc | (with_reducible refine Bl.trans ?_ (by assumption))))) (by omega))))
    have h1r : World.rowIs w2 B 113 35 _ := h1
    exact bodyPost_ret (v := actV Act.zero) (by simp [results, Try.results90, go_sem, actV, Act.zero, q0, q1, q2, q3]) rfl ⟨rfl, (by show World.rowIs _ _ _ _ _; repeat (first | with_reducible exact h1r | with_reducible apply World.rowIs.alloc | with_reducible apply World.rowIs.drew | (with_reducible refine row_setO ?_ (by omega) _))), (by repeat (first | (with_reducible refine Ch.setN ?_ (by omega) _) | with_reducible apply Ch.setB | with_reducible apply Ch.alloc | with_reducible apply Ch.drew | (with_reducible refine Ch.trans ?_ (by assumption)) | with_reducible exact Ch.of_bl (by repeat (first | with_reducible exact Bl.refl _ | with_reducible assumption | with_reducible apply Bl.drew | with_reducible apply Bl.drewN | with_reducible apply Bl.alloc | (with_reducible refine Bl.trans ?_ (by assumption))))))⟩
set_option maxRecDepth 100000 in
set_option maxHeartbeats 4000000 in
theorem fork_many (B : Nat) (t : Tk) (i : Ins) (w : World) (h : Is w B t) (hd : ¬ t.depth ≤ dep t.key) (hf : 1000 ≤ t.forks) :
    Calls Try.prog 90 #[.pointer (some ⟨B, 0, none⟩), insV i] w fun e w' => e = .returned (actV Act.zero) ∧ Is w' B (t.stop 9) ∧ Ch (· = B) w w' := by
  have c1 : w.cell? ⟨B, 8, none⟩ = some (.int .i64 t.key) := h.cell (i := 8) (by omega)
  have c2 : w.cell? ⟨B, 2, none⟩ = some (.int .i64 t.depth) := h.cell (i := 2) (by omega)
  have c3 : w.cell? ⟨B, 7, none⟩ = some (.int .i64 t.forks) := h.cell (i := 7) (by omega)
  have f3 := h.frozen 7
  have HI : Hid (w.rowIs B 113 35 (tkF t)) := h
  have hI : ∀ w', Bl w w' → Is w' B t := fun w' => Is.bl h
  have hlt := h.lt
  have hD := fun w => depth_any t.key w
  clear h
  unfold insV
  go_enter Try.func90, Try.ntmps90
  go_wp2_with fail
  have hR := row4_alloc1 w (.cells #[.int .i64 i.op, .int .i64 i.a, .int .i64 i.b, .int .i64 i.c] 48) (.int .i64 0) (.int .i64 0) (.int .i64 0) (.int .i64 0) 56
  have hR' := fun w' => row_bl (w' := w') hR
  clear hR
  go_region_with (go_at_call 85; refine (hD _).mono ?_; rintro x w1 ⟨rfl, hb1⟩; have k5 := st_cell hb1 (show World.cell? _ ⟨B, 2, none⟩ = some (.int .i64 t.depth) by go_simp); have k7 := st_cell hb1 (show World.cell? _ ⟨B, 7, none⟩ = some (.int .i64 t.forks) by go_simp))
  all_goals
    go_wp2_with (first | (go_at_call 61; with_reducible refine (stop_any B t 9 _ (hI _ (by repeat (first | with_reducible exact Bl.refl _ | with_reducible assumption | with_reducible apply Bl.drew | with_reducible apply Bl.drewN | with_reducible apply Bl.alloc | (with_reducible refine Bl.trans ?_ (by assumption)))))).mono ?_; rintro e w2 ⟨rfl, h1, h2⟩; obtain ⟨⟨q0, q1, q2, q3⟩, g0, g1, g2, g3⟩ := row4_cells (h2.row (hR' _ (by repeat (first | with_reducible exact Bl.refl _ | with_reducible assumption | with_reducible apply Bl.drew | with_reducible apply Bl.drewN | with_reducible apply Bl.alloc | (with_reducible refine Bl.trans ?_ (by assumption))))) (by omega))))
    have h1r : World.rowIs w2 B 113 35 _ := h1
    exact bodyPost_ret (v := actV Act.zero) (by simp [results, Try.results90, go_sem, actV, Act.zero, q0, q1, q2, q3]) rfl ⟨rfl, (by show World.rowIs _ _ _ _ _; repeat (first | with_reducible exact h1r | with_reducible apply World.rowIs.alloc | with_reducible apply World.rowIs.drew | (with_reducible refine row_setO ?_ (by omega) _))), (by repeat (first | (with_reducible refine Ch.setN ?_ (by omega) _) | with_reducible apply Ch.setB | with_reducible apply Ch.alloc | with_reducible apply Ch.drew | (with_reducible refine Ch.trans ?_ (by assumption)) | with_reducible exact Ch.of_bl (by repeat (first | with_reducible exact Bl.refl _ | with_reducible assumption | with_reducible apply Bl.drew | with_reducible apply Bl.drewN | with_reducible apply Bl.alloc | (with_reducible refine Bl.trans ?_ (by assumption))))))⟩
set_option maxRecDepth 100000 in
set_option maxHeartbeats 4000000 in
theorem fork_go (B : Nat) (t : Tk) (op : Int) (a b c : Nat) (w : World) (h : Is w B t) (hd : ¬ t.depth ≤ dep t.key) (hf : ¬ 1000 ≤ t.forks) (hf0 : 0 ≤ t.forks) (hk : chk t.key = true) (hd5 : dep t.key < 5) (ha : a < 4) (hb : b < 12) (hc : c < 8) :
    Calls Try.prog 90 #[.pointer (some ⟨B, 0, none⟩), insV ⟨op, a, b, c⟩] w fun e w' => e = .returned (actV ⟨1, b + 16 * a, t.regs c, child t.key (t.forks + 1)⟩) ∧ Is w' B { t with forks := t.forks + 1 } ∧ Ch (· = B) w w' := by
  have c1 : w.cell? ⟨B, 8, none⟩ = some (.int .i64 t.key) := h.cell (i := 8) (by omega)
  have c2 : w.cell? ⟨B, 2, none⟩ = some (.int .i64 t.depth) := h.cell (i := 2) (by omega)
  have c3 : w.cell? ⟨B, 7, none⟩ = some (.int .i64 t.forks) := h.cell (i := 7) (by omega)
  have c4 := cell_reg h hc
  have hI : ∀ w', Bl w w' → Is w' B t := fun w' => Is.bl h
  have hlt := h.lt
  have hD := fun w => depth_any t.key w
  have hC := fun w => child_yes t.key (t.forks + 1) w hk hd5 (by omega) (by omega)
  obtain ⟨K, hK⟩ : ∃ K, child t.key (t.forks + 1) = K := ⟨_, rfl⟩
  rw [hK] at hC ⊢
  clear h hK hk hd5
  unfold insV
  go_enter Try.func90, Try.ntmps90
  go_wp2_with fail
  have hR := row4_alloc1 w (.cells #[.int .i64 op, .int .i64 a, .int .i64 b, .int .i64 c] 48) (.int .i64 0) (.int .i64 0) (.int .i64 0) (.int .i64 0) 56
  have hR' := fun w' => row_bl (w' := w') hR
  have hQ := row4_alloc w (.int .i64 op) (.int .i64 a) (.int .i64 b) (.int .i64 c) 48
  have hQ' := fun w' => row_bl (w' := w') hQ
  clear hR hQ
  go_region_with (go_at_call 85; refine (hD _).mono ?_; rintro x w1 ⟨rfl, hb1⟩; have k5 := st_cell hb1 (show World.cell? _ ⟨B, 2, none⟩ = some (.int .i64 t.depth) by go_simp))
  all_goals
    have hr1 := hR' w1 (by repeat (first | with_reducible exact Bl.refl _ | with_reducible assumption | with_reducible apply Bl.drew | with_reducible apply Bl.drewN | with_reducible apply Bl.alloc | (with_reducible refine Bl.trans ?_ (by assumption))))
    have hq1 := hQ' w1 (by repeat (first | with_reducible exact Bl.refl _ | with_reducible assumption | with_reducible apply Bl.drew | with_reducible apply Bl.drewN | with_reducible apply Bl.alloc | (with_reducible refine Bl.trans ?_ (by assumption))))
    have hw1 : Bl w w1 := (by repeat (first | with_reducible exact Bl.refl _ | with_reducible assumption | with_reducible apply Bl.drew | with_reducible apply Bl.drewN | with_reducible apply Bl.alloc | (with_reducible refine Bl.trans ?_ (by assumption))))
    have hi1 := hI w1 hw1
    clear hI hR' hQ'
    obtain ⟨⟨q0, q1, q2, q3⟩, g0, g1, g2, g3⟩ := row4_cells hr1
    obtain ⟨⟨p0, p1, p2, p3⟩, _⟩ := row4_cells hq1
    have e1 : w1.cell? ⟨B, 8, none⟩ = some (.int .i64 t.key) := hi1.cell (i := 8) (by omega)
    have e3 : w1.cell? ⟨B, 7, none⟩ = some (.int .i64 t.forks) := hi1.cell (i := 7) (by omega)
    have e4 := cell_reg hi1 hc
    have z3 := hi1.frozen 7
    have HI : Hid (w1.rowIs B 113 35 (tkF t)) := hi1
    have HR := Lib.hid hr1
    have HQ := Lib.hid hq1
    have HB := Lib.hid hw1
    have hz := hw1.size
    have hz1 := hr1.lt
    clear hi1 hr1 hq1 hb1 hw1 k5 c1 c2 c3 c4
    go_wp2_with fail
    obtain ⟨w3, hw3⟩ : ∃ w3, w3 = w1.setCell ⟨B, 7, none⟩ (.int .i64 (t.forks + 1)) := ⟨_, rfl⟩
    have hI3 : Is w3 B { t with forks := t.forks + 1 } := by rw [hw3]; exact is_forks (HI.out.set 7 _)
    have hR3 := row_setO (b := B) (o := 7) (sp := none) HR.out (by omega) (.int .i64 (t.forks + 1))
    have hQ3 := row_setO (b := B) (o := 7) (sp := none) HQ.out (by omega) (.int .i64 (t.forks + 1))
    have hC3 : Ch (· = B) w w3 := by rw [hw3]; exact (Ch.of_bl HB.out).setB _
    rw [← hw3] at hR3 hQ3 ⊢
    clear hw3 HI HR HQ HB q0 q1 q2 q3 g0 g1 g2 g3 p0 p1 p2 p3 e1 e3 e4 z3
    have e1 : w3.cell? ⟨B, 8, none⟩ = some (.int .i64 t.key) := hI3.cell (i := 8) (by omega)
    have e3 : w3.cell? ⟨B, 7, none⟩ = some (.int .i64 (t.forks + 1)) := hI3.cell (i := 7) (by omega)
    have HI3 := Lib.hid hI3
    have HR3 := Lib.hid hR3
    have HQ3 := Lib.hid hQ3
    have HC3 := Lib.hid hC3
    clear hI3 hR3 hQ3 hC3
    go_region_with (go_at_call 120; refine (hC _).mono ?_; rintro x w4 ⟨rfl, hb4⟩)
  all_goals
    have hI4 := Is.bl HI3.out (Bl.trans (Bl.drew (Bl.refl _)) hb4)
    have hr4 := row_bl HR3.out (Bl.trans (Bl.drew (Bl.refl _)) hb4)
    have hq4 := row_bl HQ3.out (Bl.trans (Bl.drew (Bl.refl _)) hb4)
    have hC4 : Ch (· = B) w w4 := HC3.out.trans (Ch.of_bl (Bl.trans (Bl.drew (Bl.refl _)) hb4))
    obtain ⟨⟨q0, q1, q2, q3⟩, g0, g1, g2, g3⟩ := row4_cells hr4
    obtain ⟨⟨p0, p1, p2, p3⟩, _⟩ := row4_cells hq4
    have e4 := cell_reg hI4 hc
    have HI4 : Hid (w4.rowIs B 113 35 (tkF { t with forks := t.forks + 1 })) := hI4
    have HC4 := Lib.hid hC4
    have hz4 := hr4.lt
    clear hI4 hr4 hq4 hC4 hb4
    go_wp2_with fail
    have hc' : (c : Int) < 8 := by omega
    have hc'' : 0 ≤ (c : Int) := by omega
    refine still_tail 15 (by kernel_rfl) (by kernel_rfl) ?_
    simp only [List.take_succ_cons, List.take_zero, List.drop_succ_cons, List.drop_zero]
    repeat still_step
    refine wpStill_nil ?_
    go_wp2_with fail
    exact bodyPost_ret (v := actV ⟨1, b + 16 * a, t.regs c, K⟩) (by simp [results, Try.results90, go_sem, actV, q0, q1, q2, q3]) rfl ⟨rfl, (by show World.rowIs _ _ _ _ _; repeat (first | with_reducible exact HI4.out | with_reducible apply World.rowIs.alloc | with_reducible apply World.rowIs.drew | (with_reducible refine row_setO ?_ (by omega) _))), (by repeat (first | (with_reducible refine Ch.setN ?_ (by omega) _) | with_reducible apply Ch.alloc | with_reducible apply Ch.drew | with_reducible exact HC4.out))⟩
end Go.Proofs.Ytonndofbnhnkpaa.VmA
