/- Tasks of package vm: what an instruction does alone. -/
import Derived.Test.YtonndofbnhnkpaaVmK
set_option linter.unusedVariables false
set_option linter.unusedSimpArgs false
set_option linter.unusedSectionVars false
namespace Go.Proofs.Ytonndofbnhnkpaa.VmA
open Go.RowKit Num KeyM KeyW StatW Blk
theorem is_of_row {w : World} {B : Nat} {t : Tk} (h : w.rowIs B 113 35 (tkF t)) : Is w B t := h
set_option maxRecDepth 100000 in
set_option maxHeartbeats 4000000 in
theorem do_const (B : Nat) (t : Tk) (a : Nat) (b c : Int) (w : World) (h : Is w B t) (ha : a < 8) :
    Calls Try.prog 63 #[.pointer (some ⟨B, 0, none⟩), insV ⟨1, a, b, c⟩] w fun e w' => e = .returned (.tuple #[]) ∧ Is w' B (t.setReg a (wrap32 b)) ∧ Ch (· = B) w w' := by
  have HI : Hid (w.rowIs B 113 35 (tkF t)) := h
  have hlt := h.lt
  have hl1 : B < w.heap.size + 1 := by omega
  have hl2 : B < w.heap.size + 1 + 1 := by omega
  have hl3 : B < w.heap.size + 2 := by omega
  have ca := cell_reg h ha
  have fa := h.frozen (9 + a)
  have na : (a : Int) < 8 := by omega
  have za : 0 ≤ (a : Int) := by omega
  clear h
  unfold insV
  go_enter Try.func63, Try.ntmps63
  go_wp2_with fail
  refine still_tail 8 (by kernel_rfl) (by kernel_rfl) ?_
  simp only [List.take_succ_cons, List.take_zero, List.drop_succ_cons, List.drop_zero]
  repeat (first | still_step | still_call ((Val.wrap_any _ _).mono fun _ _ ⟨he, hw⟩ => ⟨he, hw.symm⟩))
  refine wpStill_nil ?_
  go_wp2_with fail
  go_end0
  exact ⟨rfl, is_reg ha (by repeat (first | with_reducible exact HI.out | with_reducible apply World.rowIs.alloc | with_reducible apply World.rowIs.drew | with_reducible apply row_drewN | with_reducible apply World.rowIs.set)), (by repeat (first | with_reducible exact Ch.refl _ _ | (with_reducible refine Ch.setN ?_ (by omega) _) | with_reducible apply Ch.setB | with_reducible apply Ch.alloc | with_reducible apply Ch.drew | with_reducible apply Ch.drewN | (with_reducible refine Ch.trans ?_ (by assumption))))⟩
set_option maxRecDepth 100000 in
set_option maxHeartbeats 4000000 in
theorem do_add (B : Nat) (t : Tk) (a b c : Nat) (w : World) (h : Is w B t) (ha : a < 8) (hb : b < 8) (hc : c < 8) :
    Calls Try.prog 63 #[.pointer (some ⟨B, 0, none⟩), insV ⟨2, a, b, c⟩] w fun e w' => e = .returned (.tuple #[]) ∧ Is w' B (t.setReg a (add (t.regs b) (t.regs c))) ∧ Ch (· = B) w w' := by
  have HI : Hid (w.rowIs B 113 35 (tkF t)) := h
  have hlt := h.lt
  have hl1 : B < w.heap.size + 1 := by omega
  have hl2 : B < w.heap.size + 1 + 1 := by omega
  have hl3 : B < w.heap.size + 2 := by omega
  have ca := cell_reg h ha
  have fa := h.frozen (9 + a)
  have na : (a : Int) < 8 := by omega
  have za : 0 ≤ (a : Int) := by omega
  have cb := cell_reg h hb
  have fb := h.frozen (9 + b)
  have nb : (b : Int) < 8 := by omega
  have zb : 0 ≤ (b : Int) := by omega
  have cc := cell_reg h hc
  have fc := h.frozen (9 + c)
  have nc : (c : Int) < 8 := by omega
  have zc : 0 ≤ (c : Int) := by omega
  clear h
  unfold insV
  go_enter Try.func63, Try.ntmps63
  go_wp2_with fail
  refine still_tail 18 (by kernel_rfl) (by kernel_rfl) ?_
  simp only [List.take_succ_cons, List.take_zero, List.drop_succ_cons, List.drop_zero]
  repeat (first | still_step | still_call ((Val.add_any _ _ _).mono fun _ _ ⟨he, hw⟩ => ⟨he, hw.symm⟩))
  refine wpStill_nil ?_
  go_wp2_with fail
  go_end0
  exact ⟨rfl, is_reg ha (by repeat (first | with_reducible exact HI.out | with_reducible apply World.rowIs.alloc | with_reducible apply World.rowIs.drew | with_reducible apply row_drewN | with_reducible apply World.rowIs.set)), (by repeat (first | with_reducible exact Ch.refl _ _ | (with_reducible refine Ch.setN ?_ (by omega) _) | with_reducible apply Ch.setB | with_reducible apply Ch.alloc | with_reducible apply Ch.drew | with_reducible apply Ch.drewN | (with_reducible refine Ch.trans ?_ (by assumption))))⟩
set_option maxRecDepth 100000 in
set_option maxHeartbeats 4000000 in
theorem do_sub (B : Nat) (t : Tk) (a b c : Nat) (w : World) (h : Is w B t) (ha : a < 8) (hb : b < 8) (hc : c < 8) :
    Calls Try.prog 63 #[.pointer (some ⟨B, 0, none⟩), insV ⟨3, a, b, c⟩] w fun e w' => e = .returned (.tuple #[]) ∧ Is w' B (t.setReg a (sub (t.regs b) (t.regs c))) ∧ Ch (· = B) w w' := by
  have HI : Hid (w.rowIs B 113 35 (tkF t)) := h
  have hlt := h.lt
  have hl1 : B < w.heap.size + 1 := by omega
  have hl2 : B < w.heap.size + 1 + 1 := by omega
  have hl3 : B < w.heap.size + 2 := by omega
  have ca := cell_reg h ha
  have fa := h.frozen (9 + a)
  have na : (a : Int) < 8 := by omega
  have za : 0 ≤ (a : Int) := by omega
  have cb := cell_reg h hb
  have fb := h.frozen (9 + b)
  have nb : (b : Int) < 8 := by omega
  have zb : 0 ≤ (b : Int) := by omega
  have cc := cell_reg h hc
  have fc := h.frozen (9 + c)
  have nc : (c : Int) < 8 := by omega
  have zc : 0 ≤ (c : Int) := by omega
  clear h
  unfold insV
  go_enter Try.func63, Try.ntmps63
  go_wp2_with fail
  refine still_tail 18 (by kernel_rfl) (by kernel_rfl) ?_
  simp only [List.take_succ_cons, List.take_zero, List.drop_succ_cons, List.drop_zero]
  repeat (first | still_step | still_call ((Val.sub_any _ _ _).mono fun _ _ ⟨he, hw⟩ => ⟨he, hw.symm⟩))
  refine wpStill_nil ?_
  go_wp2_with fail
  go_end0
  exact ⟨rfl, is_reg ha (by repeat (first | with_reducible exact HI.out | with_reducible apply World.rowIs.alloc | with_reducible apply World.rowIs.drew | with_reducible apply row_drewN | with_reducible apply World.rowIs.set)), (by repeat (first | with_reducible exact Ch.refl _ _ | (with_reducible refine Ch.setN ?_ (by omega) _) | with_reducible apply Ch.setB | with_reducible apply Ch.alloc | with_reducible apply Ch.drew | with_reducible apply Ch.drewN | (with_reducible refine Ch.trans ?_ (by assumption))))⟩
set_option maxRecDepth 100000 in
set_option maxHeartbeats 4000000 in
theorem do_mul (B : Nat) (t : Tk) (a b c : Nat) (w : World) (h : Is w B t) (ha : a < 8) (hb : b < 8) (hc : c < 8) :
    Calls Try.prog 63 #[.pointer (some ⟨B, 0, none⟩), insV ⟨4, a, b, c⟩] w fun e w' => e = .returned (.tuple #[]) ∧ Is w' B (t.setReg a (mul (t.regs b) (t.regs c))) ∧ Ch (· = B) w w' := by
  have HI : Hid (w.rowIs B 113 35 (tkF t)) := h
  have hlt := h.lt
  have hl1 : B < w.heap.size + 1 := by omega
  have hl2 : B < w.heap.size + 1 + 1 := by omega
  have hl3 : B < w.heap.size + 2 := by omega
  have ca := cell_reg h ha
  have fa := h.frozen (9 + a)
  have na : (a : Int) < 8 := by omega
  have za : 0 ≤ (a : Int) := by omega
  have cb := cell_reg h hb
  have fb := h.frozen (9 + b)
  have nb : (b : Int) < 8 := by omega
  have zb : 0 ≤ (b : Int) := by omega
  have cc := cell_reg h hc
  have fc := h.frozen (9 + c)
  have nc : (c : Int) < 8 := by omega
  have zc : 0 ≤ (c : Int) := by omega
  clear h
  unfold insV
  go_enter Try.func63, Try.ntmps63
  go_wp2_with fail
  refine still_tail 18 (by kernel_rfl) (by kernel_rfl) ?_
  simp only [List.take_succ_cons, List.take_zero, List.drop_succ_cons, List.drop_zero]
  repeat (first | still_step | still_call ((Val.mul_any _ _ _).mono fun _ _ ⟨he, hw⟩ => ⟨he, hw.symm⟩))
  refine wpStill_nil ?_
  go_wp2_with fail
  go_end0
  exact ⟨rfl, is_reg ha (by repeat (first | with_reducible exact HI.out | with_reducible apply World.rowIs.alloc | with_reducible apply World.rowIs.drew | with_reducible apply row_drewN | with_reducible apply World.rowIs.set)), (by repeat (first | with_reducible exact Ch.refl _ _ | (with_reducible refine Ch.setN ?_ (by omega) _) | with_reducible apply Ch.setB | with_reducible apply Ch.alloc | with_reducible apply Ch.drew | with_reducible apply Ch.drewN | (with_reducible refine Ch.trans ?_ (by assumption))))⟩
set_option maxRecDepth 100000 in
set_option maxHeartbeats 4000000 in
theorem do_less (B : Nat) (t : Tk) (a b c : Nat) (w : World) (h : Is w B t) (ha : a < 8) (hb : b < 8) (hc : c < 8) :
    Calls Try.prog 63 #[.pointer (some ⟨B, 0, none⟩), insV ⟨6, a, b, c⟩] w fun e w' => e = .returned (.tuple #[]) ∧ Is w' B (t.setReg a (lessv (t.regs b) (t.regs c))) ∧ Ch (· = B) w w' := by
  have HI : Hid (w.rowIs B 113 35 (tkF t)) := h
  have hlt := h.lt
  have hl1 : B < w.heap.size + 1 := by omega
  have hl2 : B < w.heap.size + 1 + 1 := by omega
  have hl3 : B < w.heap.size + 2 := by omega
  have ca := cell_reg h ha
  have fa := h.frozen (9 + a)
  have na : (a : Int) < 8 := by omega
  have za : 0 ≤ (a : Int) := by omega
  have cb := cell_reg h hb
  have fb := h.frozen (9 + b)
  have nb : (b : Int) < 8 := by omega
  have zb : 0 ≤ (b : Int) := by omega
  have cc := cell_reg h hc
  have fc := h.frozen (9 + c)
  have nc : (c : Int) < 8 := by omega
  have zc : 0 ≤ (c : Int) := by omega
  clear h
  unfold insV
  go_enter Try.func63, Try.ntmps63
  go_wp2_with fail
  refine still_tail 18 (by kernel_rfl) (by kernel_rfl) ?_
  simp only [List.take_succ_cons, List.take_zero, List.drop_succ_cons, List.drop_zero]
  repeat (first | still_step | still_call ((Val.less_any _ _ _).mono fun _ _ ⟨he, hw⟩ => ⟨he, hw.symm⟩))
  refine wpStill_nil ?_
  go_wp2_with fail
  go_end0
  exact ⟨rfl, is_reg ha (by repeat (first | with_reducible exact HI.out | with_reducible apply World.rowIs.alloc | with_reducible apply World.rowIs.drew | with_reducible apply row_drewN | with_reducible apply World.rowIs.set)), (by repeat (first | with_reducible exact Ch.refl _ _ | (with_reducible refine Ch.setN ?_ (by omega) _) | with_reducible apply Ch.setB | with_reducible apply Ch.alloc | with_reducible apply Ch.drew | with_reducible apply Ch.drewN | (with_reducible refine Ch.trans ?_ (by assumption))))⟩
set_option maxRecDepth 100000 in
set_option maxHeartbeats 4000000 in
theorem do_jump (B : Nat) (t : Tk) (a : Nat) (b c : Int) (w : World) (h : Is w B t)  :
    Calls Try.prog 63 #[.pointer (some ⟨B, 0, none⟩), insV ⟨7, a, b, c⟩] w fun e w' => e = .returned (.tuple #[]) ∧ Is w' B { t with place := a } ∧ Ch (· = B) w w' := by
  have HI : Hid (w.rowIs B 113 35 (tkF t)) := h
  have hlt := h.lt
  have hl1 : B < w.heap.size + 1 := by omega
  have hl2 : B < w.heap.size + 1 + 1 := by omega
  have hl3 : B < w.heap.size + 2 := by omega
  have c0 : w.cell? ⟨B, 5, none⟩ = some (.int .i64 t.place) := h.cell (i := 5) (by omega)
  have f0 := h.frozen 5
  clear h
  unfold insV
  go_enter Try.func63, Try.ntmps63
  go_wp2_with fail
  go_end0
  exact ⟨rfl, is_place (by repeat (first | with_reducible exact HI.out | with_reducible apply World.rowIs.alloc | with_reducible apply World.rowIs.drew | with_reducible apply row_drewN | with_reducible apply World.rowIs.set)), (by repeat (first | with_reducible exact Ch.refl _ _ | (with_reducible refine Ch.setN ?_ (by omega) _) | with_reducible apply Ch.setB | with_reducible apply Ch.alloc | with_reducible apply Ch.drew | with_reducible apply Ch.drewN | (with_reducible refine Ch.trans ?_ (by assumption))))⟩
set_option maxRecDepth 100000 in
set_option maxHeartbeats 4000000 in
theorem do_zero_yes (B : Nat) (t : Tk) (a b : Nat) (c : Int) (w : World) (h : Is w B t) (ha : a < 8) (h0 : t.regs a = 0) :
    Calls Try.prog 63 #[.pointer (some ⟨B, 0, none⟩), insV ⟨8, a, b, c⟩] w fun e w' => e = .returned (.tuple #[]) ∧ Is w' B { t with place := b } ∧ Ch (· = B) w w' := by
  have HI : Hid (w.rowIs B 113 35 (tkF t)) := h
  have hlt := h.lt
  have hl1 : B < w.heap.size + 1 := by omega
  have hl2 : B < w.heap.size + 1 + 1 := by omega
  have hl3 : B < w.heap.size + 2 := by omega
  have c0 : w.cell? ⟨B, 5, none⟩ = some (.int .i64 t.place) := h.cell (i := 5) (by omega)
  have f0 := h.frozen 5
  have ca := cell_reg h ha
  have fa := h.frozen (9 + a)
  have na : (a : Int) < 8 := by omega
  have za : 0 ≤ (a : Int) := by omega
  rw [h0] at ca
  clear h
  unfold insV
  go_enter Try.func63, Try.ntmps63
  go_wp2_with fail
  go_quiet (fail)
  go_wp2_with fail
  go_end0
  exact ⟨rfl, is_place (by repeat (first | with_reducible exact HI.out | with_reducible apply World.rowIs.alloc | with_reducible apply World.rowIs.drew | with_reducible apply row_drewN | with_reducible apply World.rowIs.set)), (by repeat (first | with_reducible exact Ch.refl _ _ | (with_reducible refine Ch.setN ?_ (by omega) _) | with_reducible apply Ch.setB | with_reducible apply Ch.alloc | with_reducible apply Ch.drew | with_reducible apply Ch.drewN | (with_reducible refine Ch.trans ?_ (by assumption))))⟩
set_option maxRecDepth 100000 in
set_option maxHeartbeats 4000000 in
theorem do_zero_no (B : Nat) (t : Tk) (a b : Nat) (c : Int) (w : World) (h : Is w B t) (ha : a < 8) (h0 : (t.regs a == 0) = false) :
    Calls Try.prog 63 #[.pointer (some ⟨B, 0, none⟩), insV ⟨8, a, b, c⟩] w fun e w' => e = .returned (.tuple #[]) ∧ Is w' B t ∧ Ch (· = B) w w' := by
  have HI : Hid (w.rowIs B 113 35 (tkF t)) := h
  have hlt := h.lt
  have hl1 : B < w.heap.size + 1 := by omega
  have hl2 : B < w.heap.size + 1 + 1 := by omega
  have hl3 : B < w.heap.size + 2 := by omega
  have ca := cell_reg h ha
  have fa := h.frozen (9 + a)
  have na : (a : Int) < 8 := by omega
  have za : 0 ≤ (a : Int) := by omega
  clear h
  unfold insV
  go_enter Try.func63, Try.ntmps63
  go_wp2_with fail
  go_quiet (fail)
  go_wp2_with fail
  go_end0
  exact ⟨rfl, (is_of_row (by repeat (first | with_reducible exact HI.out | with_reducible apply World.rowIs.alloc | with_reducible apply World.rowIs.drew | with_reducible apply row_drewN | with_reducible apply World.rowIs.set))), (by repeat (first | with_reducible exact Ch.refl _ _ | (with_reducible refine Ch.setN ?_ (by omega) _) | with_reducible apply Ch.setB | with_reducible apply Ch.alloc | with_reducible apply Ch.drew | with_reducible apply Ch.drewN | (with_reducible refine Ch.trans ?_ (by assumption))))⟩
set_option maxRecDepth 100000 in
set_option maxHeartbeats 4000000 in
theorem do_ret (B : Nat) (t : Tk) (a : Nat) (b c : Int) (w : World) (h : Is w B t) (ha : a < 8) :
    Calls Try.prog 63 #[.pointer (some ⟨B, 0, none⟩), insV ⟨15, a, b, c⟩] w fun e w' => e = .returned (.tuple #[]) ∧ Is w' B { t with how := 1, val := t.regs a } ∧ Ch (· = B) w w' := by
  have HI : Hid (w.rowIs B 113 35 (tkF t)) := h
  have hlt := h.lt
  have hl1 : B < w.heap.size + 1 := by omega
  have hl2 : B < w.heap.size + 1 + 1 := by omega
  have hl3 : B < w.heap.size + 2 := by omega
  have c33 : w.cell? ⟨B, 33, none⟩ = some (.int .i64 t.how) := h.cell (i := 33) (by omega)
  have c34 : w.cell? ⟨B, 34, none⟩ = some (.int .i64 t.val) := h.cell (i := 34) (by omega)
  have f33 := h.frozen 33
  have f34 := h.frozen 34
  have ca := cell_reg h ha
  have fa := h.frozen (9 + a)
  have na : (a : Int) < 8 := by omega
  have za : 0 ≤ (a : Int) := by omega
  clear h
  unfold insV
  go_enter Try.func63, Try.ntmps63
  go_wp2_with fail
  refine still_tail 10 (by kernel_rfl) (by kernel_rfl) ?_
  simp only [List.take_succ_cons, List.take_zero, List.drop_succ_cons, List.drop_zero]
  repeat still_step
  refine wpStill_nil ?_
  go_wp2_with fail
  go_end0
  exact ⟨rfl, is_end (by repeat (first | with_reducible exact HI.out | with_reducible apply World.rowIs.alloc | with_reducible apply World.rowIs.drew | with_reducible apply row_drewN | with_reducible apply World.rowIs.set)), (by repeat (first | with_reducible exact Ch.refl _ _ | (with_reducible refine Ch.setN ?_ (by omega) _) | with_reducible apply Ch.setB | with_reducible apply Ch.alloc | with_reducible apply Ch.drew | with_reducible apply Ch.drewN | (with_reducible refine Ch.trans ?_ (by assumption))))⟩
set_option maxRecDepth 100000 in
set_option maxHeartbeats 4000000 in
theorem do_none (B : Nat) (t : Tk) (op a b c : Int) (w : World) (h : Is w B t) (g1 : (op == 1) = false) (g2 : (op == 2) = false) (g3 : (op == 3) = false) (g4 : (op == 4) = false) (g5 : (op == 5) = false) (g6 : (op == 6) = false) (g7 : (op == 7) = false) (g8 : (op == 8) = false) (g10 : (op == 10) = false) (g13 : (op == 13) = false) (g15 : (op == 15) = false) :
    Calls Try.prog 63 #[.pointer (some ⟨B, 0, none⟩), insV ⟨op, a, b, c⟩] w fun e w' => e = .returned (.tuple #[]) ∧ Is w' B t ∧ Ch (· = B) w w' := by
  have HI : Hid (w.rowIs B 113 35 (tkF t)) := h
  have hlt := h.lt
  have hl1 : B < w.heap.size + 1 := by omega
  have hl2 : B < w.heap.size + 1 + 1 := by omega
  have hl3 : B < w.heap.size + 2 := by omega
  clear h
  unfold insV
  go_enter Try.func63, Try.ntmps63
  go_wp2_with fail
  go_end0
  exact ⟨rfl, (is_of_row (by repeat (first | with_reducible exact HI.out | with_reducible apply World.rowIs.alloc | with_reducible apply World.rowIs.drew | with_reducible apply row_drewN | with_reducible apply World.rowIs.set))), (by repeat (first | with_reducible exact Ch.refl _ _ | (with_reducible refine Ch.setN ?_ (by omega) _) | with_reducible apply Ch.setB | with_reducible apply Ch.alloc | with_reducible apply Ch.drew | with_reducible apply Ch.drewN | (with_reducible refine Ch.trans ?_ (by assumption))))⟩
set_option maxRecDepth 100000 in
set_option maxHeartbeats 4000000 in
theorem do_div_no (B : Nat) (t : Tk) (a : Int) (b c : Nat) (w : World) (h : Is w B t) (hb : b < 8) (hc : c < 8) (h0 : (wrap32 (t.regs c) == 0) = true) :
    Calls Try.prog 63 #[.pointer (some ⟨B, 0, none⟩), insV ⟨5, a, b, c⟩] w fun e w' => e = .returned (.tuple #[]) ∧ Is w' B (t.stop 2) ∧ Ch (· = B) w w' := by
  have HI : Hid (w.rowIs B 113 35 (tkF t)) := h
  have hlt := h.lt
  have hl1 : B < w.heap.size + 1 := by omega
  have hl2 : B < w.heap.size + 1 + 1 := by omega
  have hl3 : B < w.heap.size + 2 := by omega
  have cb := cell_reg h hb
  have fb := h.frozen (9 + b)
  have nb : (b : Int) < 8 := by omega
  have zb : 0 ≤ (b : Int) := by omega
  have cc := cell_reg h hc
  have fc := h.frozen (9 + c)
  have nc : (c : Int) < 8 := by omega
  have zc : 0 ≤ (c : Int) := by omega
  clear h
  unfold insV
  go_enter Try.func63, Try.ntmps63
  go_wp2_with fail
  go_quiet ((go_at_call 95; exact Calls.quiet_of_same ((Val.div_no _ _ _ h0).mono fun _ _ ⟨he, hw⟩ => ⟨he, hw.symm⟩)))
  clear h0
  go_wp2_with (first | (go_at_call 61; with_reducible refine (stop_any B t 2 _ (is_of_row ((by repeat (first | with_reducible exact HI.out | with_reducible apply World.rowIs.alloc | with_reducible apply World.rowIs.drew | with_reducible apply row_drewN | with_reducible apply World.rowIs.set))))).mono ?_; rintro e w2 ⟨rfl, h1, h2⟩))
  exact bodyPost_ret (v := .tuple #[]) (by simp [results, Try.results63, go_sem]) rfl ⟨rfl, h1, (by repeat (first | with_reducible exact Ch.refl _ _ | (with_reducible refine Ch.setN ?_ (by omega) _) | with_reducible apply Ch.setB | with_reducible apply Ch.alloc | with_reducible apply Ch.drew | with_reducible apply Ch.drewN | (with_reducible refine Ch.trans ?_ (by assumption))))⟩
set_option maxRecDepth 100000 in
set_option maxHeartbeats 4000000 in
theorem do_div (B : Nat) (t : Tk) (a b c : Nat) (w : World) (h : Is w B t) (ha : a < 8) (hb : b < 8) (hc : c < 8) (h0 : (wrap32 (t.regs c) == 0) = false) :
    Calls Try.prog 63 #[.pointer (some ⟨B, 0, none⟩), insV ⟨5, a, b, c⟩] w fun e w' => e = .returned (.tuple #[]) ∧ Is w' B (t.setReg a (divq (t.regs b) (t.regs c))) ∧ Ch (· = B) w w' := by
  have HI : Hid (w.rowIs B 113 35 (tkF t)) := h
  have hlt := h.lt
  have hl1 : B < w.heap.size + 1 := by omega
  have hl2 : B < w.heap.size + 1 + 1 := by omega
  have hl3 : B < w.heap.size + 2 := by omega
  have ca := cell_reg h ha
  have fa := h.frozen (9 + a)
  have na : (a : Int) < 8 := by omega
  have za : 0 ≤ (a : Int) := by omega
  have cb := cell_reg h hb
  have fb := h.frozen (9 + b)
  have nb : (b : Int) < 8 := by omega
  have zb : 0 ≤ (b : Int) := by omega
  have cc := cell_reg h hc
  have fc := h.frozen (9 + c)
  have nc : (c : Int) < 8 := by omega
  have zc : 0 ≤ (c : Int) := by omega
  clear h
  unfold insV
  go_enter Try.func63, Try.ntmps63
  go_wp2_with fail
  go_quiet ((go_at_call 95; exact Calls.quiet_of_same ((Val.div_yes _ _ _ h0).mono fun _ _ ⟨he, hw⟩ => ⟨he, hw.symm⟩)))
  clear h0
  go_wp2_with fail
  refine still_tail 6 (by kernel_rfl) (by kernel_rfl) ?_
  simp only [List.take_succ_cons, List.take_zero, List.drop_succ_cons, List.drop_zero]
  repeat still_step
  refine wpStill_nil ?_
  go_wp2_with fail
  go_end0
  exact ⟨rfl, is_reg ha (by repeat (first | with_reducible exact HI.out | with_reducible apply World.rowIs.alloc | with_reducible apply World.rowIs.drew | with_reducible apply row_drewN | with_reducible apply World.rowIs.set)), (by repeat (first | with_reducible exact Ch.refl _ _ | (with_reducible refine Ch.setN ?_ (by omega) _) | with_reducible apply Ch.setB | with_reducible apply Ch.alloc | with_reducible apply Ch.drew | with_reducible apply Ch.drewN | (with_reducible refine Ch.trans ?_ (by assumption))))⟩
set_option maxRecDepth 100000 in
set_option maxHeartbeats 4000000 in
theorem do_join_no (B : Nat) (t : Tk) (a : Int) (b : Nat) (c : Int) (w : World) (h : Is w B t) (hb : b < 4) (h0 : (t.hands b).kind = 0) :
    Calls Try.prog 63 #[.pointer (some ⟨B, 0, none⟩), insV ⟨10, a, b, c⟩] w fun e w' => e = .returned (.tuple #[]) ∧ Is w' B ((t.setHand b Hd.zero).stop 7) ∧ Ch (· = B) w w' := by
  have HI : Hid (w.rowIs B 113 35 (tkF t)) := h
  have hlt := h.lt
  have hl1 : B < w.heap.size + 1 := by omega
  have hl2 : B < w.heap.size + 1 + 1 := by omega
  have hl3 : B < w.heap.size + 2 := by omega
  have e0 : w.cell? ⟨B, 17 + b * 4, none⟩ = some (.int .i64 (t.hands b).kind) := cell_hand h hb (f := 0) (by decide)
  have e1 : w.cell? ⟨B, 17 + b * 4 + 1, none⟩ = some (.int .i64 (t.hands b).handle) := cell_hand h hb (f := 1) (by decide)
  have e2 : w.cell? ⟨B, 17 + b * 4 + 2, none⟩ = some (.int .i64 (t.hands b).how) := cell_hand h hb (f := 2) (by decide)
  have e3 : w.cell? ⟨B, 17 + b * 4 + 3, none⟩ = some (.int .i64 (t.hands b).val) := cell_hand h hb (f := 3) (by decide)
  have f0 := h.frozen (17 + b * 4)
  have f1 := h.frozen (17 + b * 4 + 1)
  have f2 := h.frozen (17 + b * 4 + 2)
  have f3 := h.frozen (17 + b * 4 + 3)
  have mb : (b : Int) < 4 := by omega
  have yb : 0 ≤ (b : Int) := by omega
  rw [h0] at e0
  clear h0
  clear h
  unfold insV
  go_enter Try.func63, Try.ntmps63
  go_wp2_with fail
  go_region
  go_wp2_with fail
  refine still_tail 7 (by kernel_rfl) (by kernel_rfl) ?_
  simp only [List.take_succ_cons, List.take_zero, List.drop_succ_cons, List.drop_zero]
  repeat still_step
  refine wpStill_nil ?_
  go_wp2_with (first | (go_at_call 61; with_reducible refine (stop_any B (t.setHand b Hd.zero) 7 _ (is_hand (v := ⟨0, 0, 0, 0⟩) hb (by repeat (first | with_reducible exact HI.out | with_reducible apply World.rowIs.alloc | with_reducible apply World.rowIs.drew | with_reducible apply row_drewN | with_reducible apply World.rowIs.set)))).mono ?_; rintro e w2 ⟨rfl, h1, h2⟩))
  exact bodyPost_ret (v := .tuple #[]) (by simp [results, Try.results63, go_sem]) rfl ⟨rfl, h1, (by repeat (first | with_reducible exact Ch.refl _ _ | (with_reducible refine Ch.setN ?_ (by omega) _) | with_reducible apply Ch.setB | with_reducible apply Ch.alloc | with_reducible apply Ch.drew | with_reducible apply Ch.drewN | (with_reducible refine Ch.trans ?_ (by assumption))))⟩
set_option maxRecDepth 100000 in
set_option maxHeartbeats 4000000 in
theorem do_join (B : Nat) (t : Tk) (a b : Nat) (c : Int) (w : World) (h : Is w B t) (ha : a < 8) (hb : b < 4) (h0 : ((t.hands b).kind == 0) = false) :
    Calls Try.prog 63 #[.pointer (some ⟨B, 0, none⟩), insV ⟨10, a, b, c⟩] w fun e w' => e = .returned (.tuple #[]) ∧ Is w' B ((t.setHand b Hd.zero).joined a (t.hands b).how (t.hands b).val) ∧ Ch (· = B) w w' := by
  have HI : Hid (w.rowIs B 113 35 (tkF t)) := h
  have hlt := h.lt
  have hl1 : B < w.heap.size + 1 := by omega
  have hl2 : B < w.heap.size + 1 + 1 := by omega
  have hl3 : B < w.heap.size + 2 := by omega
  have e0 : w.cell? ⟨B, 17 + b * 4, none⟩ = some (.int .i64 (t.hands b).kind) := cell_hand h hb (f := 0) (by decide)
  have e1 : w.cell? ⟨B, 17 + b * 4 + 1, none⟩ = some (.int .i64 (t.hands b).handle) := cell_hand h hb (f := 1) (by decide)
  have e2 : w.cell? ⟨B, 17 + b * 4 + 2, none⟩ = some (.int .i64 (t.hands b).how) := cell_hand h hb (f := 2) (by decide)
  have e3 : w.cell? ⟨B, 17 + b * 4 + 3, none⟩ = some (.int .i64 (t.hands b).val) := cell_hand h hb (f := 3) (by decide)
  have f0 := h.frozen (17 + b * 4)
  have f1 := h.frozen (17 + b * 4 + 1)
  have f2 := h.frozen (17 + b * 4 + 2)
  have f3 := h.frozen (17 + b * 4 + 3)
  have mb : (b : Int) < 4 := by omega
  have yb : 0 ≤ (b : Int) := by omega
  clear h
  unfold insV
  go_enter Try.func63, Try.ntmps63
  go_wp2_with fail
  go_region
  go_wp2_with fail
  refine still_tail 7 (by kernel_rfl) (by kernel_rfl) ?_
  simp only [List.take_succ_cons, List.take_zero, List.drop_succ_cons, List.drop_zero]
  repeat still_step
  refine wpStill_nil ?_
  go_wp2_with (first | (go_at_call 35; with_reducible refine (joined_any B (t.setHand b Hd.zero) a (t.hands b).how (t.hands b).val _ (is_hand (v := ⟨0, 0, 0, 0⟩) hb (by repeat (first | with_reducible exact HI.out | with_reducible apply World.rowIs.alloc | with_reducible apply World.rowIs.drew | with_reducible apply row_drewN | with_reducible apply World.rowIs.set))) ha).mono ?_; rintro e w2 ⟨rfl, h1, h2⟩))
  go_end0
  exact ⟨rfl, h1, (by repeat (first | with_reducible exact Ch.refl _ _ | (with_reducible refine Ch.setN ?_ (by omega) _) | with_reducible apply Ch.setB | with_reducible apply Ch.alloc | with_reducible apply Ch.drew | with_reducible apply Ch.drewN | (with_reducible refine Ch.trans ?_ (by assumption))))⟩
set_option maxRecDepth 100000 in
set_option maxHeartbeats 4000000 in
theorem do_cancel_no (B : Nat) (t : Tk) (a : Nat) (b c : Int) (w : World) (h : Is w B t) (ha : a < 4) (h0 : (t.hands a).kind = 0) :
    Calls Try.prog 63 #[.pointer (some ⟨B, 0, none⟩), insV ⟨13, a, b, c⟩] w fun e w' => e = .returned (.tuple #[]) ∧ Is w' B (t.stop 7) ∧ Ch (· = B) w w' := by
  have HI : Hid (w.rowIs B 113 35 (tkF t)) := h
  have hlt := h.lt
  have hl1 : B < w.heap.size + 1 := by omega
  have hl2 : B < w.heap.size + 1 + 1 := by omega
  have hl3 : B < w.heap.size + 2 := by omega
  have e0 : w.cell? ⟨B, 17 + a * 4, none⟩ = some (.int .i64 (t.hands a).kind) := cell_hand h ha (f := 0) (by decide)
  have e1 : w.cell? ⟨B, 17 + a * 4 + 1, none⟩ = some (.int .i64 (t.hands a).handle) := cell_hand h ha (f := 1) (by decide)
  have e2 : w.cell? ⟨B, 17 + a * 4 + 2, none⟩ = some (.int .i64 (t.hands a).how) := cell_hand h ha (f := 2) (by decide)
  have e3 : w.cell? ⟨B, 17 + a * 4 + 3, none⟩ = some (.int .i64 (t.hands a).val) := cell_hand h ha (f := 3) (by decide)
  have f0 := h.frozen (17 + a * 4)
  have f1 := h.frozen (17 + a * 4 + 1)
  have f2 := h.frozen (17 + a * 4 + 2)
  have f3 := h.frozen (17 + a * 4 + 3)
  have ma : (a : Int) < 4 := by omega
  have ya : 0 ≤ (a : Int) := by omega
  rw [h0] at e0
  clear h0
  clear h
  unfold insV
  go_enter Try.func63, Try.ntmps63
  go_wp2_with fail
  go_quiet (fail)
  go_wp2_with (first | (go_at_call 61; with_reducible refine (stop_any B t 7 _ (is_of_row ((by repeat (first | with_reducible exact HI.out | with_reducible apply World.rowIs.alloc | with_reducible apply World.rowIs.drew | with_reducible apply row_drewN | with_reducible apply World.rowIs.set))))).mono ?_; rintro e w2 ⟨rfl, h1, h2⟩))
  go_end0
  exact ⟨rfl, h1, (by repeat (first | with_reducible exact Ch.refl _ _ | (with_reducible refine Ch.setN ?_ (by omega) _) | with_reducible apply Ch.setB | with_reducible apply Ch.alloc | with_reducible apply Ch.drew | with_reducible apply Ch.drewN | (with_reducible refine Ch.trans ?_ (by assumption))))⟩
set_option maxRecDepth 100000 in
set_option maxHeartbeats 4000000 in
theorem do_cancel (B : Nat) (t : Tk) (a : Nat) (b c : Int) (w : World) (h : Is w B t) (ha : a < 4) (h0 : ((t.hands a).kind == 0) = false) :
    Calls Try.prog 63 #[.pointer (some ⟨B, 0, none⟩), insV ⟨13, a, b, c⟩] w fun e w' => e = .returned (.tuple #[]) ∧ Is w' B t ∧ Ch (· = B) w w' := by
  have HI : Hid (w.rowIs B 113 35 (tkF t)) := h
  have hlt := h.lt
  have hl1 : B < w.heap.size + 1 := by omega
  have hl2 : B < w.heap.size + 1 + 1 := by omega
  have hl3 : B < w.heap.size + 2 := by omega
  have e0 : w.cell? ⟨B, 17 + a * 4, none⟩ = some (.int .i64 (t.hands a).kind) := cell_hand h ha (f := 0) (by decide)
  have e1 : w.cell? ⟨B, 17 + a * 4 + 1, none⟩ = some (.int .i64 (t.hands a).handle) := cell_hand h ha (f := 1) (by decide)
  have e2 : w.cell? ⟨B, 17 + a * 4 + 2, none⟩ = some (.int .i64 (t.hands a).how) := cell_hand h ha (f := 2) (by decide)
  have e3 : w.cell? ⟨B, 17 + a * 4 + 3, none⟩ = some (.int .i64 (t.hands a).val) := cell_hand h ha (f := 3) (by decide)
  have f0 := h.frozen (17 + a * 4)
  have f1 := h.frozen (17 + a * 4 + 1)
  have f2 := h.frozen (17 + a * 4 + 2)
  have f3 := h.frozen (17 + a * 4 + 3)
  have ma : (a : Int) < 4 := by omega
  have ya : 0 ≤ (a : Int) := by omega
  clear h
  unfold insV
  go_enter Try.func63, Try.ntmps63
  go_wp2_with fail
  go_quiet (fail)
  go_wp2_with fail
  go_end0
  exact ⟨rfl, (is_of_row (by repeat (first | with_reducible exact HI.out | with_reducible apply World.rowIs.alloc | with_reducible apply World.rowIs.drew | with_reducible apply row_drewN | with_reducible apply World.rowIs.set))), (by repeat (first | with_reducible exact Ch.refl _ _ | (with_reducible refine Ch.setN ?_ (by omega) _) | with_reducible apply Ch.setB | with_reducible apply Ch.alloc | with_reducible apply Ch.drew | with_reducible apply Ch.drewN | (with_reducible refine Ch.trans ?_ (by assumption))))⟩
end Go.Proofs.Ytonndofbnhnkpaa.VmA
