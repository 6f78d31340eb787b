/- The reference's evaluator: an instruction that only turns its task. -/
import Derived.Test.YtonndofbnhnkpaaRfA
import Derived.Test.YtonndofbnhnkpaaRef1
import Derived.BigRegion
namespace Go.Proofs.Ytonndofbnhnkpaa.Rf
open Go.RowKit Num KeyM KeyW StatW Blk VmA VmG Prg EvM
set_option maxRecDepth 100000 in
set_option maxHeartbeats 4000000 in
theorem do_const (R B : Nat) (t : RT) (a : Nat) (b c : Int) (w : World) (h : IsT w B t) (ha : a < 8) :
    Calls Try.prog 130 #[.pointer (some ⟨R, 0, none⟩), .pointer (some ⟨B, 0, none⟩), insV ⟨1, a, b, c⟩] w fun e w' => e = .returned (.tuple #[]) ∧ IsT w' B { t with regs := upd t.regs a b } ∧ Ch (· = B) w w' := by
  have HT : Hid (w.rowIs B 198 27 (rtF t)) := h
  have hlt := h.row.lt
  have hl1 : B < w.heap.size + 1 := by omega
  have hl2 : B < w.heap.size + 1 + 1 := by omega
  obtain ⟨e20, e21, e22, e23, e24, e25, e26⟩ := ct_nums h
  have f21 := h.row.frozen 21
  have f25 := h.row.frozen 25
  have f26 := h.row.frozen 26
  have ca := ct_reg h ha
  have fa := h.row.frozen a
  have na : (a : Int) < 8 := by omega
  have za : 0 ≤ (a : Int) := by omega
  clear h
  unfold insV
  go_enter Try.func130, Try.ntmps130
  go_wp2_with fail
  refine still_tail 8 (by kernel_rfl) (by kernel_rfl) ?_
  simp only [List.take_succ_cons, List.take_zero, List.drop_succ_cons, List.drop_zero]
  repeat still_step
  refine wpStill_nil ?_
  go_wp2_with fail
  go_end0
  exact ⟨rfl, t_reg ha (by repeat (first | with_reducible exact HT.out | with_reducible apply World.rowIs.alloc | with_reducible apply World.rowIs.drew | with_reducible apply row_drewN | with_reducible apply World.rowIs.set)), (by repeat (first | with_reducible exact Ch.refl _ _ | (with_reducible refine Ch.setN ?_ (by omega) _) | with_reducible apply Ch.setB | with_reducible apply Ch.alloc | with_reducible apply Ch.drew | with_reducible apply Ch.drewN | (with_reducible refine Ch.trans ?_ (by assumption))))⟩
set_option maxRecDepth 100000 in
set_option maxHeartbeats 4000000 in
theorem do_add (R B : Nat) (t : RT) (a b c : Nat) (w : World) (h : IsT w B t) (ha : a < 8) (hb : b < 8) (hc : c < 8) :
    Calls Try.prog 130 #[.pointer (some ⟨R, 0, none⟩), .pointer (some ⟨B, 0, none⟩), insV ⟨2, a, b, c⟩] w fun e w' => e = .returned (.tuple #[]) ∧ IsT w' B { t with regs := upd t.regs a (add (t.regs b) (t.regs c)) } ∧ Ch (· = B) w w' := by
  have HT : Hid (w.rowIs B 198 27 (rtF t)) := h
  have hlt := h.row.lt
  have hl1 : B < w.heap.size + 1 := by omega
  have hl2 : B < w.heap.size + 1 + 1 := by omega
  obtain ⟨e20, e21, e22, e23, e24, e25, e26⟩ := ct_nums h
  have f21 := h.row.frozen 21
  have f25 := h.row.frozen 25
  have f26 := h.row.frozen 26
  have ca := ct_reg h ha
  have fa := h.row.frozen a
  have na : (a : Int) < 8 := by omega
  have za : 0 ≤ (a : Int) := by omega
  have cb := ct_reg h hb
  have fb := h.row.frozen b
  have nb : (b : Int) < 8 := by omega
  have zb : 0 ≤ (b : Int) := by omega
  have cc := ct_reg h hc
  have fc := h.row.frozen c
  have nc : (c : Int) < 8 := by omega
  have zc : 0 ≤ (c : Int) := by omega
  clear h
  unfold insV
  go_enter Try.func130, Try.ntmps130
  go_wp2_with fail
  refine still_tail 21 (by kernel_rfl) (by kernel_rfl) ?_
  simp only [List.take_succ_cons, List.take_zero, List.drop_succ_cons, List.drop_zero]
  repeat (first | still_step | still_call ((Ref1.add_ref _ _ _).mono fun _ _ ⟨he, hw⟩ => ⟨he, hw.symm⟩))
  refine wpStill_nil ?_
  go_wp2_with fail
  go_end0
  exact ⟨rfl, t_reg ha (by repeat (first | with_reducible exact HT.out | with_reducible apply World.rowIs.alloc | with_reducible apply World.rowIs.drew | with_reducible apply row_drewN | with_reducible apply World.rowIs.set)), (by repeat (first | with_reducible exact Ch.refl _ _ | (with_reducible refine Ch.setN ?_ (by omega) _) | with_reducible apply Ch.setB | with_reducible apply Ch.alloc | with_reducible apply Ch.drew | with_reducible apply Ch.drewN | (with_reducible refine Ch.trans ?_ (by assumption))))⟩
set_option maxRecDepth 100000 in
set_option maxHeartbeats 4000000 in
theorem do_sub (R B : Nat) (t : RT) (a b c : Nat) (w : World) (h : IsT w B t) (ha : a < 8) (hb : b < 8) (hc : c < 8) :
    Calls Try.prog 130 #[.pointer (some ⟨R, 0, none⟩), .pointer (some ⟨B, 0, none⟩), insV ⟨3, a, b, c⟩] w fun e w' => e = .returned (.tuple #[]) ∧ IsT w' B { t with regs := upd t.regs a (sub (t.regs b) (t.regs c)) } ∧ Ch (· = B) w w' := by
  have HT : Hid (w.rowIs B 198 27 (rtF t)) := h
  have hlt := h.row.lt
  have hl1 : B < w.heap.size + 1 := by omega
  have hl2 : B < w.heap.size + 1 + 1 := by omega
  obtain ⟨e20, e21, e22, e23, e24, e25, e26⟩ := ct_nums h
  have f21 := h.row.frozen 21
  have f25 := h.row.frozen 25
  have f26 := h.row.frozen 26
  have ca := ct_reg h ha
  have fa := h.row.frozen a
  have na : (a : Int) < 8 := by omega
  have za : 0 ≤ (a : Int) := by omega
  have cb := ct_reg h hb
  have fb := h.row.frozen b
  have nb : (b : Int) < 8 := by omega
  have zb : 0 ≤ (b : Int) := by omega
  have cc := ct_reg h hc
  have fc := h.row.frozen c
  have nc : (c : Int) < 8 := by omega
  have zc : 0 ≤ (c : Int) := by omega
  clear h
  unfold insV
  go_enter Try.func130, Try.ntmps130
  go_wp2_with fail
  refine still_tail 21 (by kernel_rfl) (by kernel_rfl) ?_
  simp only [List.take_succ_cons, List.take_zero, List.drop_succ_cons, List.drop_zero]
  repeat (first | still_step | still_call ((Ref1.sub_ref _ _ _).mono fun _ _ ⟨he, hw⟩ => ⟨he, hw.symm⟩))
  refine wpStill_nil ?_
  go_wp2_with fail
  go_end0
  exact ⟨rfl, t_reg ha (by repeat (first | with_reducible exact HT.out | with_reducible apply World.rowIs.alloc | with_reducible apply World.rowIs.drew | with_reducible apply row_drewN | with_reducible apply World.rowIs.set)), (by repeat (first | with_reducible exact Ch.refl _ _ | (with_reducible refine Ch.setN ?_ (by omega) _) | with_reducible apply Ch.setB | with_reducible apply Ch.alloc | with_reducible apply Ch.drew | with_reducible apply Ch.drewN | (with_reducible refine Ch.trans ?_ (by assumption))))⟩
set_option maxRecDepth 100000 in
set_option maxHeartbeats 4000000 in
theorem do_mul (R B : Nat) (t : RT) (a b c : Nat) (w : World) (h : IsT w B t) (ha : a < 8) (hb : b < 8) (hc : c < 8) :
    Calls Try.prog 130 #[.pointer (some ⟨R, 0, none⟩), .pointer (some ⟨B, 0, none⟩), insV ⟨4, a, b, c⟩] w fun e w' => e = .returned (.tuple #[]) ∧ IsT w' B { t with regs := upd t.regs a (mul (t.regs b) (t.regs c)) } ∧ Ch (· = B) w w' := by
  have HT : Hid (w.rowIs B 198 27 (rtF t)) := h
  have hlt := h.row.lt
  have hl1 : B < w.heap.size + 1 := by omega
  have hl2 : B < w.heap.size + 1 + 1 := by omega
  obtain ⟨e20, e21, e22, e23, e24, e25, e26⟩ := ct_nums h
  have f21 := h.row.frozen 21
  have f25 := h.row.frozen 25
  have f26 := h.row.frozen 26
  have ca := ct_reg h ha
  have fa := h.row.frozen a
  have na : (a : Int) < 8 := by omega
  have za : 0 ≤ (a : Int) := by omega
  have cb := ct_reg h hb
  have fb := h.row.frozen b
  have nb : (b : Int) < 8 := by omega
  have zb : 0 ≤ (b : Int) := by omega
  have cc := ct_reg h hc
  have fc := h.row.frozen c
  have nc : (c : Int) < 8 := by omega
  have zc : 0 ≤ (c : Int) := by omega
  clear h
  unfold insV
  go_enter Try.func130, Try.ntmps130
  go_wp2_with fail
  refine still_tail 21 (by kernel_rfl) (by kernel_rfl) ?_
  simp only [List.take_succ_cons, List.take_zero, List.drop_succ_cons, List.drop_zero]
  repeat (first | still_step | still_call ((Ref1.mul_ref _ _ _).mono fun _ _ ⟨he, hw⟩ => ⟨he, hw.symm⟩))
  refine wpStill_nil ?_
  go_wp2_with fail
  go_end0
  exact ⟨rfl, t_reg ha (by repeat (first | with_reducible exact HT.out | with_reducible apply World.rowIs.alloc | with_reducible apply World.rowIs.drew | with_reducible apply row_drewN | with_reducible apply World.rowIs.set)), (by repeat (first | with_reducible exact Ch.refl _ _ | (with_reducible refine Ch.setN ?_ (by omega) _) | with_reducible apply Ch.setB | with_reducible apply Ch.alloc | with_reducible apply Ch.drew | with_reducible apply Ch.drewN | (with_reducible refine Ch.trans ?_ (by assumption))))⟩
set_option maxRecDepth 100000 in
set_option maxHeartbeats 4000000 in
theorem do_less (R B : Nat) (t : RT) (a b c : Nat) (w : World) (h : IsT w B t) (ha : a < 8) (hb : b < 8) (hc : c < 8) :
    Calls Try.prog 130 #[.pointer (some ⟨R, 0, none⟩), .pointer (some ⟨B, 0, none⟩), insV ⟨6, a, b, c⟩] w fun e w' => e = .returned (.tuple #[]) ∧ IsT w' B { t with regs := upd t.regs a (lessv (t.regs b) (t.regs c)) } ∧ Ch (· = B) w w' := by
  have HT : Hid (w.rowIs B 198 27 (rtF t)) := h
  have hlt := h.row.lt
  have hl1 : B < w.heap.size + 1 := by omega
  have hl2 : B < w.heap.size + 1 + 1 := by omega
  obtain ⟨e20, e21, e22, e23, e24, e25, e26⟩ := ct_nums h
  have f21 := h.row.frozen 21
  have f25 := h.row.frozen 25
  have f26 := h.row.frozen 26
  have ca := ct_reg h ha
  have fa := h.row.frozen a
  have na : (a : Int) < 8 := by omega
  have za : 0 ≤ (a : Int) := by omega
  have cb := ct_reg h hb
  have fb := h.row.frozen b
  have nb : (b : Int) < 8 := by omega
  have zb : 0 ≤ (b : Int) := by omega
  have cc := ct_reg h hc
  have fc := h.row.frozen c
  have nc : (c : Int) < 8 := by omega
  have zc : 0 ≤ (c : Int) := by omega
  clear h
  unfold insV
  go_enter Try.func130, Try.ntmps130
  go_wp2_with fail
  refine still_tail 21 (by kernel_rfl) (by kernel_rfl) ?_
  simp only [List.take_succ_cons, List.take_zero, List.drop_succ_cons, List.drop_zero]
  repeat (first | still_step | still_call ((Ref1.less_ref _ _ _).mono fun _ _ ⟨he, hw⟩ => ⟨he, hw.symm⟩))
  refine wpStill_nil ?_
  go_wp2_with fail
  go_end0
  exact ⟨rfl, t_reg ha (by repeat (first | with_reducible exact HT.out | with_reducible apply World.rowIs.alloc | with_reducible apply World.rowIs.drew | with_reducible apply row_drewN | with_reducible apply World.rowIs.set)), (by repeat (first | with_reducible exact Ch.refl _ _ | (with_reducible refine Ch.setN ?_ (by omega) _) | with_reducible apply Ch.setB | with_reducible apply Ch.alloc | with_reducible apply Ch.drew | with_reducible apply Ch.drewN | (with_reducible refine Ch.trans ?_ (by assumption))))⟩
set_option maxRecDepth 100000 in
set_option maxHeartbeats 4000000 in
theorem do_div_no (R B : Nat) (t : RT) (a : Int) (b c : Nat) (w : World) (h : IsT w B t) (hb : b < 8) (hc : c < 8) (h0 : (wrap32 (t.regs c) == 0) = true) :
    Calls Try.prog 130 #[.pointer (some ⟨R, 0, none⟩), .pointer (some ⟨B, 0, none⟩), insV ⟨5, a, b, c⟩] w fun e w' => e = .returned (.tuple #[]) ∧ IsT w' B { t with how := 2 } ∧ Ch (· = B) w w' := by
  have HT : Hid (w.rowIs B 198 27 (rtF t)) := h
  have hlt := h.row.lt
  have hl1 : B < w.heap.size + 1 := by omega
  have hl2 : B < w.heap.size + 1 + 1 := by omega
  obtain ⟨e20, e21, e22, e23, e24, e25, e26⟩ := ct_nums h
  have f21 := h.row.frozen 21
  have f25 := h.row.frozen 25
  have f26 := h.row.frozen 26
  have cb := ct_reg h hb
  have fb := h.row.frozen b
  have nb : (b : Int) < 8 := by omega
  have zb : 0 ≤ (b : Int) := by omega
  have cc := ct_reg h hc
  have fc := h.row.frozen c
  have nc : (c : Int) < 8 := by omega
  have zc : 0 ≤ (c : Int) := by omega
  clear h
  unfold insV
  go_enter Try.func130, Try.ntmps130
  go_wp2_with fail
  go_quiet ((go_at_call 160; exact Calls.quiet_of_same ((Ref1.div_ref_no _ _ _ h0).mono fun _ _ ⟨he, hw⟩ => ⟨he, hw.symm⟩)))
  clear h0
  go_wp2_with fail
  exact bodyPost_ret (v := .tuple #[]) (by simp [results, Try.results130, go_sem]) rfl ⟨rfl, t_how (by repeat (first | with_reducible exact HT.out | with_reducible apply World.rowIs.alloc | with_reducible apply World.rowIs.drew | with_reducible apply row_drewN | with_reducible apply World.rowIs.set)), (by repeat (first | with_reducible exact Ch.refl _ _ | (with_reducible refine Ch.setN ?_ (by omega) _) | with_reducible apply Ch.setB | with_reducible apply Ch.alloc | with_reducible apply Ch.drew | with_reducible apply Ch.drewN | (with_reducible refine Ch.trans ?_ (by assumption))))⟩
set_option maxRecDepth 100000 in
set_option maxHeartbeats 4000000 in
theorem do_div (R B : Nat) (t : RT) (a b c : Nat) (w : World) (h : IsT w B t) (ha : a < 8) (hb : b < 8) (hc : c < 8) (h0 : (wrap32 (t.regs c) == 0) = false) :
    Calls Try.prog 130 #[.pointer (some ⟨R, 0, none⟩), .pointer (some ⟨B, 0, none⟩), insV ⟨5, a, b, c⟩] w fun e w' => e = .returned (.tuple #[]) ∧ IsT w' B { t with regs := upd t.regs a (divq (t.regs b) (t.regs c)) } ∧ Ch (· = B) w w' := by
  have HT : Hid (w.rowIs B 198 27 (rtF t)) := h
  have hlt := h.row.lt
  have hl1 : B < w.heap.size + 1 := by omega
  have hl2 : B < w.heap.size + 1 + 1 := by omega
  obtain ⟨e20, e21, e22, e23, e24, e25, e26⟩ := ct_nums h
  have f21 := h.row.frozen 21
  have f25 := h.row.frozen 25
  have f26 := h.row.frozen 26
  have ca := ct_reg h ha
  have fa := h.row.frozen a
  have na : (a : Int) < 8 := by omega
  have za : 0 ≤ (a : Int) := by omega
  have cb := ct_reg h hb
  have fb := h.row.frozen b
  have nb : (b : Int) < 8 := by omega
  have zb : 0 ≤ (b : Int) := by omega
  have cc := ct_reg h hc
  have fc := h.row.frozen c
  have nc : (c : Int) < 8 := by omega
  have zc : 0 ≤ (c : Int) := by omega
  clear h
  unfold insV
  go_enter Try.func130, Try.ntmps130
  go_wp2_with fail
  go_quiet ((go_at_call 160; exact Calls.quiet_of_same ((Ref1.div_ref_yes _ _ _ h0).mono fun _ _ ⟨he, hw⟩ => ⟨he, hw.symm⟩)))
  clear h0
  go_wp2_with fail
  refine still_tail 7 (by kernel_rfl) (by kernel_rfl) ?_
  simp only [List.take_succ_cons, List.take_zero, List.drop_succ_cons, List.drop_zero]
  repeat still_step
  refine wpStill_nil ?_
  go_wp2_with fail
  go_end0
  exact ⟨rfl, t_reg ha (by repeat (first | with_reducible exact HT.out | with_reducible apply World.rowIs.alloc | with_reducible apply World.rowIs.drew | with_reducible apply row_drewN | with_reducible apply World.rowIs.set)), (by repeat (first | with_reducible exact Ch.refl _ _ | (with_reducible refine Ch.setN ?_ (by omega) _) | with_reducible apply Ch.setB | with_reducible apply Ch.alloc | with_reducible apply Ch.drew | with_reducible apply Ch.drewN | (with_reducible refine Ch.trans ?_ (by assumption))))⟩
set_option maxRecDepth 100000 in
set_option maxHeartbeats 4000000 in
theorem do_jump (R B : Nat) (t : RT) (a b c : Int) (w : World) (h : IsT w B t)  :
    Calls Try.prog 130 #[.pointer (some ⟨R, 0, none⟩), .pointer (some ⟨B, 0, none⟩), insV ⟨7, a, b, c⟩] w fun e w' => e = .returned (.tuple #[]) ∧ IsT w' B { t with place := a } ∧ Ch (· = B) w w' := by
  have HT : Hid (w.rowIs B 198 27 (rtF t)) := h
  have hlt := h.row.lt
  have hl1 : B < w.heap.size + 1 := by omega
  have hl2 : B < w.heap.size + 1 + 1 := by omega
  obtain ⟨e20, e21, e22, e23, e24, e25, e26⟩ := ct_nums h
  have f21 := h.row.frozen 21
  have f25 := h.row.frozen 25
  have f26 := h.row.frozen 26
  clear h
  unfold insV
  go_enter Try.func130, Try.ntmps130
  go_wp2_with fail
  go_end0
  exact ⟨rfl, t_place (by repeat (first | with_reducible exact HT.out | with_reducible apply World.rowIs.alloc | with_reducible apply World.rowIs.drew | with_reducible apply row_drewN | with_reducible apply World.rowIs.set)), (by repeat (first | with_reducible exact Ch.refl _ _ | (with_reducible refine Ch.setN ?_ (by omega) _) | with_reducible apply Ch.setB | with_reducible apply Ch.alloc | with_reducible apply Ch.drew | with_reducible apply Ch.drewN | (with_reducible refine Ch.trans ?_ (by assumption))))⟩
set_option maxRecDepth 100000 in
set_option maxHeartbeats 4000000 in
theorem do_zero_yes (R B : Nat) (t : RT) (a : Nat) (b c : Int) (w : World) (h : IsT w B t) (ha : a < 8) (h0 : t.regs a = 0) :
    Calls Try.prog 130 #[.pointer (some ⟨R, 0, none⟩), .pointer (some ⟨B, 0, none⟩), insV ⟨8, a, b, c⟩] w fun e w' => e = .returned (.tuple #[]) ∧ IsT w' B { t with place := b } ∧ Ch (· = B) w w' := by
  have HT : Hid (w.rowIs B 198 27 (rtF t)) := h
  have hlt := h.row.lt
  have hl1 : B < w.heap.size + 1 := by omega
  have hl2 : B < w.heap.size + 1 + 1 := by omega
  obtain ⟨e20, e21, e22, e23, e24, e25, e26⟩ := ct_nums h
  have f21 := h.row.frozen 21
  have f25 := h.row.frozen 25
  have f26 := h.row.frozen 26
  have ca := ct_reg h ha
  have fa := h.row.frozen a
  have na : (a : Int) < 8 := by omega
  have za : 0 ≤ (a : Int) := by omega
  rw [h0] at ca
  clear h
  unfold insV
  go_enter Try.func130, Try.ntmps130
  go_wp2_with fail
  go_quiet (fail)
  go_wp2_with fail
  go_end0
  exact ⟨rfl, t_place (by repeat (first | with_reducible exact HT.out | with_reducible apply World.rowIs.alloc | with_reducible apply World.rowIs.drew | with_reducible apply row_drewN | with_reducible apply World.rowIs.set)), (by repeat (first | with_reducible exact Ch.refl _ _ | (with_reducible refine Ch.setN ?_ (by omega) _) | with_reducible apply Ch.setB | with_reducible apply Ch.alloc | with_reducible apply Ch.drew | with_reducible apply Ch.drewN | (with_reducible refine Ch.trans ?_ (by assumption))))⟩
set_option maxRecDepth 100000 in
set_option maxHeartbeats 4000000 in
theorem do_zero_no (R B : Nat) (t : RT) (a : Nat) (b c : Int) (w : World) (h : IsT w B t) (ha : a < 8) (h0 : (t.regs a == 0) = false) :
    Calls Try.prog 130 #[.pointer (some ⟨R, 0, none⟩), .pointer (some ⟨B, 0, none⟩), insV ⟨8, a, b, c⟩] w fun e w' => e = .returned (.tuple #[]) ∧ IsT w' B t ∧ Ch (· = B) w w' := by
  have HT : Hid (w.rowIs B 198 27 (rtF t)) := h
  have hlt := h.row.lt
  have hl1 : B < w.heap.size + 1 := by omega
  have hl2 : B < w.heap.size + 1 + 1 := by omega
  obtain ⟨e20, e21, e22, e23, e24, e25, e26⟩ := ct_nums h
  have f21 := h.row.frozen 21
  have f25 := h.row.frozen 25
  have f26 := h.row.frozen 26
  have ca := ct_reg h ha
  have fa := h.row.frozen a
  have na : (a : Int) < 8 := by omega
  have za : 0 ≤ (a : Int) := by omega
  clear h
  unfold insV
  go_enter Try.func130, Try.ntmps130
  go_wp2_with fail
  go_quiet (fail)
  go_wp2_with fail
  go_end0
  exact ⟨rfl, isT_of (by repeat (first | with_reducible exact HT.out | with_reducible apply World.rowIs.alloc | with_reducible apply World.rowIs.drew | with_reducible apply row_drewN | with_reducible apply World.rowIs.set)), (by repeat (first | with_reducible exact Ch.refl _ _ | (with_reducible refine Ch.setN ?_ (by omega) _) | with_reducible apply Ch.setB | with_reducible apply Ch.alloc | with_reducible apply Ch.drew | with_reducible apply Ch.drewN | (with_reducible refine Ch.trans ?_ (by assumption))))⟩
set_option maxRecDepth 100000 in
set_option maxHeartbeats 4000000 in
theorem do_ret (R B : Nat) (t : RT) (a : Nat) (b c : Int) (w : World) (h : IsT w B t) (ha : a < 8) :
    Calls Try.prog 130 #[.pointer (some ⟨R, 0, none⟩), .pointer (some ⟨B, 0, none⟩), insV ⟨15, a, b, c⟩] w fun e w' => e = .returned (.tuple #[]) ∧ IsT w' B { t with how := 1, val := t.regs a } ∧ Ch (· = B) w w' := by
  have HT : Hid (w.rowIs B 198 27 (rtF t)) := h
  have hlt := h.row.lt
  have hl1 : B < w.heap.size + 1 := by omega
  have hl2 : B < w.heap.size + 1 + 1 := by omega
  obtain ⟨e20, e21, e22, e23, e24, e25, e26⟩ := ct_nums h
  have f21 := h.row.frozen 21
  have f25 := h.row.frozen 25
  have f26 := h.row.frozen 26
  have ca := ct_reg h ha
  have fa := h.row.frozen a
  have na : (a : Int) < 8 := by omega
  have za : 0 ≤ (a : Int) := by omega
  clear h
  unfold insV
  go_enter Try.func130, Try.ntmps130
  go_wp2_with fail
  refine still_tail 11 (by kernel_rfl) (by kernel_rfl) ?_
  simp only [List.take_succ_cons, List.take_zero, List.drop_succ_cons, List.drop_zero]
  repeat still_step
  refine wpStill_nil ?_
  go_wp2_with fail
  go_end0
  exact ⟨rfl, t_end (by repeat (first | with_reducible exact HT.out | with_reducible apply World.rowIs.alloc | with_reducible apply World.rowIs.drew | with_reducible apply row_drewN | with_reducible apply World.rowIs.set)), (by repeat (first | with_reducible exact Ch.refl _ _ | (with_reducible refine Ch.setN ?_ (by omega) _) | with_reducible apply Ch.setB | with_reducible apply Ch.alloc | with_reducible apply Ch.drew | with_reducible apply Ch.drewN | (with_reducible refine Ch.trans ?_ (by assumption))))⟩
set_option maxRecDepth 100000 in
set_option maxHeartbeats 4000000 in
theorem ot_join_no (R B : Nat) (t : RT) (a : Int) (b : Nat) (c : Int) (w : World) (h : IsT w B t) (hb : b < 4) (h0 : t.has b = false) :
    Calls Try.prog 161 #[.pointer (some ⟨R, 0, none⟩), .pointer (some ⟨B, 0, none⟩), insV ⟨10, a, b, c⟩] w fun e w' => e = .returned (.tuple #[]) ∧ IsT w' B { t with how := 7 } ∧ Ch (· = B) w w' := by
  have HT : Hid (w.rowIs B 198 27 (rtF t)) := h
  have hlt := h.row.lt
  have hl1 : B < w.heap.size + 1 := by omega
  have hl2 : B < w.heap.size + 1 + 1 := by omega
  obtain ⟨e20, e21, e22, e23, e24, e25, e26⟩ := ct_nums h
  have f21 := h.row.frozen 21
  have f25 := h.row.frozen 25
  have f26 := h.row.frozen 26
  have kb := ct_has h hb
  have fkb := h.row.frozen (8 + b)
  obtain ⟨ib, jb⟩ := ct_hand h hb
  have mb : (b : Int) < 4 := by omega
  have yb : 0 ≤ (b : Int) := by omega
  rw [h0] at kb
  clear h
  unfold insV
  go_enter Try.func161, Try.ntmps161
  go_wp2_with fail
  go_quiet (fail)
  go_wp2_with fail
  exact bodyPost_ret (v := .tuple #[]) (by simp [results, Try.results161, go_sem]) rfl ⟨rfl, t_how (by repeat (first | with_reducible exact HT.out | with_reducible apply World.rowIs.alloc | with_reducible apply World.rowIs.drew | with_reducible apply row_drewN | with_reducible apply World.rowIs.set)), (by repeat (first | with_reducible exact Ch.refl _ _ | (with_reducible refine Ch.setN ?_ (by omega) _) | with_reducible apply Ch.setB | with_reducible apply Ch.alloc | with_reducible apply Ch.drew | with_reducible apply Ch.drewN | (with_reducible refine Ch.trans ?_ (by assumption))))⟩
end Go.Proofs.Ytonndofbnhnkpaa.Rf
