/- The contracts of the reference's numbers of 32 bits: they are package value's. The reference's evaluator: an instruction that only turns its task. The reference's evaluator: an instruction that others hear of. -/
import Derived.Test.YtonndofbnhnkpaaGreatVal
import Derived.Test.YtonndofbnhnkpaaGreatRfA
import Derived.BigRegion
set_option linter.unusedVariables false
set_option linter.unusedSimpArgs false
set_option linter.unusedSectionVars false
namespace Go.Proofs.YtonndofbnhnkpaaGreat.Ref1
open Go.RowKit Num Val
theorem wrap_any (a : Int) (w : World) :
    Calls Tryz.prog 39 #[.int .i64 a] w fun e w' => e = .returned (.int .i64 (wrap32 a)) ∧ w = w' := by
  have hb := and_two32 a
  by_cases h : a % 4294967296 < 2147483648
  all_goals
    go_enter Tryz.func39, Tryz.ntmps39
    go_wp2
    go_ret
    exact ⟨ret_i (by unfold wrap32; omega), rfl⟩
theorem add_ref (a b : Int) (w : World) :
    Calls Tryz.prog 66 #[.int .i64 a, .int .i64 b] w fun e w' => e = .returned (.int .i64 (add a b)) ∧ w = w' := by
  have l1 := w32_lo a
  have l2 := w32_hi a
  have l3 := w32_lo b
  have l4 := w32_hi b
  go_enter Tryz.func66, Tryz.ntmps66
  go_wp2_with (go_at_call 39; refine (wrap_any _ _).mono ?_; rintro e w' ⟨rfl, rfl⟩)
  go_ret
  exact ⟨rfl, rfl⟩
theorem sub_ref (a b : Int) (w : World) :
    Calls Tryz.prog 67 #[.int .i64 a, .int .i64 b] w fun e w' => e = .returned (.int .i64 (sub a b)) ∧ w = w' := by
  have l1 := w32_lo a
  have l2 := w32_hi a
  have l3 := w32_lo b
  have l4 := w32_hi b
  go_enter Tryz.func67, Tryz.ntmps67
  go_wp2_with (go_at_call 39; refine (wrap_any _ _).mono ?_; rintro e w' ⟨rfl, rfl⟩)
  go_ret
  exact ⟨rfl, rfl⟩
theorem mul_ref (a b : Int) (w : World) :
    Calls Tryz.prog 68 #[.int .i64 a, .int .i64 b] w fun e w' => e = .returned (.int .i64 (mul a b)) ∧ w = w' := by
  go_enter Tryz.func68, Tryz.ntmps68
  go_wp2_with (go_at_call 39; refine (wrap_any _ _).mono ?_; rintro e w' ⟨rfl, rfl⟩)
  go_ret
  exact ⟨ret_i (by simp only [w32_64, mul]), rfl⟩
theorem less_ref_yes (a b : Int) (w : World) (h : wrap32 a < wrap32 b) :
    Calls Tryz.prog 69 #[.int .i64 a, .int .i64 b] w fun e w' => e = .returned (.int .i64 1) ∧ w = w' := by
  go_enter Tryz.func69, Tryz.ntmps69
  go_wp2_with (go_at_call 39; refine (wrap_any _ _).mono ?_; rintro e w' ⟨rfl, rfl⟩)
  go_ret
  exact ⟨rfl, rfl⟩
theorem less_ref_no (a b : Int) (w : World) (h : ¬ wrap32 a < wrap32 b) :
    Calls Tryz.prog 69 #[.int .i64 a, .int .i64 b] w fun e w' => e = .returned (.int .i64 0) ∧ w = w' := by
  go_enter Tryz.func69, Tryz.ntmps69
  go_wp2_with (go_at_call 39; refine (wrap_any _ _).mono ?_; rintro e w' ⟨rfl, rfl⟩)
  go_ret
  exact ⟨rfl, rfl⟩
theorem div_ref_no (a b : Int) (w : World) (h : (wrap32 b == 0) = true) :
    Calls Tryz.prog 70 #[.int .i64 a, .int .i64 b] w fun e w' => e = .returned (.tuple #[.int .i64 0, .bool false]) ∧ w = w' := by
  go_enter Tryz.func70, Tryz.ntmps70
  go_wp2_with (go_at_call 39; refine (wrap_any _ _).mono ?_; rintro e w' ⟨rfl, rfl⟩)
  go_ret2
  exact ⟨rfl, rfl⟩
theorem div_ref_yes (a b : Int) (w : World) (h : (wrap32 b == 0) = false) :
    Calls Tryz.prog 70 #[.int .i64 a, .int .i64 b] w fun e w' => e = .returned (.tuple #[.int .i64 (divq a b), .bool true]) ∧ w = w' := by
  have h' : ¬ wrap32 b = 0 := by simpa using h
  go_enter Tryz.func70, Tryz.ntmps70
  go_wp2_with (go_at_call 39; refine (wrap_any _ _).mono ?_; rintro e w' ⟨rfl, rfl⟩)
  go_ret2
  exact ⟨ret_ib (by simp only [w32_64, divq]), rfl⟩
theorem less_ref (a b : Int) (w : World) :
    Calls Tryz.prog 69 #[.int .i64 a, .int .i64 b] w fun e w' => e = .returned (.int .i64 (lessv a b)) ∧ w = w' := by
  by_cases h : wrap32 a < wrap32 b
  · rw [show lessv a b = 1 from (lessv_one a b).2 h]; exact less_ref_yes a b w h
  · rw [show lessv a b = 0 by unfold lessv; rw [if_neg h]]; exact less_ref_no a b w h
end Go.Proofs.YtonndofbnhnkpaaGreat.Ref1
set_option linter.unusedVariables false
set_option linter.unusedSimpArgs false
set_option linter.unusedSectionVars false
namespace Go.Proofs.YtonndofbnhnkpaaGreat.Rf
open Go.RowKit Num KeyM KeyW StatW Blk VmA VmG Prg EvM
set_option maxRecDepth 100000 in
set_option maxHeartbeats 4000000 in
theorem do_const (R B : Nat) (t : RT) (a : Nat) (b c : Int) (w : World) (h : IsT w B t) (ha : a < 8) :
    Calls Tryz.prog 40 #[.pointer (some ⟨R, 0, none⟩), .pointer (some ⟨B, 0, none⟩), insV ⟨1, a, b, c⟩] w fun e w' => e = .returned (.tuple #[]) ∧ IsT w' B { t with regs := upd t.regs a b } ∧ Ch (· = B) w w' := by
  have HT : Hid (w.rowIs B 100 27 (rtF t)) := h
  have hlt := h.row.lt
  have hl1 : B < w.heap.size + 1 := by omega
  have hl2 : B < w.heap.size + 1 + 1 := by omega
  obtain ⟨e20, e21, e22, e23, e24, e25, e26⟩ := ct_nums h
  have f21 := h.row.frozen 21
  have f25 := h.row.frozen 25
  have f26 := h.row.frozen 26
  have ca := ct_reg h ha
  have fa := h.row.frozen a
  have na : (a : Int) < 8 := by omega
  have za : 0 ≤ (a : Int) := by omega
  clear h
  unfold insV
  go_enter Tryz.func40, Tryz.ntmps40
  go_wp2_with fail
  refine still_tail 8 (by kernel_rfl) (by kernel_rfl) ?_
  simp only [List.take_succ_cons, List.take_zero, List.drop_succ_cons, List.drop_zero]
  repeat still_step
  refine wpStill_nil ?_
  go_wp2_with fail
  go_end0
  exact ⟨rfl, t_reg ha (by repeat (first | with_reducible exact HT.out | with_reducible apply World.rowIs.alloc | with_reducible apply World.rowIs.drew | with_reducible apply row_drewN | with_reducible apply World.rowIs.set)), (by repeat (first | with_reducible exact Ch.refl _ _ | (with_reducible refine Ch.setN ?_ (by omega) _) | with_reducible apply Ch.setB | with_reducible apply Ch.alloc | with_reducible apply Ch.drew | with_reducible apply Ch.drewN | (with_reducible refine Ch.trans ?_ (by assumption))))⟩
set_option maxRecDepth 100000 in
set_option maxHeartbeats 4000000 in
theorem do_add (R B : Nat) (t : RT) (a b c : Nat) (w : World) (h : IsT w B t) (ha : a < 8) (hb : b < 8) (hc : c < 8) :
    Calls Tryz.prog 40 #[.pointer (some ⟨R, 0, none⟩), .pointer (some ⟨B, 0, none⟩), insV ⟨2, a, b, c⟩] w fun e w' => e = .returned (.tuple #[]) ∧ IsT w' B { t with regs := upd t.regs a (add (t.regs b) (t.regs c)) } ∧ Ch (· = B) w w' := by
  have HT : Hid (w.rowIs B 100 27 (rtF t)) := h
  have hlt := h.row.lt
  have hl1 : B < w.heap.size + 1 := by omega
  have hl2 : B < w.heap.size + 1 + 1 := by omega
  obtain ⟨e20, e21, e22, e23, e24, e25, e26⟩ := ct_nums h
  have f21 := h.row.frozen 21
  have f25 := h.row.frozen 25
  have f26 := h.row.frozen 26
  have ca := ct_reg h ha
  have fa := h.row.frozen a
  have na : (a : Int) < 8 := by omega
  have za : 0 ≤ (a : Int) := by omega
  have cb := ct_reg h hb
  have fb := h.row.frozen b
  have nb : (b : Int) < 8 := by omega
  have zb : 0 ≤ (b : Int) := by omega
  have cc := ct_reg h hc
  have fc := h.row.frozen c
  have nc : (c : Int) < 8 := by omega
  have zc : 0 ≤ (c : Int) := by omega
  clear h
  unfold insV
  go_enter Tryz.func40, Tryz.ntmps40
  go_wp2_with fail
  refine still_tail 21 (by kernel_rfl) (by kernel_rfl) ?_
  simp only [List.take_succ_cons, List.take_zero, List.drop_succ_cons, List.drop_zero]
  repeat (first | still_step | still_call ((Ref1.add_ref _ _ _).mono fun _ _ ⟨he, hw⟩ => ⟨he, hw.symm⟩))
  refine wpStill_nil ?_
  go_wp2_with fail
  go_end0
  exact ⟨rfl, t_reg ha (by repeat (first | with_reducible exact HT.out | with_reducible apply World.rowIs.alloc | with_reducible apply World.rowIs.drew | with_reducible apply row_drewN | with_reducible apply World.rowIs.set)), (by repeat (first | with_reducible exact Ch.refl _ _ | (with_reducible refine Ch.setN ?_ (by omega) _) | with_reducible apply Ch.setB | with_reducible apply Ch.alloc | with_reducible apply Ch.drew | with_reducible apply Ch.drewN | (with_reducible refine Ch.trans ?_ (by assumption))))⟩
set_option maxRecDepth 100000 in
set_option maxHeartbeats 4000000 in
theorem do_sub (R B : Nat) (t : RT) (a b c : Nat) (w : World) (h : IsT w B t) (ha : a < 8) (hb : b < 8) (hc : c < 8) :
    Calls Tryz.prog 40 #[.pointer (some ⟨R, 0, none⟩), .pointer (some ⟨B, 0, none⟩), insV ⟨3, a, b, c⟩] w fun e w' => e = .returned (.tuple #[]) ∧ IsT w' B { t with regs := upd t.regs a (sub (t.regs b) (t.regs c)) } ∧ Ch (· = B) w w' := by
  have HT : Hid (w.rowIs B 100 27 (rtF t)) := h
  have hlt := h.row.lt
  have hl1 : B < w.heap.size + 1 := by omega
  have hl2 : B < w.heap.size + 1 + 1 := by omega
  obtain ⟨e20, e21, e22, e23, e24, e25, e26⟩ := ct_nums h
  have f21 := h.row.frozen 21
  have f25 := h.row.frozen 25
  have f26 := h.row.frozen 26
  have ca := ct_reg h ha
  have fa := h.row.frozen a
  have na : (a : Int) < 8 := by omega
  have za : 0 ≤ (a : Int) := by omega
  have cb := ct_reg h hb
  have fb := h.row.frozen b
  have nb : (b : Int) < 8 := by omega
  have zb : 0 ≤ (b : Int) := by omega
  have cc := ct_reg h hc
  have fc := h.row.frozen c
  have nc : (c : Int) < 8 := by omega
  have zc : 0 ≤ (c : Int) := by omega
  clear h
  unfold insV
  go_enter Tryz.func40, Tryz.ntmps40
  go_wp2_with fail
  refine still_tail 21 (by kernel_rfl) (by kernel_rfl) ?_
  simp only [List.take_succ_cons, List.take_zero, List.drop_succ_cons, List.drop_zero]
  repeat (first | still_step | still_call ((Ref1.sub_ref _ _ _).mono fun _ _ ⟨he, hw⟩ => ⟨he, hw.symm⟩))
  refine wpStill_nil ?_
  go_wp2_with fail
  go_end0
  exact ⟨rfl, t_reg ha (by repeat (first | with_reducible exact HT.out | with_reducible apply World.rowIs.alloc | with_reducible apply World.rowIs.drew | with_reducible apply row_drewN | with_reducible apply World.rowIs.set)), (by repeat (first | with_reducible exact Ch.refl _ _ | (with_reducible refine Ch.setN ?_ (by omega) _) | with_reducible apply Ch.setB | with_reducible apply Ch.alloc | with_reducible apply Ch.drew | with_reducible apply Ch.drewN | (with_reducible refine Ch.trans ?_ (by assumption))))⟩
set_option maxRecDepth 100000 in
set_option maxHeartbeats 4000000 in
theorem do_mul (R B : Nat) (t : RT) (a b c : Nat) (w : World) (h : IsT w B t) (ha : a < 8) (hb : b < 8) (hc : c < 8) :
    Calls Tryz.prog 40 #[.pointer (some ⟨R, 0, none⟩), .pointer (some ⟨B, 0, none⟩), insV ⟨4, a, b, c⟩] w fun e w' => e = .returned (.tuple #[]) ∧ IsT w' B { t with regs := upd t.regs a (mul (t.regs b) (t.regs c)) } ∧ Ch (· = B) w w' := by
  have HT : Hid (w.rowIs B 100 27 (rtF t)) := h
  have hlt := h.row.lt
  have hl1 : B < w.heap.size + 1 := by omega
  have hl2 : B < w.heap.size + 1 + 1 := by omega
  obtain ⟨e20, e21, e22, e23, e24, e25, e26⟩ := ct_nums h
  have f21 := h.row.frozen 21
  have f25 := h.row.frozen 25
  have f26 := h.row.frozen 26
  have ca := ct_reg h ha
  have fa := h.row.frozen a
  have na : (a : Int) < 8 := by omega
  have za : 0 ≤ (a : Int) := by omega
  have cb := ct_reg h hb
  have fb := h.row.frozen b
  have nb : (b : Int) < 8 := by omega
  have zb : 0 ≤ (b : Int) := by omega
  have cc := ct_reg h hc
  have fc := h.row.frozen c
  have nc : (c : Int) < 8 := by omega
  have zc : 0 ≤ (c : Int) := by omega
  clear h
  unfold insV
  go_enter Tryz.func40, Tryz.ntmps40
  go_wp2_with fail
  refine still_tail 21 (by kernel_rfl) (by kernel_rfl) ?_
  simp only [List.take_succ_cons, List.take_zero, List.drop_succ_cons, List.drop_zero]
  repeat (first | still_step | still_call ((Ref1.mul_ref _ _ _).mono fun _ _ ⟨he, hw⟩ => ⟨he, hw.symm⟩))
  refine wpStill_nil ?_
  go_wp2_with fail
  go_end0
  exact ⟨rfl, t_reg ha (by repeat (first | with_reducible exact HT.out | with_reducible apply World.rowIs.alloc | with_reducible apply World.rowIs.drew | with_reducible apply row_drewN | with_reducible apply World.rowIs.set)), (by repeat (first | with_reducible exact Ch.refl _ _ | (with_reducible refine Ch.setN ?_ (by omega) _) | with_reducible apply Ch.setB | with_reducible apply Ch.alloc | with_reducible apply Ch.drew | with_reducible apply Ch.drewN | (with_reducible refine Ch.trans ?_ (by assumption))))⟩
set_option maxRecDepth 100000 in
set_option maxHeartbeats 4000000 in
theorem do_less (R B : Nat) (t : RT) (a b c : Nat) (w : World) (h : IsT w B t) (ha : a < 8) (hb : b < 8) (hc : c < 8) :
    Calls Tryz.prog 40 #[.pointer (some ⟨R, 0, none⟩), .pointer (some ⟨B, 0, none⟩), insV ⟨6, a, b, c⟩] w fun e w' => e = .returned (.tuple #[]) ∧ IsT w' B { t with regs := upd t.regs a (lessv (t.regs b) (t.regs c)) } ∧ Ch (· = B) w w' := by
  have HT : Hid (w.rowIs B 100 27 (rtF t)) := h
  have hlt := h.row.lt
  have hl1 : B < w.heap.size + 1 := by omega
  have hl2 : B < w.heap.size + 1 + 1 := by omega
  obtain ⟨e20, e21, e22, e23, e24, e25, e26⟩ := ct_nums h
  have f21 := h.row.frozen 21
  have f25 := h.row.frozen 25
  have f26 := h.row.frozen 26
  have ca := ct_reg h ha
  have fa := h.row.frozen a
  have na : (a : Int) < 8 := by omega
  have za : 0 ≤ (a : Int) := by omega
  have cb := ct_reg h hb
  have fb := h.row.frozen b
  have nb : (b : Int) < 8 := by omega
  have zb : 0 ≤ (b : Int) := by omega
  have cc := ct_reg h hc
  have fc := h.row.frozen c
  have nc : (c : Int) < 8 := by omega
  have zc : 0 ≤ (c : Int) := by omega
  clear h
  unfold insV
  go_enter Tryz.func40, Tryz.ntmps40
  go_wp2_with fail
  refine still_tail 21 (by kernel_rfl) (by kernel_rfl) ?_
  simp only [List.take_succ_cons, List.take_zero, List.drop_succ_cons, List.drop_zero]
  repeat (first | still_step | still_call ((Ref1.less_ref _ _ _).mono fun _ _ ⟨he, hw⟩ => ⟨he, hw.symm⟩))
  refine wpStill_nil ?_
  go_wp2_with fail
  go_end0
  exact ⟨rfl, t_reg ha (by repeat (first | with_reducible exact HT.out | with_reducible apply World.rowIs.alloc | with_reducible apply World.rowIs.drew | with_reducible apply row_drewN | with_reducible apply World.rowIs.set)), (by repeat (first | with_reducible exact Ch.refl _ _ | (with_reducible refine Ch.setN ?_ (by omega) _) | with_reducible apply Ch.setB | with_reducible apply Ch.alloc | with_reducible apply Ch.drew | with_reducible apply Ch.drewN | (with_reducible refine Ch.trans ?_ (by assumption))))⟩
set_option maxRecDepth 100000 in
set_option maxHeartbeats 4000000 in
theorem do_div_no (R B : Nat) (t : RT) (a : Int) (b c : Nat) (w : World) (h : IsT w B t) (hb : b < 8) (hc : c < 8) (h0 : (wrap32 (t.regs c) == 0) = true) :
    Calls Tryz.prog 40 #[.pointer (some ⟨R, 0, none⟩), .pointer (some ⟨B, 0, none⟩), insV ⟨5, a, b, c⟩] w fun e w' => e = .returned (.tuple #[]) ∧ IsT w' B { t with how := 2 } ∧ Ch (· = B) w w' := by
  have HT : Hid (w.rowIs B 100 27 (rtF t)) := h
  have hlt := h.row.lt
  have hl1 : B < w.heap.size + 1 := by omega
  have hl2 : B < w.heap.size + 1 + 1 := by omega
  obtain ⟨e20, e21, e22, e23, e24, e25, e26⟩ := ct_nums h
  have f21 := h.row.frozen 21
  have f25 := h.row.frozen 25
  have f26 := h.row.frozen 26
  have cb := ct_reg h hb
  have fb := h.row.frozen b
  have nb : (b : Int) < 8 := by omega
  have zb : 0 ≤ (b : Int) := by omega
  have cc := ct_reg h hc
  have fc := h.row.frozen c
  have nc : (c : Int) < 8 := by omega
  have zc : 0 ≤ (c : Int) := by omega
  clear h
  unfold insV
  go_enter Tryz.func40, Tryz.ntmps40
  go_wp2_with fail
  go_quiet ((go_at_call 70; exact Calls.quiet_of_same ((Ref1.div_ref_no _ _ _ h0).mono fun _ _ ⟨he, hw⟩ => ⟨he, hw.symm⟩)))
  clear h0
  go_wp2_with fail
  exact bodyPost_ret (v := .tuple #[]) (by simp [results, Tryz.results40, go_sem]) rfl ⟨rfl, t_how (by repeat (first | with_reducible exact HT.out | with_reducible apply World.rowIs.alloc | with_reducible apply World.rowIs.drew | with_reducible apply row_drewN | with_reducible apply World.rowIs.set)), (by repeat (first | with_reducible exact Ch.refl _ _ | (with_reducible refine Ch.setN ?_ (by omega) _) | with_reducible apply Ch.setB | with_reducible apply Ch.alloc | with_reducible apply Ch.drew | with_reducible apply Ch.drewN | (with_reducible refine Ch.trans ?_ (by assumption))))⟩
set_option maxRecDepth 100000 in
set_option maxHeartbeats 4000000 in
theorem do_div (R B : Nat) (t : RT) (a b c : Nat) (w : World) (h : IsT w B t) (ha : a < 8) (hb : b < 8) (hc : c < 8) (h0 : (wrap32 (t.regs c) == 0) = false) :
    Calls Tryz.prog 40 #[.pointer (some ⟨R, 0, none⟩), .pointer (some ⟨B, 0, none⟩), insV ⟨5, a, b, c⟩] w fun e w' => e = .returned (.tuple #[]) ∧ IsT w' B { t with regs := upd t.regs a (divq (t.regs b) (t.regs c)) } ∧ Ch (· = B) w w' := by
  have HT : Hid (w.rowIs B 100 27 (rtF t)) := h
  have hlt := h.row.lt
  have hl1 : B < w.heap.size + 1 := by omega
  have hl2 : B < w.heap.size + 1 + 1 := by omega
  obtain ⟨e20, e21, e22, e23, e24, e25, e26⟩ := ct_nums h
  have f21 := h.row.frozen 21
  have f25 := h.row.frozen 25
  have f26 := h.row.frozen 26
  have ca := ct_reg h ha
  have fa := h.row.frozen a
  have na : (a : Int) < 8 := by omega
  have za : 0 ≤ (a : Int) := by omega
  have cb := ct_reg h hb
  have fb := h.row.frozen b
  have nb : (b : Int) < 8 := by omega
  have zb : 0 ≤ (b : Int) := by omega
  have cc := ct_reg h hc
  have fc := h.row.frozen c
  have nc : (c : Int) < 8 := by omega
  have zc : 0 ≤ (c : Int) := by omega
  clear h
  unfold insV
  go_enter Tryz.func40, Tryz.ntmps40
  go_wp2_with fail
  go_quiet ((go_at_call 70; exact Calls.quiet_of_same ((Ref1.div_ref_yes _ _ _ h0).mono fun _ _ ⟨he, hw⟩ => ⟨he, hw.symm⟩)))
  clear h0
  go_wp2_with fail
  refine still_tail 7 (by kernel_rfl) (by kernel_rfl) ?_
  simp only [List.take_succ_cons, List.take_zero, List.drop_succ_cons, List.drop_zero]
  repeat still_step
  refine wpStill_nil ?_
  go_wp2_with fail
  go_end0
  exact ⟨rfl, t_reg ha (by repeat (first | with_reducible exact HT.out | with_reducible apply World.rowIs.alloc | with_reducible apply World.rowIs.drew | with_reducible apply row_drewN | with_reducible apply World.rowIs.set)), (by repeat (first | with_reducible exact Ch.refl _ _ | (with_reducible refine Ch.setN ?_ (by omega) _) | with_reducible apply Ch.setB | with_reducible apply Ch.alloc | with_reducible apply Ch.drew | with_reducible apply Ch.drewN | (with_reducible refine Ch.trans ?_ (by assumption))))⟩
set_option maxRecDepth 100000 in
set_option maxHeartbeats 4000000 in
theorem do_jump (R B : Nat) (t : RT) (a b c : Int) (w : World) (h : IsT w B t)  :
    Calls Tryz.prog 40 #[.pointer (some ⟨R, 0, none⟩), .pointer (some ⟨B, 0, none⟩), insV ⟨7, a, b, c⟩] w fun e w' => e = .returned (.tuple #[]) ∧ IsT w' B { t with place := a } ∧ Ch (· = B) w w' := by
  have HT : Hid (w.rowIs B 100 27 (rtF t)) := h
  have hlt := h.row.lt
  have hl1 : B < w.heap.size + 1 := by omega
  have hl2 : B < w.heap.size + 1 + 1 := by omega
  obtain ⟨e20, e21, e22, e23, e24, e25, e26⟩ := ct_nums h
  have f21 := h.row.frozen 21
  have f25 := h.row.frozen 25
  have f26 := h.row.frozen 26
  clear h
  unfold insV
  go_enter Tryz.func40, Tryz.ntmps40
  go_wp2_with fail
  go_end0
  exact ⟨rfl, t_place (by repeat (first | with_reducible exact HT.out | with_reducible apply World.rowIs.alloc | with_reducible apply World.rowIs.drew | with_reducible apply row_drewN | with_reducible apply World.rowIs.set)), (by repeat (first | with_reducible exact Ch.refl _ _ | (with_reducible refine Ch.setN ?_ (by omega) _) | with_reducible apply Ch.setB | with_reducible apply Ch.alloc | with_reducible apply Ch.drew | with_reducible apply Ch.drewN | (with_reducible refine Ch.trans ?_ (by assumption))))⟩
set_option maxRecDepth 100000 in
set_option maxHeartbeats 4000000 in
theorem do_zero_yes (R B : Nat) (t : RT) (a : Nat) (b c : Int) (w : World) (h : IsT w B t) (ha : a < 8) (h0 : t.regs a = 0) :
    Calls Tryz.prog 40 #[.pointer (some ⟨R, 0, none⟩), .pointer (some ⟨B, 0, none⟩), insV ⟨8, a, b, c⟩] w fun e w' => e = .returned (.tuple #[]) ∧ IsT w' B { t with place := b } ∧ Ch (· = B) w w' := by
  have HT : Hid (w.rowIs B 100 27 (rtF t)) := h
  have hlt := h.row.lt
  have hl1 : B < w.heap.size + 1 := by omega
  have hl2 : B < w.heap.size + 1 + 1 := by omega
  obtain ⟨e20, e21, e22, e23, e24, e25, e26⟩ := ct_nums h
  have f21 := h.row.frozen 21
  have f25 := h.row.frozen 25
  have f26 := h.row.frozen 26
  have ca := ct_reg h ha
  have fa := h.row.frozen a
  have na : (a : Int) < 8 := by omega
  have za : 0 ≤ (a : Int) := by omega
  rw [h0] at ca
  clear h
  unfold insV
  go_enter Tryz.func40, Tryz.ntmps40
  go_wp2_with fail
  go_quiet (fail)
  go_wp2_with fail
  go_end0
  exact ⟨rfl, t_place (by repeat (first | with_reducible exact HT.out | with_reducible apply World.rowIs.alloc | with_reducible apply World.rowIs.drew | with_reducible apply row_drewN | with_reducible apply World.rowIs.set)), (by repeat (first | with_reducible exact Ch.refl _ _ | (with_reducible refine Ch.setN ?_ (by omega) _) | with_reducible apply Ch.setB | with_reducible apply Ch.alloc | with_reducible apply Ch.drew | with_reducible apply Ch.drewN | (with_reducible refine Ch.trans ?_ (by assumption))))⟩
set_option maxRecDepth 100000 in
set_option maxHeartbeats 4000000 in
theorem do_zero_no (R B : Nat) (t : RT) (a : Nat) (b c : Int) (w : World) (h : IsT w B t) (ha : a < 8) (h0 : (t.regs a == 0) = false) :
    Calls Tryz.prog 40 #[.pointer (some ⟨R, 0, none⟩), .pointer (some ⟨B, 0, none⟩), insV ⟨8, a, b, c⟩] w fun e w' => e = .returned (.tuple #[]) ∧ IsT w' B t ∧ Ch (· = B) w w' := by
  have HT : Hid (w.rowIs B 100 27 (rtF t)) := h
  have hlt := h.row.lt
  have hl1 : B < w.heap.size + 1 := by omega
  have hl2 : B < w.heap.size + 1 + 1 := by omega
  obtain ⟨e20, e21, e22, e23, e24, e25, e26⟩ := ct_nums h
  have f21 := h.row.frozen 21
  have f25 := h.row.frozen 25
  have f26 := h.row.frozen 26
  have ca := ct_reg h ha
  have fa := h.row.frozen a
  have na : (a : Int) < 8 := by omega
  have za : 0 ≤ (a : Int) := by omega
  clear h
  unfold insV
  go_enter Tryz.func40, Tryz.ntmps40
  go_wp2_with fail
  go_quiet (fail)
  go_wp2_with fail
  go_end0
  exact ⟨rfl, isT_of (by repeat (first | with_reducible exact HT.out | with_reducible apply World.rowIs.alloc | with_reducible apply World.rowIs.drew | with_reducible apply row_drewN | with_reducible apply World.rowIs.set)), (by repeat (first | with_reducible exact Ch.refl _ _ | (with_reducible refine Ch.setN ?_ (by omega) _) | with_reducible apply Ch.setB | with_reducible apply Ch.alloc | with_reducible apply Ch.drew | with_reducible apply Ch.drewN | (with_reducible refine Ch.trans ?_ (by assumption))))⟩
set_option maxRecDepth 100000 in
set_option maxHeartbeats 4000000 in
theorem do_ret (R B : Nat) (t : RT) (a : Nat) (b c : Int) (w : World) (h : IsT w B t) (ha : a < 8) :
    Calls Tryz.prog 40 #[.pointer (some ⟨R, 0, none⟩), .pointer (some ⟨B, 0, none⟩), insV ⟨15, a, b, c⟩] w fun e w' => e = .returned (.tuple #[]) ∧ IsT w' B { t with how := 1, val := t.regs a } ∧ Ch (· = B) w w' := by
  have HT : Hid (w.rowIs B 100 27 (rtF t)) := h
  have hlt := h.row.lt
  have hl1 : B < w.heap.size + 1 := by omega
  have hl2 : B < w.heap.size + 1 + 1 := by omega
  obtain ⟨e20, e21, e22, e23, e24, e25, e26⟩ := ct_nums h
  have f21 := h.row.frozen 21
  have f25 := h.row.frozen 25
  have f26 := h.row.frozen 26
  have ca := ct_reg h ha
  have fa := h.row.frozen a
  have na : (a : Int) < 8 := by omega
  have za : 0 ≤ (a : Int) := by omega
  clear h
  unfold insV
  go_enter Tryz.func40, Tryz.ntmps40
  go_wp2_with fail
  refine still_tail 11 (by kernel_rfl) (by kernel_rfl) ?_
  simp only [List.take_succ_cons, List.take_zero, List.drop_succ_cons, List.drop_zero]
  repeat still_step
  refine wpStill_nil ?_
  go_wp2_with fail
  go_end0
  exact ⟨rfl, t_end (by repeat (first | with_reducible exact HT.out | with_reducible apply World.rowIs.alloc | with_reducible apply World.rowIs.drew | with_reducible apply row_drewN | with_reducible apply World.rowIs.set)), (by repeat (first | with_reducible exact Ch.refl _ _ | (with_reducible refine Ch.setN ?_ (by omega) _) | with_reducible apply Ch.setB | with_reducible apply Ch.alloc | with_reducible apply Ch.drew | with_reducible apply Ch.drewN | (with_reducible refine Ch.trans ?_ (by assumption))))⟩
set_option maxRecDepth 100000 in
set_option maxHeartbeats 4000000 in
theorem ot_join_no (R B : Nat) (t : RT) (a : Int) (b : Nat) (c : Int) (w : World) (h : IsT w B t) (hb : b < 4) (h0 : t.has b = false) :
    Calls Tryz.prog 71 #[.pointer (some ⟨R, 0, none⟩), .pointer (some ⟨B, 0, none⟩), insV ⟨10, a, b, c⟩] w fun e w' => e = .returned (.tuple #[]) ∧ IsT w' B { t with how := 7 } ∧ Ch (· = B) w w' := by
  have HT : Hid (w.rowIs B 100 27 (rtF t)) := h
  have hlt := h.row.lt
  have hl1 : B < w.heap.size + 1 := by omega
  have hl2 : B < w.heap.size + 1 + 1 := by omega
  obtain ⟨e20, e21, e22, e23, e24, e25, e26⟩ := ct_nums h
  have f21 := h.row.frozen 21
  have f25 := h.row.frozen 25
  have f26 := h.row.frozen 26
  have kb := ct_has h hb
  have fkb := h.row.frozen (8 + b)
  obtain ⟨ib, jb⟩ := ct_hand h hb
  have mb : (b : Int) < 4 := by omega
  have yb : 0 ≤ (b : Int) := by omega
  rw [h0] at kb
  clear h
  unfold insV
  go_enter Tryz.func71, Tryz.ntmps71
  go_wp2_with fail
  go_quiet (fail)
  go_wp2_with fail
  exact bodyPost_ret (v := .tuple #[]) (by simp [results, Tryz.results71, go_sem]) rfl ⟨rfl, t_how (by repeat (first | with_reducible exact HT.out | with_reducible apply World.rowIs.alloc | with_reducible apply World.rowIs.drew | with_reducible apply row_drewN | with_reducible apply World.rowIs.set)), (by repeat (first | with_reducible exact Ch.refl _ _ | (with_reducible refine Ch.setN ?_ (by omega) _) | with_reducible apply Ch.setB | with_reducible apply Ch.alloc | with_reducible apply Ch.drew | with_reducible apply Ch.drewN | (with_reducible refine Ch.trans ?_ (by assumption))))⟩
end Go.Proofs.YtonndofbnhnkpaaGreat.Rf
set_option linter.unusedVariables false
set_option linter.unusedSimpArgs false
set_option linter.unusedSectionVars false
namespace Go.Proofs.YtonndofbnhnkpaaGreat.Rf
open Go.RowKit Num KeyM KeyW StatW Blk VmA VmG Prg EvM
theorem isR_set {c : Fx} {base : Nat} {w : World} {S : RS} (h : IsR c base w S) (a : Nat) (v : Int) :
    IsR c base ((w.setCell ⟨c.WB, a, none⟩ (.bool true)).setCell ⟨c.FB, a, none⟩ (.int .i64 v)) { S with was := upd S.was a true, futs := upd S.futs a v } := by
  obtain ⟨⟨vr, h1, h2⟩, h3, h4, h5, h6⟩ := h
  have ne : ∀ {b m : Nat} {t : TypeId} {g : Nat → Value} {b' m' : Nat} {t' : TypeId} {g' : Nat → Value}, w.rowIs b t m g → w.rowIs b' t' m' g' → t ≠ t' → b ≠ b' := fun hr hr' ht' e => by
    obtain ⟨cur, hcur⟩ := row_type hr
    exact ty_ne hr' hcur ht' e
  have hch : Ch (fun k => k = c.WB ∨ k = c.FB) w ((w.setCell ⟨c.WB, a, none⟩ (.bool true)).setCell ⟨c.FB, a, none⟩ (.int .i64 v)) := ((Ch.refl _ _).set (Or.inl (Or.inl rfl)) _).set (Or.inl (Or.inr rfl)) _
  refine ⟨⟨vr, hch.row h1 (fun e => ?_), own_ch h2 hch (fun k hk e => ?_)⟩, ?_, ?_, h5.later hch (fun i hi e => by omega), h6⟩
  · rcases e with e | e
    · exact ne h1 h4 (by decide) e
    · exact ne h1 h3 (by decide) e
  · obtain ⟨cur, hcur⟩ := own_type h2 hk
    rcases e with e | e
    · exact ty_ne h4 hcur (by decide) e
    · exact ty_ne h3 hcur (by decide) e
  · refine World.rowIs.congr ((row_setO h3 (ne h3 h4 (by decide)) _).set a _) (fun j _ => ?_)
    show _ = Value.int .i64 (upd S.futs a v j)
    unfold upd
    split <;> rfl
  · refine row_setO (World.rowIs.congr (h4.set a _) (fun j _ => ?_)) (ne h4 h3 (by decide)) _
    show _ = Value.bool (upd S.was a true j)
    unfold upd
    split <;> rfl
set_option maxRecDepth 100000 in
set_option maxHeartbeats 4000000 in
theorem ot_join_bad (c : Fx) (base B : Nat) (t : RT) (S : RS) (a : Int) (b : Nat) (x : Int) (w : World) (h : IsT w B t) (hR : IsR c base w S) (hb : b < 4) (h0 : t.has b = true) (h1 : (t.hh b == 1) = false) :
    Calls Tryz.prog 71 #[.pointer (some ⟨c.R, 0, none⟩), .pointer (some ⟨B, 0, none⟩), insV ⟨10, a, b, x⟩] w fun e w' => e = .returned (.tuple #[]) ∧ IsT w' B { t with has := upd t.has b false, how := t.hh b } ∧ Ch (· = B) w w' := by
  have HT : Hid (w.rowIs B 100 27 (rtF t)) := h
  have HR := Lib.hid hR
  have hlt := h.row.lt
  have hl1 : B < w.heap.size + 1 := by omega
  have hl2 : B < w.heap.size + 1 + 1 := by omega
  obtain ⟨e20, e21, e22, e23, e24, e25, e26⟩ := ct_nums h
  have f25 := h.row.frozen 25
  obtain ⟨⟨vr, r1, r2⟩, r3, r4, r5, r6⟩ := hR
  have q5 : w.cell? ⟨c.R, 5, none⟩ = some (.slice (some ⟨c.FB, 0, none⟩) c.futs c.futs) := r1.cell (i := 5) (by omega)
  have q6 : w.cell? ⟨c.R, 6, none⟩ = some (.slice (some ⟨c.WB, 0, none⟩) c.futs c.futs) := r1.cell (i := 6) (by omega)
  have lR := r1.lt
  have lF := r3.lt
  have lW := r4.lt
  have nRB : c.R ≠ B := fun e => by obtain ⟨cur, hcur⟩ := row_type r1; exact ty_ne h.row hcur (by decide) e
  have nFB : c.FB ≠ B := fun e => by obtain ⟨cur, hcur⟩ := row_type r3; exact ty_ne h.row hcur (by decide) e
  have nWB : c.WB ≠ B := fun e => by obtain ⟨cur, hcur⟩ := row_type r4; exact ty_ne h.row hcur (by decide) e
  have nFW : c.FB ≠ c.WB := fun e => by obtain ⟨cur, hcur⟩ := row_type r3; exact ty_ne r4 hcur (by decide) e
  have kb := ct_has h hb
  have fkb := h.row.frozen (8 + b)
  obtain ⟨ib, jb⟩ := ct_hand h hb
  have mb : (b : Int) < 4 := by omega
  have yb : 0 ≤ (b : Int) := by omega
  have o1b : ¬ 12 + b * 2 = 8 + b := by omega
  have o2b : ¬ 12 + b * 2 + 1 = 8 + b := by omega
  rw [h0] at kb
  have h2 : (t.hh b != 1) = true := by simp at h1 ⊢; exact h1
  clear h r1 r2 r3 r4 r5 r6
  unfold insV
  go_enter Tryz.func71, Tryz.ntmps71
  go_wp2_with fail
  go_quiet (fail)
  go_wp2_with fail
  refine still_tail 6 (by kernel_rfl) (by kernel_rfl) ?_
  simp only [List.take_succ_cons, List.take_zero, List.drop_succ_cons, List.drop_zero]
  repeat still_step
  refine wpStill_nil ?_
  go_wp2_with fail
  go_quiet (fail)
  go_wp2_with fail
  refine still_tail 12 (by kernel_rfl) (by kernel_rfl) ?_
  simp only [List.take_succ_cons, List.take_zero, List.drop_succ_cons, List.drop_zero]
  repeat still_step
  refine wpStill_nil ?_
  go_wp2_with fail
  exact bodyPost_ret (v := .tuple #[]) (by simp [results, Tryz.results71, go_sem]) rfl ⟨rfl, t_how (t := { t with has := upd t.has b false }) (by repeat (first | with_reducible exact HT.out | with_reducible apply World.rowIs.alloc | with_reducible apply World.rowIs.drew | with_reducible apply row_drewN | with_reducible apply World.rowIs.set | (with_reducible refine IsT.row (t_has hb ?_)) | (with_reducible refine row_setO ?_ (by omega) _))), (by repeat (first | with_reducible exact Ch.refl _ _ | (with_reducible refine Ch.setN ?_ (by omega) _) | with_reducible apply Ch.setB | with_reducible apply Ch.alloc | with_reducible apply Ch.drew | with_reducible apply Ch.drewN | (with_reducible refine Ch.trans ?_ (by assumption))))⟩
set_option maxRecDepth 100000 in
set_option maxHeartbeats 4000000 in
theorem ot_join (c : Fx) (base B : Nat) (t : RT) (S : RS) (a b : Nat) (x : Int) (w : World) (h : IsT w B t) (hR : IsR c base w S) (ha : a < 8) (hb : b < 4) (h0 : t.has b = true) (h1 : t.hh b = 1) :
    Calls Tryz.prog 71 #[.pointer (some ⟨c.R, 0, none⟩), .pointer (some ⟨B, 0, none⟩), insV ⟨10, a, b, x⟩] w fun e w' => e = .returned (.tuple #[]) ∧ IsT w' B { t with has := upd t.has b false, regs := upd t.regs a (t.hv b) } ∧ Ch (· = B) w w' := by
  have HT : Hid (w.rowIs B 100 27 (rtF t)) := h
  have HR := Lib.hid hR
  have hlt := h.row.lt
  have hl1 : B < w.heap.size + 1 := by omega
  have hl2 : B < w.heap.size + 1 + 1 := by omega
  obtain ⟨e20, e21, e22, e23, e24, e25, e26⟩ := ct_nums h
  have f25 := h.row.frozen 25
  obtain ⟨⟨vr, r1, r2⟩, r3, r4, r5, r6⟩ := hR
  have q5 : w.cell? ⟨c.R, 5, none⟩ = some (.slice (some ⟨c.FB, 0, none⟩) c.futs c.futs) := r1.cell (i := 5) (by omega)
  have q6 : w.cell? ⟨c.R, 6, none⟩ = some (.slice (some ⟨c.WB, 0, none⟩) c.futs c.futs) := r1.cell (i := 6) (by omega)
  have lR := r1.lt
  have lF := r3.lt
  have lW := r4.lt
  have nRB : c.R ≠ B := fun e => by obtain ⟨cur, hcur⟩ := row_type r1; exact ty_ne h.row hcur (by decide) e
  have nFB : c.FB ≠ B := fun e => by obtain ⟨cur, hcur⟩ := row_type r3; exact ty_ne h.row hcur (by decide) e
  have nWB : c.WB ≠ B := fun e => by obtain ⟨cur, hcur⟩ := row_type r4; exact ty_ne h.row hcur (by decide) e
  have nFW : c.FB ≠ c.WB := fun e => by obtain ⟨cur, hcur⟩ := row_type r3; exact ty_ne r4 hcur (by decide) e
  have ca := ct_reg h ha
  have fa := h.row.frozen a
  have na : (a : Int) < 8 := by omega
  have za : 0 ≤ (a : Int) := by omega
  have kb := ct_has h hb
  have fkb := h.row.frozen (8 + b)
  obtain ⟨ib, jb⟩ := ct_hand h hb
  have mb : (b : Int) < 4 := by omega
  have yb : 0 ≤ (b : Int) := by omega
  have o1b : ¬ 12 + b * 2 = 8 + b := by omega
  have o2b : ¬ 12 + b * 2 + 1 = 8 + b := by omega
  rw [h0] at kb
  rw [h1] at ib
  have o3 : ¬ a = 8 + b := by omega
  have o4 : ¬ 12 + b * 2 = a := by omega
  clear h r1 r2 r3 r4 r5 r6
  unfold insV
  go_enter Tryz.func71, Tryz.ntmps71
  go_wp2_with fail
  go_quiet (fail)
  go_wp2_with fail
  refine still_tail 6 (by kernel_rfl) (by kernel_rfl) ?_
  simp only [List.take_succ_cons, List.take_zero, List.drop_succ_cons, List.drop_zero]
  repeat still_step
  refine wpStill_nil ?_
  go_wp2_with fail
  go_quiet (fail)
  go_wp2_with fail
  refine still_tail 14 (by kernel_rfl) (by kernel_rfl) ?_
  simp only [List.take_succ_cons, List.take_zero, List.drop_succ_cons, List.drop_zero]
  repeat still_step
  refine wpStill_nil ?_
  go_wp2_with fail
  go_end0
  exact ⟨rfl, t_reg (t := { t with has := upd t.has b false }) ha (by repeat (first | with_reducible exact HT.out | with_reducible apply World.rowIs.alloc | with_reducible apply World.rowIs.drew | with_reducible apply row_drewN | with_reducible apply World.rowIs.set | (with_reducible refine IsT.row (t_has hb ?_)) | (with_reducible refine row_setO ?_ (by omega) _))), (by repeat (first | with_reducible exact Ch.refl _ _ | (with_reducible refine Ch.setN ?_ (by omega) _) | with_reducible apply Ch.setB | with_reducible apply Ch.alloc | with_reducible apply Ch.drew | with_reducible apply Ch.drewN | (with_reducible refine Ch.trans ?_ (by assumption))))⟩
set_option maxRecDepth 100000 in
set_option maxHeartbeats 4000000 in
theorem ot_set_twice (c : Fx) (base B : Nat) (t : RT) (S : RS) (a : Nat) (b x : Int) (w : World) (h : IsT w B t) (hR : IsR c base w S) (ha : a < c.futs) (h0 : S.was a = true) :
    Calls Tryz.prog 71 #[.pointer (some ⟨c.R, 0, none⟩), .pointer (some ⟨B, 0, none⟩), insV ⟨11, a, b, x⟩] w fun e w' => e = .returned (.tuple #[]) ∧ IsT w' B { t with how := 3 } ∧ Ch (· = B) w w' := by
  have HT : Hid (w.rowIs B 100 27 (rtF t)) := h
  have HR := Lib.hid hR
  have hlt := h.row.lt
  have hl1 : B < w.heap.size + 1 := by omega
  have hl2 : B < w.heap.size + 1 + 1 := by omega
  obtain ⟨e20, e21, e22, e23, e24, e25, e26⟩ := ct_nums h
  have f25 := h.row.frozen 25
  obtain ⟨⟨vr, r1, r2⟩, r3, r4, r5, r6⟩ := hR
  have q5 : w.cell? ⟨c.R, 5, none⟩ = some (.slice (some ⟨c.FB, 0, none⟩) c.futs c.futs) := r1.cell (i := 5) (by omega)
  have q6 : w.cell? ⟨c.R, 6, none⟩ = some (.slice (some ⟨c.WB, 0, none⟩) c.futs c.futs) := r1.cell (i := 6) (by omega)
  have lR := r1.lt
  have lF := r3.lt
  have lW := r4.lt
  have nRB : c.R ≠ B := fun e => by obtain ⟨cur, hcur⟩ := row_type r1; exact ty_ne h.row hcur (by decide) e
  have nFB : c.FB ≠ B := fun e => by obtain ⟨cur, hcur⟩ := row_type r3; exact ty_ne h.row hcur (by decide) e
  have nWB : c.WB ≠ B := fun e => by obtain ⟨cur, hcur⟩ := row_type r4; exact ty_ne h.row hcur (by decide) e
  have nFW : c.FB ≠ c.WB := fun e => by obtain ⟨cur, hcur⟩ := row_type r3; exact ty_ne r4 hcur (by decide) e
  have wa : w.cell? ⟨c.WB, a, none⟩ = some (.bool (S.was a)) := r4.cell (i := a) ha
  have va : w.cell? ⟨c.FB, a, none⟩ = some (.int .i64 (S.futs a)) := r3.cell (i := a) ha
  have fwa := r4.frozen a
  have fva := r3.frozen a
  have na : (a : Int) < (c.futs : Int) := by omega
  have za : 0 ≤ (a : Int) := by omega
  rw [h0] at wa
  clear h r1 r2 r3 r4 r5 r6
  unfold insV
  go_enter Tryz.func71, Tryz.ntmps71
  go_wp2_with fail
  go_quiet (fail)
  go_wp2_with fail
  exact bodyPost_ret (v := .tuple #[]) (by simp [results, Tryz.results71, go_sem]) rfl ⟨rfl, t_how (by repeat (first | with_reducible exact HT.out | with_reducible apply World.rowIs.alloc | with_reducible apply World.rowIs.drew | with_reducible apply row_drewN | with_reducible apply World.rowIs.set | (with_reducible refine IsT.row (t_has hb ?_)) | (with_reducible refine row_setO ?_ (by omega) _))), (by repeat (first | with_reducible exact Ch.refl _ _ | (with_reducible refine Ch.setN ?_ (by omega) _) | with_reducible apply Ch.setB | with_reducible apply Ch.alloc | with_reducible apply Ch.drew | with_reducible apply Ch.drewN | (with_reducible refine Ch.trans ?_ (by assumption))))⟩
set_option maxRecDepth 100000 in
set_option maxHeartbeats 4000000 in
theorem ot_set (c : Fx) (base B : Nat) (t : RT) (S : RS) (a b : Nat) (x : Int) (w : World) (h : IsT w B t) (hR : IsR c base w S) (ha : a < c.futs) (hb : b < 8) (h0 : S.was a = false) :
    Calls Tryz.prog 71 #[.pointer (some ⟨c.R, 0, none⟩), .pointer (some ⟨B, 0, none⟩), insV ⟨11, a, b, x⟩] w fun e w' => e = .returned (.tuple #[]) ∧ IsT w' B t ∧ IsR c base w' { S with was := upd S.was a true, futs := upd S.futs a (t.regs b) } ∧ Ch (Evs c) w w' := by
  have HT : Hid (w.rowIs B 100 27 (rtF t)) := h
  have HR := Lib.hid hR
  have hlt := h.row.lt
  have hl1 : B < w.heap.size + 1 := by omega
  have hl2 : B < w.heap.size + 1 + 1 := by omega
  obtain ⟨e20, e21, e22, e23, e24, e25, e26⟩ := ct_nums h
  have f25 := h.row.frozen 25
  obtain ⟨⟨vr, r1, r2⟩, r3, r4, r5, r6⟩ := hR
  have q5 : w.cell? ⟨c.R, 5, none⟩ = some (.slice (some ⟨c.FB, 0, none⟩) c.futs c.futs) := r1.cell (i := 5) (by omega)
  have q6 : w.cell? ⟨c.R, 6, none⟩ = some (.slice (some ⟨c.WB, 0, none⟩) c.futs c.futs) := r1.cell (i := 6) (by omega)
  have lR := r1.lt
  have lF := r3.lt
  have lW := r4.lt
  have nRB : c.R ≠ B := fun e => by obtain ⟨cur, hcur⟩ := row_type r1; exact ty_ne h.row hcur (by decide) e
  have nFB : c.FB ≠ B := fun e => by obtain ⟨cur, hcur⟩ := row_type r3; exact ty_ne h.row hcur (by decide) e
  have nWB : c.WB ≠ B := fun e => by obtain ⟨cur, hcur⟩ := row_type r4; exact ty_ne h.row hcur (by decide) e
  have nFW : c.FB ≠ c.WB := fun e => by obtain ⟨cur, hcur⟩ := row_type r3; exact ty_ne r4 hcur (by decide) e
  have wa : w.cell? ⟨c.WB, a, none⟩ = some (.bool (S.was a)) := r4.cell (i := a) ha
  have va : w.cell? ⟨c.FB, a, none⟩ = some (.int .i64 (S.futs a)) := r3.cell (i := a) ha
  have fwa := r4.frozen a
  have fva := r3.frozen a
  have na : (a : Int) < (c.futs : Int) := by omega
  have za : 0 ≤ (a : Int) := by omega
  have cb := ct_reg h hb
  have fb := h.row.frozen b
  have nb : (b : Int) < 8 := by omega
  have zb : 0 ≤ (b : Int) := by omega
  rw [h0] at wa
  clear h r1 r2 r3 r4 r5 r6
  unfold insV
  go_enter Tryz.func71, Tryz.ntmps71
  go_wp2_with fail
  go_quiet (fail)
  go_wp2_with fail
  go_region
  all_goals
    go_wp2_with fail
    go_end0
    exact ⟨rfl, isT_of (by repeat (first | with_reducible exact HT.out | with_reducible apply World.rowIs.alloc | with_reducible apply World.rowIs.drew | with_reducible apply row_drewN | with_reducible apply World.rowIs.set | (with_reducible refine IsT.row (t_has hb ?_)) | (with_reducible refine row_setO ?_ (by omega) _))), isR_set (HR.out.bl (by repeat (first | with_reducible exact Bl.refl _ | with_reducible assumption | with_reducible apply Bl.drew | with_reducible apply Bl.drewN | with_reducible apply Bl.alloc | (with_reducible refine Bl.trans ?_ (by assumption))))) a (t.regs b), (by repeat (first | with_reducible exact Ch.refl _ _ | (with_reducible refine Ch.set ?_ (Or.inl (Or.inr (Or.inl rfl))) _) | (with_reducible refine Ch.set ?_ (Or.inl (Or.inr (Or.inr rfl))) _) | with_reducible apply Ch.alloc | with_reducible apply Ch.drew | with_reducible apply Ch.drewN))⟩
set_option maxRecDepth 100000 in
set_option maxHeartbeats 4000000 in
theorem ot_get_no (c : Fx) (base B : Nat) (t : RT) (S : RS) (a : Int) (b : Nat) (x : Int) (w : World) (h : IsT w B t) (hR : IsR c base w S) (hb : b < c.futs) (h0 : S.was b = false) :
    Calls Tryz.prog 71 #[.pointer (some ⟨c.R, 0, none⟩), .pointer (some ⟨B, 0, none⟩), insV ⟨12, a, b, x⟩] w fun e w' => e = .returned (.tuple #[]) ∧ IsT w' B { t with how := 4 } ∧ Ch (· = B) w w' := by
  have HT : Hid (w.rowIs B 100 27 (rtF t)) := h
  have HR := Lib.hid hR
  have hlt := h.row.lt
  have hl1 : B < w.heap.size + 1 := by omega
  have hl2 : B < w.heap.size + 1 + 1 := by omega
  obtain ⟨e20, e21, e22, e23, e24, e25, e26⟩ := ct_nums h
  have f25 := h.row.frozen 25
  obtain ⟨⟨vr, r1, r2⟩, r3, r4, r5, r6⟩ := hR
  have q5 : w.cell? ⟨c.R, 5, none⟩ = some (.slice (some ⟨c.FB, 0, none⟩) c.futs c.futs) := r1.cell (i := 5) (by omega)
  have q6 : w.cell? ⟨c.R, 6, none⟩ = some (.slice (some ⟨c.WB, 0, none⟩) c.futs c.futs) := r1.cell (i := 6) (by omega)
  have lR := r1.lt
  have lF := r3.lt
  have lW := r4.lt
  have nRB : c.R ≠ B := fun e => by obtain ⟨cur, hcur⟩ := row_type r1; exact ty_ne h.row hcur (by decide) e
  have nFB : c.FB ≠ B := fun e => by obtain ⟨cur, hcur⟩ := row_type r3; exact ty_ne h.row hcur (by decide) e
  have nWB : c.WB ≠ B := fun e => by obtain ⟨cur, hcur⟩ := row_type r4; exact ty_ne h.row hcur (by decide) e
  have nFW : c.FB ≠ c.WB := fun e => by obtain ⟨cur, hcur⟩ := row_type r3; exact ty_ne r4 hcur (by decide) e
  have wb : w.cell? ⟨c.WB, b, none⟩ = some (.bool (S.was b)) := r4.cell (i := b) hb
  have vb : w.cell? ⟨c.FB, b, none⟩ = some (.int .i64 (S.futs b)) := r3.cell (i := b) hb
  have fwb := r4.frozen b
  have fvb := r3.frozen b
  have nb : (b : Int) < (c.futs : Int) := by omega
  have zb : 0 ≤ (b : Int) := by omega
  rw [h0] at wb
  clear h r1 r2 r3 r4 r5 r6
  unfold insV
  go_enter Tryz.func71, Tryz.ntmps71
  go_wp2_with fail
  go_quiet (fail)
  go_wp2_with fail
  exact bodyPost_ret (v := .tuple #[]) (by simp [results, Tryz.results71, go_sem]) rfl ⟨rfl, t_how (by repeat (first | with_reducible exact HT.out | with_reducible apply World.rowIs.alloc | with_reducible apply World.rowIs.drew | with_reducible apply row_drewN | with_reducible apply World.rowIs.set | (with_reducible refine IsT.row (t_has hb ?_)) | (with_reducible refine row_setO ?_ (by omega) _))), (by repeat (first | with_reducible exact Ch.refl _ _ | (with_reducible refine Ch.setN ?_ (by omega) _) | with_reducible apply Ch.setB | with_reducible apply Ch.alloc | with_reducible apply Ch.drew | with_reducible apply Ch.drewN | (with_reducible refine Ch.trans ?_ (by assumption))))⟩
set_option maxRecDepth 100000 in
set_option maxHeartbeats 4000000 in
theorem ot_get (c : Fx) (base B : Nat) (t : RT) (S : RS) (a b : Nat) (x : Int) (w : World) (h : IsT w B t) (hR : IsR c base w S) (ha : a < 8) (hb : b < c.futs) (h0 : S.was b = true) :
    Calls Tryz.prog 71 #[.pointer (some ⟨c.R, 0, none⟩), .pointer (some ⟨B, 0, none⟩), insV ⟨12, a, b, x⟩] w fun e w' => e = .returned (.tuple #[]) ∧ IsT w' B { t with regs := upd t.regs a (S.futs b) } ∧ Ch (· = B) w w' := by
  have HT : Hid (w.rowIs B 100 27 (rtF t)) := h
  have HR := Lib.hid hR
  have hlt := h.row.lt
  have hl1 : B < w.heap.size + 1 := by omega
  have hl2 : B < w.heap.size + 1 + 1 := by omega
  obtain ⟨e20, e21, e22, e23, e24, e25, e26⟩ := ct_nums h
  have f25 := h.row.frozen 25
  obtain ⟨⟨vr, r1, r2⟩, r3, r4, r5, r6⟩ := hR
  have q5 : w.cell? ⟨c.R, 5, none⟩ = some (.slice (some ⟨c.FB, 0, none⟩) c.futs c.futs) := r1.cell (i := 5) (by omega)
  have q6 : w.cell? ⟨c.R, 6, none⟩ = some (.slice (some ⟨c.WB, 0, none⟩) c.futs c.futs) := r1.cell (i := 6) (by omega)
  have lR := r1.lt
  have lF := r3.lt
  have lW := r4.lt
  have nRB : c.R ≠ B := fun e => by obtain ⟨cur, hcur⟩ := row_type r1; exact ty_ne h.row hcur (by decide) e
  have nFB : c.FB ≠ B := fun e => by obtain ⟨cur, hcur⟩ := row_type r3; exact ty_ne h.row hcur (by decide) e
  have nWB : c.WB ≠ B := fun e => by obtain ⟨cur, hcur⟩ := row_type r4; exact ty_ne h.row hcur (by decide) e
  have nFW : c.FB ≠ c.WB := fun e => by obtain ⟨cur, hcur⟩ := row_type r3; exact ty_ne r4 hcur (by decide) e
  have wb : w.cell? ⟨c.WB, b, none⟩ = some (.bool (S.was b)) := r4.cell (i := b) hb
  have vb : w.cell? ⟨c.FB, b, none⟩ = some (.int .i64 (S.futs b)) := r3.cell (i := b) hb
  have fwb := r4.frozen b
  have fvb := r3.frozen b
  have nb : (b : Int) < (c.futs : Int) := by omega
  have zb : 0 ≤ (b : Int) := by omega
  have ca := ct_reg h ha
  have fa := h.row.frozen a
  have na : (a : Int) < 8 := by omega
  have za : 0 ≤ (a : Int) := by omega
  rw [h0] at wb
  clear h r1 r2 r3 r4 r5 r6
  unfold insV
  go_enter Tryz.func71, Tryz.ntmps71
  go_wp2_with fail
  go_quiet (fail)
  go_wp2_with fail
  refine still_tail 14 (by kernel_rfl) (by kernel_rfl) ?_
  simp only [List.take_succ_cons, List.take_zero, List.drop_succ_cons, List.drop_zero]
  repeat still_step
  refine wpStill_nil ?_
  go_wp2_with fail
  go_end0
  exact ⟨rfl, t_reg ha (by repeat (first | with_reducible exact HT.out | with_reducible apply World.rowIs.alloc | with_reducible apply World.rowIs.drew | with_reducible apply row_drewN | with_reducible apply World.rowIs.set | (with_reducible refine IsT.row (t_has hb ?_)) | (with_reducible refine row_setO ?_ (by omega) _))), (by repeat (first | with_reducible exact Ch.refl _ _ | (with_reducible refine Ch.setN ?_ (by omega) _) | with_reducible apply Ch.setB | with_reducible apply Ch.alloc | with_reducible apply Ch.drew | with_reducible apply Ch.drewN | (with_reducible refine Ch.trans ?_ (by assumption))))⟩
set_option maxRecDepth 100000 in
set_option maxHeartbeats 4000000 in
theorem ot_cancel_no (c : Fx) (base B : Nat) (t : RT) (S : RS) (a : Nat) (b x : Int) (w : World) (h : IsT w B t) (hR : IsR c base w S) (ha : a < 4) (h0 : t.has a = false) :
    Calls Tryz.prog 71 #[.pointer (some ⟨c.R, 0, none⟩), .pointer (some ⟨B, 0, none⟩), insV ⟨13, a, b, x⟩] w fun e w' => e = .returned (.tuple #[]) ∧ IsT w' B { t with how := 7 } ∧ Ch (· = B) w w' := by
  have HT : Hid (w.rowIs B 100 27 (rtF t)) := h
  have HR := Lib.hid hR
  have hlt := h.row.lt
  have hl1 : B < w.heap.size + 1 := by omega
  have hl2 : B < w.heap.size + 1 + 1 := by omega
  obtain ⟨e20, e21, e22, e23, e24, e25, e26⟩ := ct_nums h
  have f25 := h.row.frozen 25
  obtain ⟨⟨vr, r1, r2⟩, r3, r4, r5, r6⟩ := hR
  have q5 : w.cell? ⟨c.R, 5, none⟩ = some (.slice (some ⟨c.FB, 0, none⟩) c.futs c.futs) := r1.cell (i := 5) (by omega)
  have q6 : w.cell? ⟨c.R, 6, none⟩ = some (.slice (some ⟨c.WB, 0, none⟩) c.futs c.futs) := r1.cell (i := 6) (by omega)
  have lR := r1.lt
  have lF := r3.lt
  have lW := r4.lt
  have nRB : c.R ≠ B := fun e => by obtain ⟨cur, hcur⟩ := row_type r1; exact ty_ne h.row hcur (by decide) e
  have nFB : c.FB ≠ B := fun e => by obtain ⟨cur, hcur⟩ := row_type r3; exact ty_ne h.row hcur (by decide) e
  have nWB : c.WB ≠ B := fun e => by obtain ⟨cur, hcur⟩ := row_type r4; exact ty_ne h.row hcur (by decide) e
  have nFW : c.FB ≠ c.WB := fun e => by obtain ⟨cur, hcur⟩ := row_type r3; exact ty_ne r4 hcur (by decide) e
  have ka := ct_has h ha
  have fka := h.row.frozen (8 + a)
  obtain ⟨ia, ja⟩ := ct_hand h ha
  have ma : (a : Int) < 4 := by omega
  have ya : 0 ≤ (a : Int) := by omega
  have o1a : ¬ 12 + a * 2 = 8 + a := by omega
  have o2a : ¬ 12 + a * 2 + 1 = 8 + a := by omega
  rw [h0] at ka
  clear h r1 r2 r3 r4 r5 r6
  unfold insV
  go_enter Tryz.func71, Tryz.ntmps71
  go_wp2_with fail
  go_quiet (fail)
  go_wp2_with fail
  go_end0
  exact ⟨rfl, t_how (by repeat (first | with_reducible exact HT.out | with_reducible apply World.rowIs.alloc | with_reducible apply World.rowIs.drew | with_reducible apply row_drewN | with_reducible apply World.rowIs.set | (with_reducible refine IsT.row (t_has hb ?_)) | (with_reducible refine row_setO ?_ (by omega) _))), (by repeat (first | with_reducible exact Ch.refl _ _ | (with_reducible refine Ch.setN ?_ (by omega) _) | with_reducible apply Ch.setB | with_reducible apply Ch.alloc | with_reducible apply Ch.drew | with_reducible apply Ch.drewN | (with_reducible refine Ch.trans ?_ (by assumption))))⟩
set_option maxRecDepth 100000 in
set_option maxHeartbeats 4000000 in
theorem ot_cancel (c : Fx) (base B : Nat) (t : RT) (S : RS) (a : Nat) (b x : Int) (w : World) (h : IsT w B t) (hR : IsR c base w S) (ha : a < 4) (h0 : t.has a = true) :
    Calls Tryz.prog 71 #[.pointer (some ⟨c.R, 0, none⟩), .pointer (some ⟨B, 0, none⟩), insV ⟨13, a, b, x⟩] w fun e w' => e = .returned (.tuple #[]) ∧ IsT w' B t ∧ Ch (· = B) w w' := by
  have HT : Hid (w.rowIs B 100 27 (rtF t)) := h
  have HR := Lib.hid hR
  have hlt := h.row.lt
  have hl1 : B < w.heap.size + 1 := by omega
  have hl2 : B < w.heap.size + 1 + 1 := by omega
  obtain ⟨e20, e21, e22, e23, e24, e25, e26⟩ := ct_nums h
  have f25 := h.row.frozen 25
  obtain ⟨⟨vr, r1, r2⟩, r3, r4, r5, r6⟩ := hR
  have q5 : w.cell? ⟨c.R, 5, none⟩ = some (.slice (some ⟨c.FB, 0, none⟩) c.futs c.futs) := r1.cell (i := 5) (by omega)
  have q6 : w.cell? ⟨c.R, 6, none⟩ = some (.slice (some ⟨c.WB, 0, none⟩) c.futs c.futs) := r1.cell (i := 6) (by omega)
  have lR := r1.lt
  have lF := r3.lt
  have lW := r4.lt
  have nRB : c.R ≠ B := fun e => by obtain ⟨cur, hcur⟩ := row_type r1; exact ty_ne h.row hcur (by decide) e
  have nFB : c.FB ≠ B := fun e => by obtain ⟨cur, hcur⟩ := row_type r3; exact ty_ne h.row hcur (by decide) e
  have nWB : c.WB ≠ B := fun e => by obtain ⟨cur, hcur⟩ := row_type r4; exact ty_ne h.row hcur (by decide) e
  have nFW : c.FB ≠ c.WB := fun e => by obtain ⟨cur, hcur⟩ := row_type r3; exact ty_ne r4 hcur (by decide) e
  have ka := ct_has h ha
  have fka := h.row.frozen (8 + a)
  obtain ⟨ia, ja⟩ := ct_hand h ha
  have ma : (a : Int) < 4 := by omega
  have ya : 0 ≤ (a : Int) := by omega
  have o1a : ¬ 12 + a * 2 = 8 + a := by omega
  have o2a : ¬ 12 + a * 2 + 1 = 8 + a := by omega
  rw [h0] at ka
  clear h r1 r2 r3 r4 r5 r6
  unfold insV
  go_enter Tryz.func71, Tryz.ntmps71
  go_wp2_with fail
  go_quiet (fail)
  go_wp2_with fail
  go_end0
  exact ⟨rfl, isT_of (by repeat (first | with_reducible exact HT.out | with_reducible apply World.rowIs.alloc | with_reducible apply World.rowIs.drew | with_reducible apply row_drewN | with_reducible apply World.rowIs.set | (with_reducible refine IsT.row (t_has hb ?_)) | (with_reducible refine row_setO ?_ (by omega) _))), (by repeat (first | with_reducible exact Ch.refl _ _ | (with_reducible refine Ch.setN ?_ (by omega) _) | with_reducible apply Ch.setB | with_reducible apply Ch.alloc | with_reducible apply Ch.drew | with_reducible apply Ch.drewN | (with_reducible refine Ch.trans ?_ (by assumption))))⟩
set_option maxRecDepth 100000 in
set_option maxHeartbeats 4000000 in
theorem ot_yield (c : Fx) (base B : Nat) (t : RT) (S : RS) (a b x : Int) (w : World) (h : IsT w B t) (hR : IsR c base w S)  :
    Calls Tryz.prog 71 #[.pointer (some ⟨c.R, 0, none⟩), .pointer (some ⟨B, 0, none⟩), insV ⟨14, a, b, x⟩] w fun e w' => e = .returned (.tuple #[]) ∧ IsT w' B t ∧ Ch (· = B) w w' := by
  have HT : Hid (w.rowIs B 100 27 (rtF t)) := h
  have HR := Lib.hid hR
  have hlt := h.row.lt
  have hl1 : B < w.heap.size + 1 := by omega
  have hl2 : B < w.heap.size + 1 + 1 := by omega
  obtain ⟨e20, e21, e22, e23, e24, e25, e26⟩ := ct_nums h
  have f25 := h.row.frozen 25
  obtain ⟨⟨vr, r1, r2⟩, r3, r4, r5, r6⟩ := hR
  have q5 : w.cell? ⟨c.R, 5, none⟩ = some (.slice (some ⟨c.FB, 0, none⟩) c.futs c.futs) := r1.cell (i := 5) (by omega)
  have q6 : w.cell? ⟨c.R, 6, none⟩ = some (.slice (some ⟨c.WB, 0, none⟩) c.futs c.futs) := r1.cell (i := 6) (by omega)
  have lR := r1.lt
  have lF := r3.lt
  have lW := r4.lt
  have nRB : c.R ≠ B := fun e => by obtain ⟨cur, hcur⟩ := row_type r1; exact ty_ne h.row hcur (by decide) e
  have nFB : c.FB ≠ B := fun e => by obtain ⟨cur, hcur⟩ := row_type r3; exact ty_ne h.row hcur (by decide) e
  have nWB : c.WB ≠ B := fun e => by obtain ⟨cur, hcur⟩ := row_type r4; exact ty_ne h.row hcur (by decide) e
  have nFW : c.FB ≠ c.WB := fun e => by obtain ⟨cur, hcur⟩ := row_type r3; exact ty_ne r4 hcur (by decide) e
  clear h r1 r2 r3 r4 r5 r6
  unfold insV
  go_enter Tryz.func71, Tryz.ntmps71
  go_wp2_with fail
  go_end0
  exact ⟨rfl, isT_of (by repeat (first | with_reducible exact HT.out | with_reducible apply World.rowIs.alloc | with_reducible apply World.rowIs.drew | with_reducible apply row_drewN | with_reducible apply World.rowIs.set | (with_reducible refine IsT.row (t_has hb ?_)) | (with_reducible refine row_setO ?_ (by omega) _))), (by repeat (first | with_reducible exact Ch.refl _ _ | (with_reducible refine Ch.setN ?_ (by omega) _) | with_reducible apply Ch.setB | with_reducible apply Ch.alloc | with_reducible apply Ch.drew | with_reducible apply Ch.drewN | (with_reducible refine Ch.trans ?_ (by assumption))))⟩
end Go.Proofs.YtonndofbnhnkpaaGreat.Rf
