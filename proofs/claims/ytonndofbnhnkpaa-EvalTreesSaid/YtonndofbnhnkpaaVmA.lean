/- Tasks of package vm: what their blocks hold; the small contracts. -/
import Derived.Test.YtonndofbnhnkpaaStatB
import Derived.Test.YtonndofbnhnkpaaVal
import Derived.StillTailTactics
set_option linter.unusedVariables false
set_option linter.unusedSimpArgs false
set_option linter.unusedSectionVars false
namespace Go.Proofs.Ytonndofbnhnkpaa.VmA
open Go.RowKit Num KeyM KeyW StatW Blk
structure Hd where
  kind : Int
  handle : Int
  how : Int
  val : Int
def Hd.zero : Hd := ⟨0, 0, 0, 0⟩
structure Tk where
  pa : Option Addr
  pl : Nat
  pc : Nat
  futs : Int
  depth : Int
  pfuel : Int
  fn : Int
  place : Int
  fuel : Int
  forks : Int
  key : Int
  regs : Nat → Int
  hands : Nat → Hd
  how : Int
  val : Int
def hdN (h : Hd) (f : Nat) : Int := if f = 0 then h.kind else if f = 1 then h.handle else if f = 2 then h.how else h.val
def tkN (t : Tk) (j : Nat) : Int :=
  if j = 1 then t.futs else if j = 2 then t.depth else if j = 3 then t.pfuel else if j = 4 then t.fn else if j = 5 then t.place else if j = 6 then t.fuel else if j = 7 then t.forks else if j = 8 then t.key
  else if j < 17 then t.regs (j - 9) else if j < 33 then hdN (t.hands ((j - 17) / 4)) ((j - 17) % 4) else if j = 33 then t.how else t.val
def tkF (t : Tk) (j : Nat) : Value := if j = 0 then .slice t.pa t.pl t.pc else .int .i64 (tkN t j)
def Is (w : World) (B : Nat) (t : Tk) : Prop := w.rowIs B 113 35 (tkF t)
def endB (t : Tk) : Bool := !(t.how == 0 && t.val == 0)
theorem size103 : (Try.prog.info? 113).map (fun i => i.size) = some 35 := by kernel_rfl
theorem ended_any (B : Nat) (t : Tk) (w : World) (h : Is w B t) :
    Calls Try.prog 60 #[.pointer (some ⟨B, 0, none⟩)] w fun e w' => e = .returned (.bool (endB t)) ∧ w = w' := by
  have c1 : w.cell? ⟨B, 33, none⟩ = some (.int .i64 t.how) := h.cell (i := 33) (by omega)
  have c2 : w.cell? ⟨B, 34, none⟩ = some (.int .i64 t.val) := h.cell (i := 34) (by omega)
  clear h
  go_enter Try.func60, Try.ntmps60
  go_wp2
  all_goals
    go_ret
    exact ⟨ret_b (by simp [endB, *]), rfl⟩
def Tk.stop (t : Tk) (how : Int) : Tk := if endB t then t else { t with how := how, val := 0 }
def Tk.setReg (t : Tk) (i : Nat) (v : Int) : Tk := { t with regs := fun j => if j = i then v else t.regs j }
def Tk.setHand (t : Tk) (i : Nat) (h : Hd) : Tk := { t with hands := fun j => if j = i then h else t.hands j }
theorem all_lt {P : Nat → Prop} {n : Nat} (h : ∀ j, j < n → P j) (hn : P n) : ∀ j, j < n + 1 → P j := fun j hj => by
  rcases Nat.lt_or_eq_of_le (Nat.le_of_lt_succ hj) with g | g
  · exact h j g
  · rw [g]; exact hn
theorem all_none {P : Nat → Prop} : ∀ j, j < 0 → P j := fun j hj => absurd hj (Nat.not_lt_zero j)
theorem is_end {w : World} {B : Nat} {t : Tk} {how val : Int} (h : w.rowIs B 113 35 (fun j => if j = 34 then .int .i64 val else if j = 33 then .int .i64 how else tkF t j)) : Is w B { t with how := how, val := val } := by
  refine World.rowIs.congr h ?_
  repeat refine all_lt ?_ rfl
  exact all_none
theorem is_fuel {w : World} {B : Nat} {t : Tk} {v : Int} (h : w.rowIs B 113 35 (fun j => if j = 6 then .int .i64 v else tkF t j)) : Is w B { t with fuel := v } := by
  refine World.rowIs.congr h ?_
  repeat refine all_lt ?_ rfl
  exact all_none
theorem is_place {w : World} {B : Nat} {t : Tk} {v : Int} (h : w.rowIs B 113 35 (fun j => if j = 5 then .int .i64 v else tkF t j)) : Is w B { t with place := v } := by
  refine World.rowIs.congr h ?_
  repeat refine all_lt ?_ rfl
  exact all_none
theorem is_forks {w : World} {B : Nat} {t : Tk} {v : Int} (h : w.rowIs B 113 35 (fun j => if j = 7 then .int .i64 v else tkF t j)) : Is w B { t with forks := v } := by
  refine World.rowIs.congr h ?_
  repeat refine all_lt ?_ rfl
  exact all_none
theorem is_reg {w : World} {B : Nat} {t : Tk} {k : Nat} {v : Int} (hk : k < 8) (h : w.rowIs B 113 35 (fun j => if j = 9 + k then .int .i64 v else tkF t j)) : Is w B (t.setReg k v) := by
  refine World.rowIs.congr h ?_
  obtain rfl | rfl | rfl | rfl | rfl | rfl | rfl | rfl : k = 0 ∨ k = 1 ∨ k = 2 ∨ k = 3 ∨ k = 4 ∨ k = 5 ∨ k = 6 ∨ k = 7 := by omega
  all_goals
    repeat refine all_lt ?_ rfl
    exact all_none
theorem is_hand {w : World} {B : Nat} {t : Tk} {k : Nat} {v : Hd} (hk : k < 4) (h : w.rowIs B 113 35 (fun j => if j = 17 + k * 4 + 3 then .int .i64 v.val else if j = 17 + k * 4 + 2 then .int .i64 v.how else if j = 17 + k * 4 + 1 then .int .i64 v.handle else if j = 17 + k * 4 then .int .i64 v.kind else tkF t j)) : Is w B (t.setHand k v) := by
  refine World.rowIs.congr h ?_
  obtain rfl | rfl | rfl | rfl : k = 0 ∨ k = 1 ∨ k = 2 ∨ k = 3 := by omega
  all_goals
    repeat refine all_lt ?_ rfl
    exact all_none
theorem cell_reg {w : World} {B : Nat} {t : Tk} (h : Is w B t) {k : Nat} (hk : k < 8) : w.cell? ⟨B, 9 + k, none⟩ = some (.int .i64 (t.regs k)) := by
  have := h.cell (i := 9 + k) (by omega)
  obtain rfl | rfl | rfl | rfl | rfl | rfl | rfl | rfl : k = 0 ∨ k = 1 ∨ k = 2 ∨ k = 3 ∨ k = 4 ∨ k = 5 ∨ k = 6 ∨ k = 7 := by omega
  all_goals exact this
theorem cell_hand {w : World} {B : Nat} {t : Tk} (h : Is w B t) {k : Nat} (hk : k < 4) {f : Nat} (hf : f < 4) : w.cell? ⟨B, 17 + k * 4 + f, none⟩ = some (.int .i64 (hdN (t.hands k) f)) := by
  have := h.cell (i := 17 + k * 4 + f) (by omega)
  obtain rfl | rfl | rfl | rfl : k = 0 ∨ k = 1 ∨ k = 2 ∨ k = 3 := by omega
  all_goals
    obtain rfl | rfl | rfl | rfl : f = 0 ∨ f = 1 ∨ f = 2 ∨ f = 3 := by omega
    all_goals exact this
theorem stop_any (B : Nat) (t : Tk) (how : Int) (w : World) (h : Is w B t) :
    Calls Try.prog 61 #[.pointer (some ⟨B, 0, none⟩), .int .i64 how] w fun e w' => e = .returned (.tuple #[]) ∧ Is w' B (t.stop how) ∧ Ch (· = B) w w' := by
  have c1 : w.cell? ⟨B, 33, none⟩ = some (.int .i64 t.how) := h.cell (i := 33) (by omega)
  have c2 : w.cell? ⟨B, 34, none⟩ = some (.int .i64 t.val) := h.cell (i := 34) (by omega)
  have f1 := h.frozen 33
  have f2 := h.frozen 34
  have HI : Hid (w.rowIs B 113 35 (tkF t)) := h
  cases he : endB t
  all_goals
    have HE := Lib.hid he
    have hC := ended_any B t w h
    rw [he] at hC
    clear h he
    go_enter Try.func61, Try.ntmps61
    go_wp2_with (go_at_call 60; with_reducible refine hC.mono ?_; rintro e w' ⟨rfl, rfl⟩)
    go_end0
    unfold Tk.stop
    rw [HE.out]
  · exact ⟨rfl, is_end ((HI.out.set _ _).set _ _), ((Ch.refl _ _).setB _).setB _⟩
  · exact ⟨rfl, HI.out, Ch.refl _ _⟩
set_option maxRecDepth 100000 in
theorem setReg_any (B : Nat) (t : Tk) (i : Nat) (v : Int) (w : World) (h : Is w B t) (hi : i < 8) :
    Calls Try.prog 66 #[.pointer (some ⟨B, 0, none⟩), .int .i64 i, .int .i64 v] w fun e w' => e = .returned (.tuple #[]) ∧ Is w' B (t.setReg i (wrap32 v)) ∧ Ch (· = B) w w' := by
  have c1 := cell_reg h hi
  have f1 := h.frozen (9 + i)
  have HI : Hid (w.rowIs B 113 35 (tkF t)) := h
  have hW := fun w => Val.wrap_any v w
  clear h
  go_enter Try.func66, Try.ntmps66
  go_wp2_with fail
  refine still_tail 7 (by kernel_rfl) (by kernel_rfl) ?_
  simp only [List.take_succ_cons, List.take_zero, List.drop_succ_cons, List.drop_zero]
  repeat (first | still_step | still_call ((hW _).mono fun _ _ ⟨he, hw⟩ => ⟨he, hw.symm⟩))
  refine wpStill_nil ?_
  go_wp2_with fail
  go_end0
  exact ⟨rfl, is_reg hi ((HI.out.drew).set _ _), ((Ch.refl _ _).drew).setB _⟩
def hdV (h : Hd) : Value := .agg #[.int .i64 h.kind, .int .i64 h.handle, .int .i64 h.how, .int .i64 h.val]
set_option maxRecDepth 100000 in
set_option maxHeartbeats 1000000 in
theorem setHand_any (B : Nat) (t : Tk) (i : Nat) (v : Hd) (w : World) (h : Is w B t) (hi : i < 4) :
    Calls Try.prog 68 #[.pointer (some ⟨B, 0, none⟩), .int .i64 i, hdV v] w fun e w' => e = .returned (.tuple #[]) ∧ Is w' B (t.setHand i v) ∧ Ch (· = B) w w' := by
  have c0 : w.cell? ⟨B, 17 + i * 4, none⟩ = _ := cell_hand h hi (f := 0) (by decide)
  have c1 := cell_hand h hi (f := 1) (by decide)
  have c2 := cell_hand h hi (f := 2) (by decide)
  have c3 := cell_hand h hi (f := 3) (by decide)
  have f0 := h.frozen (17 + i * 4)
  have f1 := h.frozen (17 + i * 4 + 1)
  have f2 := h.frozen (17 + i * 4 + 2)
  have f3 := h.frozen (17 + i * 4 + 3)
  have HI : Hid (w.rowIs B 113 35 (tkF t)) := h
  have hlt := h.lt
  unfold hdV
  clear h
  go_enter Try.func68, Try.ntmps68
  go_wp2_with fail
  refine still_tail 6 (by kernel_rfl) (by kernel_rfl) ?_
  simp only [List.take_succ_cons, List.take_zero, List.drop_succ_cons, List.drop_zero]
  repeat still_step
  refine wpStill_nil ?_
  go_wp2_with fail
  go_end0
  exact ⟨rfl, is_hand hi (by repeat (first | with_reducible exact HI.out | with_reducible apply World.rowIs.alloc | with_reducible apply World.rowIs.drew | with_reducible apply World.rowIs.set)), by repeat (first | with_reducible exact Ch.refl _ _ | with_reducible apply Ch.alloc | with_reducible apply Ch.drew | with_reducible apply Ch.setB)⟩
theorem joined_any (B : Nat) (t : Tk) (i : Nat) (how val : Int) (w : World) (h : Is w B t) (hi : i < 8) :
    Calls Try.prog 35 #[.pointer (some ⟨B, 0, none⟩), .int .i64 i, .agg #[.int .i64 how, .int .i64 val]] w fun e w' => e = .returned (.tuple #[]) ∧ Is w' B (if how = 1 then t.setReg i (wrap32 val) else t.stop how) ∧ Ch (· = B) w w' := by
  have hS := fun o => setReg_any B t i val (w.alloc o) (World.rowIs.alloc h o) hi
  have hF := fun o => stop_any B t how (w.alloc o) (World.rowIs.alloc h o)
  have hlt := h.lt
  by_cases hh : how = 1
  · rw [if_pos hh]
    subst hh
    clear h hF
    go_enter Try.func35, Try.ntmps35
    go_wp2_with (first | (go_at_call 66; with_reducible refine (hS _).mono ?_; rintro e w' ⟨rfl, h1, h2⟩))
    exact bodyPost_ret (v := .tuple #[]) (by simp [results, Try.results35, go_sem]) rfl ⟨rfl, h1, ((Ch.refl _ _).alloc _).trans h2⟩
  · rw [if_neg hh]
    clear h hS
    go_enter Try.func35, Try.ntmps35
    go_wp2_with (first | (go_at_call 61; with_reducible refine (hF _).mono ?_; rintro e w' ⟨rfl, h1, h2⟩))
    go_end0
    exact ⟨rfl, h1, ((Ch.refl _ _).alloc _).trans h2⟩
theorem key_any (B : Nat) (t : Tk) (w : World) (h : Is w B t) :
    Calls Try.prog 36 #[.pointer (some ⟨B, 0, none⟩)] w fun e w' => e = .returned (.int .i64 t.key) ∧ w = w' := by
  have c1 : w.cell? ⟨B, 8, none⟩ = some (.int .i64 t.key) := h.cell (i := 8) (by omega)
  clear h
  go_enter Try.func36, Try.ntmps36
  go_wp2
  go_ret
  exact ⟨rfl, rfl⟩
theorem place4_any (B : Nat) (t : Tk) (w : World) (h : Is w B t) :
    Calls Try.prog 32 #[.pointer (some ⟨B, 0, none⟩)] w fun e w' => e = .returned (.tuple #[.int .i64 t.fn, .int .i64 t.place, .int .i64 t.fuel, .int .i64 t.forks]) ∧ ∃ n, w' = w.drewN n := by
  have c1 : w.cell? ⟨B, 4, none⟩ = some (.int .i64 t.fn) := h.cell (i := 4) (by omega)
  have c2 : w.cell? ⟨B, 5, none⟩ = some (.int .i64 t.place) := h.cell (i := 5) (by omega)
  have c3 : w.cell? ⟨B, 6, none⟩ = some (.int .i64 t.fuel) := h.cell (i := 6) (by omega)
  have c4 : w.cell? ⟨B, 7, none⟩ = some (.int .i64 t.forks) := h.cell (i := 7) (by omega)
  clear h
  go_enter Try.func32, Try.ntmps32
  go_wp2_with fail
  go_quiet (fail)
  go_wp2_with fail
  refine bodyPost_ret (v := .tuple #[.int .i64 t.fn, .int .i64 t.place, .int .i64 t.fuel, .int .i64 t.forks]) (by simp [results, Try.results32, go_sem]) rfl ⟨rfl, _, rfl⟩
set_option maxRecDepth 100000 in
theorem end_any (B : Nat) (t : Tk) (w : World) (h : Is w B t) :
    Calls Try.prog 31 #[.pointer (some ⟨B, 0, none⟩)] w fun e w' => e = .returned (.tuple #[.agg #[.int .i64 t.how, .int .i64 t.val], .bool (endB t)]) ∧ Bl w w' := by
  have c1 : w.cell? ⟨B, 33, none⟩ = some (.int .i64 t.how) := h.cell (i := 33) (by omega)
  have c2 : w.cell? ⟨B, 34, none⟩ = some (.int .i64 t.val) := h.cell (i := 34) (by omega)
  have hlt := h.lt
  have hE := fun o => ended_any B t ((w.alloc o).drew) (World.rowIs.alloc h o)
  clear h
  go_enter Try.func31, Try.ntmps31
  go_wp2_with fail
  refine still_tail 6 (by kernel_rfl) (by kernel_rfl) ?_
  simp only [List.take_succ_cons, List.take_zero, List.drop_succ_cons, List.drop_zero]
  repeat (first | still_step | still_call ((hE _).mono fun _ _ ⟨he, hw⟩ => ⟨he, hw.symm⟩))
  refine wpStill_nil ?_
  go_wp2_with fail
  refine bodyPost_ret (v := .tuple #[.agg #[.int .i64 t.how, .int .i64 t.val], .bool (endB t)]) (by simp [results, Try.results31, go_sem]) rfl ⟨rfl, ?_⟩
  exact Bl.drew ((Bl.refl _).alloc _)
set_option maxRecDepth 100000 in
theorem new_any (pa : Option Addr) (pl pc : Nat) (futs depth fuel fn arg key : Int) (w : World) :
    Calls Try.prog 29 #[.agg #[.slice pa pl pc, .int .i64 futs, .int .i64 depth, .int .i64 fuel], .int .i64 fn, .int .i64 arg, .int .i64 key] w fun e w' => ∃ g, e = .returned (.pointer (some ⟨g, 0, none⟩)) ∧ w.heap.size ≤ g ∧
      Is w' g ⟨pa, pl, pc, futs, depth, fuel, fn, 0, fuel, 0, key, fun j => if j = 0 then wrap32 arg else 0, fun _ => Hd.zero, 0, 0⟩ ∧ Bl w w' := by
  have hW := fun w => Val.wrap_any arg w
  go_enter Try.func29, Try.ntmps29
  go_wp2_with fail
  refine still_tail 6 (by kernel_rfl) (by kernel_rfl) ?_
  simp only [List.take_succ_cons, List.take_zero, List.drop_succ_cons, List.drop_zero]
  repeat (first | still_step | still_call ((hW _).mono fun _ _ ⟨he, hw⟩ => ⟨he, hw.symm⟩))
  refine wpStill_nil ?_
  go_wp2_with fail
  go_ret
  obtain ⟨w1, hw1⟩ : ∃ w1, w1 = w.alloc (.cells #[.slice pa pl pc, .int .i64 futs, .int .i64 depth, .int .i64 fuel] 52) := ⟨_, rfl⟩
  have hs : w.heap.size + 1 = w1.heap.size := by rw [hw1]; simp
  have hb : Bl w w1 := by rw [hw1]; exact (Bl.refl _).alloc _
  refine ⟨w.heap.size + 1, rfl, Nat.le_succ _, ?_⟩
  rw [← hw1, hs]
  refine ⟨?_, Bl.drew (hb.alloc _)⟩
  refine World.rowIs.congr (World.rowIs.drew (World.rowIs_alloc _ _ _ (fun j => if j = 9 then .int .i64 (wrap32 arg) else tkF ⟨pa, pl, pc, futs, depth, fuel, fn, 0, fuel, 0, key, fun _ => 0, fun _ => Hd.zero, 0, 0⟩ j) ?_)) ?_
  · show ∀ j, j < 35 → _
    repeat refine all_lt ?_ rfl
    exact all_none
  · repeat refine all_lt ?_ rfl
    exact all_none
end Go.Proofs.Ytonndofbnhnkpaa.VmA
