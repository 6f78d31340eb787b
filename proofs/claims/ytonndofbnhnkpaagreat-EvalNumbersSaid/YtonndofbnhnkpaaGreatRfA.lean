/- The reference's evaluator: what its blocks hold. -/
import Derived.Test.YtonndofbnhnkpaaGreatEvB
import Derived.Test.YtonndofbnhnkpaaGreatVmD
import Derived.Test.YtonndofbnhnkpaaGreatPrgR
set_option linter.unusedVariables false
set_option linter.unusedSimpArgs false
set_option linter.unusedSectionVars false
namespace Go.Proofs.YtonndofbnhnkpaaGreat.Rf
open Go.RowKit Num KeyM KeyW StatW Blk VmA VmG Prg EvM
def rtF (t : RT) (j : Nat) : Value :=
  if j < 8 then .int .i64 (t.regs j) else if j < 12 then .bool (t.has (j - 8)) else if j < 20 then .int .i64 (if (j - 12) % 2 = 0 then t.hh ((j - 12) / 2) else t.hv ((j - 12) / 2))
  else if j = 20 then .int .i64 t.fn else if j = 21 then .int .i64 t.place else if j = 22 then .int .i64 t.fuel else if j = 23 then .int .i64 t.forks else if j = 24 then .int .i64 t.key else if j = 25 then .int .i64 t.how else .int .i64 t.val
def IsT (w : World) (B : Nat) (t : RT) : Prop := w.rowIs B 100 27 (rtF t)
theorem isT_of {w : World} {B : Nat} {t : RT} (h : w.rowIs B 100 27 (rtF t)) : IsT w B t := h
theorem IsT.row {w : World} {B : Nat} {t : RT} (h : IsT w B t) : w.rowIs B 100 27 (rtF t) := h
theorem t_reg {w : World} {B : Nat} {t : RT} {k : Nat} {v : Int} (hk : k < 8) (h : w.rowIs B 100 27 (fun j => if j = k then .int .i64 v else rtF t j)) : IsT w B { t with regs := upd t.regs k v } := by
  refine World.rowIs.congr h ?_
  obtain rfl | rfl | rfl | rfl | rfl | rfl | rfl | rfl : k = 0 ∨ k = 1 ∨ k = 2 ∨ k = 3 ∨ k = 4 ∨ k = 5 ∨ k = 6 ∨ k = 7 := by omega
  all_goals
    repeat refine all_lt ?_ rfl
    exact all_none
theorem t_has {w : World} {B : Nat} {t : RT} {k : Nat} {v : Bool} (hk : k < 4) (h : w.rowIs B 100 27 (fun j => if j = 8 + k then .bool v else rtF t j)) : IsT w B { t with has := upd t.has k v } := by
  refine World.rowIs.congr h ?_
  obtain rfl | rfl | rfl | rfl : k = 0 ∨ k = 1 ∨ k = 2 ∨ k = 3 := by omega
  all_goals
    repeat refine all_lt ?_ rfl
    exact all_none
theorem t_hand {w : World} {B : Nat} {t : RT} {k : Nat} {a b : Int} (hk : k < 4) (h : w.rowIs B 100 27 (fun j => if j = 12 + k * 2 + 1 then .int .i64 b else if j = 12 + k * 2 then .int .i64 a else rtF t j)) : IsT w B { t with hh := upd t.hh k a, hv := upd t.hv k b } := by
  refine World.rowIs.congr h ?_
  obtain rfl | rfl | rfl | rfl : k = 0 ∨ k = 1 ∨ k = 2 ∨ k = 3 := by omega
  all_goals
    repeat refine all_lt ?_ rfl
    exact all_none
theorem t_place {w : World} {B : Nat} {t : RT} {v : Int} (h : w.rowIs B 100 27 (fun j => if j = 21 then .int .i64 v else rtF t j)) : IsT w B { t with place := v } := by
  refine World.rowIs.congr h ?_
  repeat refine all_lt ?_ rfl
  exact all_none
theorem t_fuel {w : World} {B : Nat} {t : RT} {v : Int} (h : w.rowIs B 100 27 (fun j => if j = 22 then .int .i64 v else rtF t j)) : IsT w B { t with fuel := v } := by
  refine World.rowIs.congr h ?_
  repeat refine all_lt ?_ rfl
  exact all_none
theorem t_forks {w : World} {B : Nat} {t : RT} {v : Int} (h : w.rowIs B 100 27 (fun j => if j = 23 then .int .i64 v else rtF t j)) : IsT w B { t with forks := v } := by
  refine World.rowIs.congr h ?_
  repeat refine all_lt ?_ rfl
  exact all_none
theorem t_how {w : World} {B : Nat} {t : RT} {v : Int} (h : w.rowIs B 100 27 (fun j => if j = 25 then .int .i64 v else rtF t j)) : IsT w B { t with how := v } := by
  refine World.rowIs.congr h ?_
  repeat refine all_lt ?_ rfl
  exact all_none
theorem t_end {w : World} {B : Nat} {t : RT} {a b : Int} (h : w.rowIs B 100 27 (fun j => if j = 26 then .int .i64 b else if j = 25 then .int .i64 a else rtF t j)) : IsT w B { t with how := a, val := b } := by
  refine World.rowIs.congr h ?_
  repeat refine all_lt ?_ rfl
  exact all_none
theorem ct_reg {w : World} {B : Nat} {t : RT} (h : IsT w B t) {k : Nat} (hk : k < 8) : w.cell? ⟨B, k, none⟩ = some (.int .i64 (t.regs k)) := by
  have := h.row.cell (i := k) (by omega)
  unfold rtF at this
  rw [if_pos hk] at this
  exact this
theorem ct_has {w : World} {B : Nat} {t : RT} (h : IsT w B t) {k : Nat} (hk : k < 4) : w.cell? ⟨B, 8 + k, none⟩ = some (.bool (t.has k)) := by
  have := h.row.cell (i := 8 + k) (by omega)
  obtain rfl | rfl | rfl | rfl : k = 0 ∨ k = 1 ∨ k = 2 ∨ k = 3 := by omega
  all_goals exact this
theorem ct_hand {w : World} {B : Nat} {t : RT} (h : IsT w B t) {k : Nat} (hk : k < 4) : w.cell? ⟨B, 12 + k * 2, none⟩ = some (.int .i64 (t.hh k)) ∧ w.cell? ⟨B, 12 + k * 2 + 1, none⟩ = some (.int .i64 (t.hv k)) := by
  have h1 := h.row.cell (i := 12 + k * 2) (by omega)
  have h2 := h.row.cell (i := 12 + k * 2 + 1) (by omega)
  obtain rfl | rfl | rfl | rfl : k = 0 ∨ k = 1 ∨ k = 2 ∨ k = 3 := by omega
  all_goals exact ⟨h1, h2⟩
theorem ct_nums {w : World} {B : Nat} {t : RT} (h : IsT w B t) :
    w.cell? ⟨B, 20, none⟩ = some (.int .i64 t.fn) ∧ w.cell? ⟨B, 21, none⟩ = some (.int .i64 t.place) ∧ w.cell? ⟨B, 22, none⟩ = some (.int .i64 t.fuel) ∧ w.cell? ⟨B, 23, none⟩ = some (.int .i64 t.forks) ∧
    w.cell? ⟨B, 24, none⟩ = some (.int .i64 t.key) ∧ w.cell? ⟨B, 25, none⟩ = some (.int .i64 t.how) ∧ w.cell? ⟨B, 26, none⟩ = some (.int .i64 t.val) :=
  ⟨h.row.cell (i := 20) (by omega), h.row.cell (i := 21) (by omega), h.row.cell (i := 22) (by omega), h.row.cell (i := 23) (by omega), h.row.cell (i := 24) (by omega), h.row.cell (i := 25) (by omega), h.row.cell (i := 26) (by omega)⟩
/-- A list as cells. -/
def ofL (l : List Value) (j : Nat) : Value := l.getD j undef
theorem ofL_set {w : World} {B n : Nat} {t : TypeId} {l : List Value} (i : Nat) (v : Value) (hi : i < l.length) (h : w.rowIs B t n (fun j => if j = i then v else ofL l j)) : w.rowIs B t n (ofL (l.set i v)) := by
  refine World.rowIs.congr h (fun j _ => ?_)
  unfold ofL
  rw [List.getD_eq_getElem?_getD, List.getD_eq_getElem?_getD, List.getElem?_set]
  by_cases e : j = i
  · subst e; simp [hi]
  · rw [if_neg e, if_neg (fun h => e h.symm)]
/-- What stays as it is while a program is evaluated. -/
structure Fx where
  K : Nat
  R : Nat
  FB : Nat
  WB : Nat
  pa : Option Addr
  pc : Nat
  fs : List (List Ins)
  futs : Nat
  depth : Int
  fuel : Int
  most : Int
def rc5 (r : FRan) : List Value := [.int .i64 r.key, .int .i64 r.fn, .int .i64 r.arg, .int .i64 r.how, .int .i64 r.val]
def rcs5 (m : List FRan) : List Value := m.flatMap rc5
def rL (c : Fx) (vr : Value) (S : RS) : List Value :=
  [.slice c.pa c.fs.length c.pc, .int .i64 c.futs, .int .i64 c.depth, .int .i64 c.fuel, vr, .slice (some ⟨c.FB, 0, none⟩) c.futs c.futs, .slice (some ⟨c.WB, 0, none⟩) c.futs c.futs, .int .i64 S.steps, .int .i64 S.forks, .int .i64 c.most, .bool S.over]
/-- The evaluation as it lies in memory. -/
structure IsR (c : Fx) (base : Nat) (w : World) (S : RS) : Prop where
  ran : ∃ vr, w.rowIs c.R 43 11 (ofL (rL c vr S)) ∧ w.ownsRow base 67 5 vr S.ran.length (rcs5 S.ran)
  fut : w.rowIs c.FB 3 c.futs (fun j => .int .i64 (S.futs j))
  was : w.rowIs c.WB 4 c.futs (fun j => .bool (S.was j))
  code : CodeAt c.K w c.pa c.fs
  far : c.K ≤ c.R ∧ c.K ≤ c.FB ∧ c.K ≤ c.WB
/-- The blocks of an evaluation. -/
def Evs (c : Fx) (k : Nat) : Prop := k = c.R ∨ k = c.FB ∨ k = c.WB
theorem IsR.bl {c : Fx} {base : Nat} {w w' : World} {S : RS} (h : IsR c base w S) (hb : Bl w w') : IsR c base w' S := by
  obtain ⟨⟨vr, h1, h2⟩, h3, h4, h5, h6⟩ := h
  exact ⟨⟨vr, row_bl h1 hb, own_ch (S := fun _ => False) h2 (Ch.of_bl hb) (fun _ _ h => h)⟩, row_bl h3 hb, row_bl h4 hb, h5.later (S := fun _ => False) (Ch.of_bl hb) (fun _ _ h => h), h6⟩
/-- While a task's block is turned, the rest stays. -/
theorem IsR.on {c : Fx} {base B n : Nat} {w w' : World} {S : RS} {f : Nat → Value} (h : IsR c base w S) (ht : w.rowIs B 100 n f) (hK : c.K ≤ B) (hc : Ch (· = B) w w') : IsR c base w' S := by
  obtain ⟨⟨vr, h1, h2⟩, h3, h4, h5, h6⟩ := h
  have ne : ∀ {b m : Nat} {t : TypeId} {g : Nat → Value}, w.rowIs b t m g → t ≠ 100 → ¬ b = B := fun hr ht' e => by
    obtain ⟨cur, hcur⟩ := row_type hr
    exact ty_ne ht hcur ht' e
  refine ⟨⟨vr, hc.row h1 (ne h1 (by decide)), own_ch h2 hc (fun k hk e => ?_)⟩, hc.row h3 (ne h3 (by decide)), hc.row h4 (ne h4 (by decide)), h5.on hc hK, h6⟩
  obtain ⟨cur, hcur⟩ := own_type h2 hk
  exact ty_ne ht hcur (by decide) e
end Go.Proofs.YtonndofbnhnkpaaGreat.Rf
