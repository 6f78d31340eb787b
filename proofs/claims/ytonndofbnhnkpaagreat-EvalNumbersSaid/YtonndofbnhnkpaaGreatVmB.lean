/- Tasks of package vm: what an instruction does. Programs as they lie in memory. -/
import Derived.Test.YtonndofbnhnkpaaGreatVmA
set_option linter.unusedVariables false
set_option linter.unusedSimpArgs false
set_option linter.unusedSectionVars false
namespace Go.Proofs.YtonndofbnhnkpaaGreat.VmA
open Go.RowKit Num KeyM KeyW StatW Blk
structure Ins where
  op : Int
  a : Int
  b : Int
  c : Int
structure Act where
  kind : Int
  a : Int
  b : Int
  c : Int
def Act.zero : Act := ⟨0, 0, 0, 0⟩
def insV (i : Ins) : Value := .agg #[.int .i64 i.op, .int .i64 i.a, .int .i64 i.b, .int .i64 i.c]
def actV (x : Act) : Value := .agg #[.int .i64 x.kind, .int .i64 x.a, .int .i64 x.b, .int .i64 x.c]
/-- A number from 0 to n - 1. -/
def Rg (x : Int) (n : Nat) : Prop := 0 ≤ x ∧ x < n
/-- An instruction that may be. -/
def InsOk (i : Ins) : Prop :=
  (i.op = 1 ∧ Rg i.a 8 ∧ (-2147483648 ≤ i.b ∧ i.b ≤ 2147483647) ∧ i.c = 0) ∨
  ((i.op = 2 ∨ i.op = 3 ∨ i.op = 4 ∨ i.op = 5 ∨ i.op = 6) ∧ Rg i.a 8 ∧ Rg i.b 8 ∧ Rg i.c 8) ∨
  (i.op = 7 ∧ Rg i.a 40 ∧ i.b = 0 ∧ i.c = 0) ∨ (i.op = 8 ∧ Rg i.a 8 ∧ Rg i.b 40 ∧ i.c = 0) ∨ (i.op = 9 ∧ Rg i.a 4 ∧ Rg i.b 12 ∧ Rg i.c 8) ∨ (i.op = 10 ∧ Rg i.a 8 ∧ Rg i.b 4 ∧ i.c = 0) ∨ (i.op = 11 ∧ Rg i.a 16 ∧ Rg i.b 8 ∧ i.c = 0) ∨
  (i.op = 12 ∧ Rg i.a 8 ∧ Rg i.b 16 ∧ i.c = 0) ∨ (i.op = 13 ∧ Rg i.a 4 ∧ i.b = 0 ∧ i.c = 0) ∨ (i.op = 14 ∧ i.a = 0 ∧ i.b = 0 ∧ i.c = 0) ∨ (i.op = 15 ∧ Rg i.a 8 ∧ i.b = 0 ∧ i.c = 0)
def Tk.reg (t : Tk) (x : Int) : Int := t.regs x.toNat
def Tk.hand (t : Tk) (x : Int) : Hd := t.hands x.toNat
def forkM (t : Tk) (i : Ins) : Act × Tk :=
  if t.depth ≤ dep t.key then (Act.zero, t.stop 6)
  else if 1000 ≤ t.forks then (Act.zero, t.stop 9)
  else (⟨1, i.b + 16 * i.a, t.reg i.c, child t.key (t.forks + 1)⟩, { t with forks := t.forks + 1 })
/-- What an instruction asks of others. -/
def askM (t : Tk) (i : Ins) : Act × Tk :=
  if i.op = 9 then forkM t i
  else if i.op = 10 then (if (t.hand i.b).kind = 1 then (⟨2, i.a, (t.hand i.b).handle, 0⟩, t.setHand i.b.toNat Hd.zero) else (Act.zero, t))
  else if i.op = 11 then (⟨3, i.a, t.reg i.b, 0⟩, t)
  else if i.op = 12 then (⟨4, i.a, i.b, 0⟩, t)
  else if i.op = 13 then (if (t.hand i.a).kind = 1 then (⟨5, (t.hand i.a).handle, 0, 0⟩, t) else (Act.zero, t))
  else if i.op = 14 then (⟨6, 0, 0, 0⟩, t)
  else (Act.zero, t)
def Tk.joined (t : Tk) (i : Nat) (how val : Int) : Tk := if how = 1 then t.setReg i (wrap32 val) else t.stop how
/-- What it does alone. -/
def doM (t : Tk) (i : Ins) : Tk :=
  if i.op = 1 then t.setReg i.a.toNat (wrap32 i.b)
  else if i.op = 2 then t.setReg i.a.toNat (add (t.reg i.b) (t.reg i.c))
  else if i.op = 3 then t.setReg i.a.toNat (sub (t.reg i.b) (t.reg i.c))
  else if i.op = 4 then t.setReg i.a.toNat (mul (t.reg i.b) (t.reg i.c))
  else if i.op = 6 then t.setReg i.a.toNat (lessv (t.reg i.b) (t.reg i.c))
  else if i.op = 5 then (if wrap32 (t.reg i.c) = 0 then t.stop 2 else t.setReg i.a.toNat (divq (t.reg i.b) (t.reg i.c)))
  else if i.op = 7 then { t with place := i.a }
  else if i.op = 8 then (if t.reg i.a = 0 then { t with place := i.b } else t)
  else if i.op = 10 then (if (t.hand i.b).kind = 0 then (t.setHand i.b.toNat Hd.zero).stop 7 else (t.setHand i.b.toNat Hd.zero).joined i.a.toNat (t.hand i.b).how (t.hand i.b).val)
  else if i.op = 13 then (if (t.hand i.a).kind = 0 then t.stop 7 else t)
  else if i.op = 15 then { t with how := 1, val := t.reg i.a }
  else t
/-- One instruction, of this one. -/
def stepM (t : Tk) (i : Ins) : Act × Tk :=
  let r := askM { t with fuel := t.fuel - 1, place := t.place + 1 } i
  if r.1.kind = 0 then (Act.zero, doM r.2 i) else r
/-- The functions of a program as they lie in memory, below block K. -/
def CodeAt (K : Nat) (w : World) (pa : Option Addr) (fs : List (List Ins)) : Prop :=
  ∀ (i : Nat) (f : List Ins), fs[i]? = some f → ∃ b off, pa = some ⟨b, off, none⟩ ∧ b < K ∧ ∃ fa fc, w.cell? ⟨b, off + i, none⟩ = some (.slice fa f.length fc) ∧
    ∀ (j : Nat) (x : Ins), f[j]? = some x → ∃ b' off', fa = some ⟨b', off', none⟩ ∧ b' < K ∧ w.cell? ⟨b', off' + j * 4, none⟩ = some (.int .i64 x.op) ∧ w.cell? ⟨b', off' + j * 4 + 1, none⟩ = some (.int .i64 x.a) ∧
      w.cell? ⟨b', off' + j * 4 + 2, none⟩ = some (.int .i64 x.b) ∧ w.cell? ⟨b', off' + j * 4 + 3, none⟩ = some (.int .i64 x.c)
theorem CodeAt.later {K : Nat} {S : Nat → Prop} {w w' : World} {pa : Option Addr} {fs : List (List Ins)} (h : CodeAt K w pa fs) (hc : Ch S w w') (hs : ∀ i, i < K → ¬ S i) : CodeAt K w' pa fs := by
  intro i f hf
  obtain ⟨b, off, h1, h2, fa, fc, h3, h4⟩ := h i f hf
  refine ⟨b, off, h1, h2, fa, fc, hc.cell h3 (hs _ h2), fun j x hx => ?_⟩
  obtain ⟨b', off', g1, g2, g3, g4, g5, g6⟩ := h4 j x hx
  exact ⟨b', off', g1, g2, hc.cell g3 (hs _ g2), hc.cell g4 (hs _ g2), hc.cell g5 (hs _ g2), hc.cell g6 (hs _ g2)⟩
end Go.Proofs.YtonndofbnhnkpaaGreat.VmA
namespace Go.Proofs.YtonndofbnhnkpaaGreat.VmA
open Go.RowKit Num KeyM KeyW StatW Blk
def icell (x : Ins) : List Value := [.int .i64 x.op, .int .i64 x.a, .int .i64 x.b, .int .i64 x.c]
def icells (f : List Ins) : List Value := f.flatMap icell
theorem icells_len (f : List Ins) : (icells f).length = f.length * 4 := by
  induction f with
  | nil => rfl
  | cons r m ih => unfold icells at *; rw [List.flatMap_cons, List.length_append, ih, List.length_cons]; simp [icell]; omega
theorem icells_get (m : List Ins) (i f : Nat) (r : Ins) (h : m[i]? = some r) (hf : f < 4) : (icells m)[i * 4 + f]? = (icell r)[f]? := by
  induction m generalizing i with
  | nil => simp at h
  | cons s m ih =>
    unfold icells at *
    rw [List.flatMap_cons]
    cases i with
    | zero =>
      simp at h; subst h
      rw [List.getElem?_append_left (by simp [icell]; omega)]; simp
    | succ i =>
      rw [List.getElem?_append_right (by simp [icell]; omega)]
      have : (i + 1) * 4 + f - (icell s).length = i * 4 + f := by simp [icell]; omega
      rw [this]
      exact ih i (by simpa using h)
theorem cells_cell {w : World} {g j : Nat} {cs : List Value} {t : TypeId} {fr : Nat × Nat} {v : Value} (hg : w.heap[g]? = some (.cells cs.toArray t fr)) (h : cs[j]? = some v) : w.cell? ⟨g, j, none⟩ = some v := by
  rw [cell_of_row w g j _ t fr hg]; simpa using h
/-- A function in a block of its own. -/
theorem code_fn {w : World} {g K : Nat} {f : List Ins} {fr : Nat × Nat} (hg : w.heap[g]? = some (.cells (icells f).toArray 53 fr)) (hK : g < K) :
    ∀ (j : Nat) (x : Ins), f[j]? = some x → ∃ b' off', (some (⟨g, 0, none⟩ : Addr)) = some ⟨b', off', none⟩ ∧ b' < K ∧ w.cell? ⟨b', off' + j * 4, none⟩ = some (.int .i64 x.op) ∧ w.cell? ⟨b', off' + j * 4 + 1, none⟩ = some (.int .i64 x.a) ∧
      w.cell? ⟨b', off' + j * 4 + 2, none⟩ = some (.int .i64 x.b) ∧ w.cell? ⟨b', off' + j * 4 + 3, none⟩ = some (.int .i64 x.c) := by
  intro j x hx
  refine ⟨g, 0, rfl, hK, ?_, ?_, ?_, ?_⟩
  all_goals
    rw [Nat.zero_add]
    refine cells_cell hg ?_
  · exact (icells_get f j 0 x hx (by decide))
  · exact (icells_get f j 1 x hx (by decide))
  · exact (icells_get f j 2 x hx (by decide))
  · exact (icells_get f j 3 x hx (by decide))
theorem heap2 (w : World) (A B : Obj) : ((w.alloc A).alloc B).heap[w.heap.size]? = some A ∧ ((w.alloc A).alloc B).heap[w.heap.size + 1]? = some B := ⟨heap_alloc2_old w A B, heap_alloc2_new w A B⟩
/-- One function, in new blocks. -/
theorem code_one (w : World) (f : List Ins) : CodeAt (w.heap.size + 2) ((w.alloc (.cells (icells f).toArray 53)).alloc (.cells #[.slice (some ⟨w.heap.size, 0, none⟩) f.length f.length] 51)) (some ⟨w.heap.size + 1, 0, none⟩) [f] := by
  intro i g hg
  obtain ⟨rfl, rfl⟩ : i = 0 ∧ g = f := by
    cases i with
    | zero => simp at hg; exact ⟨rfl, hg.symm⟩
    | succ i => simp at hg
  obtain ⟨h1, h2⟩ := heap2 w (.cells (icells g).toArray 53) (.cells #[.slice (some ⟨w.heap.size, 0, none⟩) g.length g.length] 51)
  exact ⟨_, _, rfl, by omega, _, _, (cells_cell (cs := [_]) h2 rfl), code_fn h1 (by omega)⟩
end Go.Proofs.YtonndofbnhnkpaaGreat.VmA
