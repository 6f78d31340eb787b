/- Maps from whole numbers that the call itself makes, entry by entry: a store at a new key, a look-up. The contract of stats.Of. -/
import Derived.ProofKit
import Derived.WalkKit
import Derived.MapKept
import Derived.Maps.OwnOps
import Derived.Laws.AppendOwn
import Derived.Test.YtonndofbnhnkpaaGreatStatB
import Derived.Carry
set_option linter.unusedVariables false
set_option linter.unusedSimpArgs false
set_option linter.unusedSectionVars false
namespace Go.Proofs.YtonndofbnhnkpaaGreat.MapI
open Go.MapKept
theorem findNow_miss (k : Int) : ∀ (l : List MapEntry) (i : Nat), (∀ e ∈ l, ∃ n, e.key = .int .i64 n ∧ n ≠ k) → Instr.findNow (.int .i64) (.int .i64 k) l i = some none
  | [], _, _ => rfl
  | e :: l, i, h => by
    obtain ⟨n, h1, h2⟩ := h e (by simp)
    unfold Instr.findNow
    rw [h1]
    have : (k == n) = false := by simpa using Ne.symm h2
    simp [Instr.sameNow, this]
    exact findNow_miss k l (i + 1) (fun e he => h e (by simp [he]))
theorem run_insert (P : Program) (w : World) (T K E : TypeId) (hT : P.underlying T = some (.map K E)) (hK : P.underlying K = some (.int .i64)) (r : Nat) (es : Array MapEntry) (c : Nat) (hr : w.heap[r]? = some (.map es c)) (k : Int) (v : Value)
    (hf : ∀ e ∈ es.toList, ∃ n, e.key = .int .i64 n ∧ n ≠ k) :
    (Instr.mapUpdate T (.map (some r)) (.int .i64 k) v).run P w = .ok () { w with heap := w.heap.setIfInBounds r (.map (es.push ⟨.int .i64 k, v, c⟩) (c + 1)) } := by
  have hg := run_findKey (P := P) (w := w) hK (findNow_miss k es.toList 0 hf)
  have hc : (Instr.checkKey false 10000 K (.int .i64 k)).run P w = .ok () w := run_checkKey hK (show IsKey (.int .i64) (.int .i64 k) from rfl) false 9999
  simp [Instr.mapUpdate, Sem.run_bind, run_underlying hT, Result.andThen, Go.MapKept.run_getObj_map hr, hc, hg, run_setObj_map _ hr]
theorem run_lookup_hit (P : Program) (w : World) (T K E : TypeId) (hT : P.underlying T = some (.map K E)) (hK : P.underlying K = some (.int .i64)) (r : Nat) (es : Array MapEntry) (c : Nat) (hr : w.heap[r]? = some (.map es c)) (k : Int) (i : Nat) (v : Value)
    (hf : Instr.findNow (.int .i64) (.int .i64 k) es.toList 0 = some (some (i, v))) :
    (Instr.lookup T (.map (some r)) (.int .i64 k) false).run P w = .ok v w := by
  have hg := run_findKey (P := P) (w := w) hK hf
  have hc : (Instr.checkKey es.isEmpty 10000 K (.int .i64 k)).run P w = .ok () w := run_checkKey hK (show IsKey (.int .i64) (.int .i64 k) from rfl) es.isEmpty 9999
  simp [Instr.lookup, Sem.run_bind, run_underlying hT, Result.andThen, Go.MapKept.run_getObj_map hr, hc, hg]
theorem run_lookup_miss (P : Program) (w : World) (T K E : TypeId) (hT : P.underlying T = some (.map K E)) (hK : P.underlying K = some (.int .i64)) (r : Nat) (es : Array MapEntry) (c : Nat) (hr : w.heap[r]? = some (.map es c)) (k : Int) (z : Value)
    (hz : (zeroValue E).run P w = .ok z w) (hf : ∀ e ∈ es.toList, ∃ n, e.key = .int .i64 n ∧ n ≠ k) :
    (Instr.lookup T (.map (some r)) (.int .i64 k) false).run P w = .ok z w := by
  have hg := run_findKey (P := P) (w := w) hK (findNow_miss k es.toList 0 hf)
  have hc : (Instr.checkKey es.isEmpty 10000 K (.int .i64 k)).run P w = .ok () w := run_checkKey hK (show IsKey (.int .i64) (.int .i64 k) from rfl) es.isEmpty 9999
  simp [Instr.lookup, Sem.run_bind, run_underlying hT, Result.andThen, Go.MapKept.run_getObj_map hr, hc, hg, hz]
theorem grown_setBlock {w : World} {r : Nat} {o' : Obj} : w.grownBy { w with heap := w.heap.setIfInBounds r o' } (some r) :=
  ⟨rfl, rfl, rfl, by simp, fun i _ hne => by
    have : r ≠ i := fun e => hne (by rw [e])
    simp [this]⟩
theorem wpList_insert_new {P : Program} (w : World) {ops : Array Oper} {rest : List Oper} {o : Oper} {a : Act} {Q : Exit → Act → World → Prop}
    (hg : o.guard = none) (m x v : Operand) (T : TypeId) (hop : o.op = Op.insert T m x v) (K E : TypeId) (hT : P.underlying T = some (.map K E)) (hK : P.underlying K = some (.int .i64)) (r : Nat) (es : Array MapEntry) (c : Nat)
    (hm : a.eval m = .map (some r)) (hr : w.heap[r]? = some (.map es c)) (k : Int) (hx : a.eval x = .int .i64 k) (val : Value) (hv : a.eval v = val) (hf : ∀ e ∈ es.toList, ∃ n, e.key = .int .i64 n ∧ n ≠ k)
    (hK' : ∀ w', w'.heap[r]? = some (.map (es.push ⟨.int .i64 k, val, c⟩) (c + 1)) → w.grownBy w' (some r) → wpList P ops Q rest (a.put o.dst undef) w') : wpList P ops Q (o :: rest) a w := by
  refine wpList_plain hg fun K' hKK => ?_
  have hrun := run_insert P w T K E hT hK r es c hr k val hf
  unfold Oper.wp
  simp [execOp, hop, hm, hx, hv, hrun, Result.andThen]
  exact hKK _ _ (hK' _ (heap_set hr).1 grown_setBlock)
theorem wpList_lookup_is {P : Program} (w : World) {ops : Array Oper} {rest : List Oper} {o : Oper} {a : Act} {Q : Exit → Act → World → Prop}
    (hg : o.guard = none) (m x : Operand) (T : TypeId) (hop : o.op = Op.lookup T m x false) (mv xv : Value) (hm : a.eval m = mv) (hx : a.eval x = xv) (u : Value) (hrun : (Instr.lookup T mv xv false).run P w = .ok u w)
    (h : wpList P ops Q rest (a.put o.dst u) w) : wpList P ops Q (o :: rest) a w := by
  refine wpList_plain hg fun K' hKK => ?_
  unfold Oper.wp
  simp [execOp, hop, hm, hx, hrun, Result.andThen]
  exact hKK _ _ h
end Go.Proofs.YtonndofbnhnkpaaGreat.MapI
namespace Go.Proofs.YtonndofbnhnkpaaGreat.StatO
open Go.RowKit Num KeyM KeyW StatM StatW MapI
def stV (s : St) : Value := .agg #[.int .i64 s.st, .int .i64 s.fi, .int .i64 s.va, .int .i64 s.er, .int .i64 s.se, .int .i64 s.de, .int .i64 s.op]
/-- A slice of events reads as these. -/
def RdEv (w : World) (A : Option Addr) (es : List Ev) : Prop :=
  0 < es.length → ∃ b off, A = some ⟨b, off, none⟩ ∧ ∀ (i : Nat) (e : Ev), es[i]? = some e →
    w.cell? ⟨b, off + i * 4, none⟩ = some (.int .i64 e.kind) ∧ w.cell? ⟨b, off + i * 4 + 1, none⟩ = some (.int .i64 e.key) ∧
    w.cell? ⟨b, off + i * 4 + 2, none⟩ = some (.int .i64 e.how) ∧ w.cell? ⟨b, off + i * 4 + 3, none⟩ = some (.int .i64 e.val)
theorem heap_third (w : World) (a b o : Obj) : (((w.alloc a).alloc b).alloc o).heap[w.heap.size + 1 + 1]? = some o := by
  have := heap_alloc_new ((w.alloc a).alloc b) o
  simpa using this
theorem on_trans {B : Nat} {a b c : World} (h : On B a b) (k : On B b c) : On B a c :=
  ⟨k.os.trans h.os, k.tape.trans h.tape, k.output.trans h.output, Nat.le_trans h.size k.size, fun i hi hne => (k.block i (Nat.lt_of_lt_of_le hi h.size) hne).trans (h.block i hi hne)⟩
theorem bl_on {R : Nat} {w a b : World} (h : Bl w a) (k : On R a b) (hR : w.heap.size ≤ R) : Bl w b :=
  ⟨k.os.trans h.os, k.tape.trans h.tape, k.output.trans h.output, Nat.le_trans h.size k.size, fun i hi => (k.block i (Nat.lt_of_lt_of_le hi h.size) (by simp; omega)).trans (h.block i hi)⟩
end Go.Proofs.YtonndofbnhnkpaaGreat.StatO
