/- Maps from whole numbers that the call itself makes, entry by entry: a store at a new key, a look-up. The contract of stats.Of. -/
import Derived.ProofKit
import Derived.WalkKit
import Derived.MapKept
import Derived.Maps.OwnOps
import Derived.Laws.AppendOwn
import Derived.Test.YtonndofbnhnkpaaStatB
import Derived.Carry
set_option linter.unusedVariables false
set_option linter.unusedSimpArgs false
set_option linter.unusedSectionVars false
namespace Go.Proofs.Ytonndofbnhnkpaa.MapI
open Go.MapKept
theorem findNow_miss (k : Int) : ∀ (l : List MapEntry) (i : Nat), (∀ e ∈ l, ∃ n, e.key = .int .i64 n ∧ n ≠ k) → Instr.findNow (.int .i64) (.int .i64 k) l i = some none
  | [], _, _ => rfl
  | e :: l, i, h => by
    obtain ⟨n, h1, h2⟩ := h e (by simp)
    unfold Instr.findNow
    rw [h1]
    have : (k == n) = false := by simpa using Ne.symm h2
    simp [Instr.sameNow, this]
    exact findNow_miss k l (i + 1) (fun e he => h e (by simp [he]))
theorem run_insert (P : Program) (w : World) (T K E : TypeId) (hT : P.underlying T = some (.map K E)) (hK : P.underlying K = some (.int .i64)) (r : Nat) (es : Array MapEntry) (c : Nat) (hr : w.heap[r]? = some (.map es c)) (k : Int) (v : Value)
    (hf : ∀ e ∈ es.toList, ∃ n, e.key = .int .i64 n ∧ n ≠ k) :
    (Instr.mapUpdate T (.map (some r)) (.int .i64 k) v).run P w = .ok () { w with heap := w.heap.setIfInBounds r (.map (es.push ⟨.int .i64 k, v, c⟩) (c + 1)) } := by
  have hg := run_findKey (P := P) (w := w) hK (findNow_miss k es.toList 0 hf)
  have hc : (Instr.checkKey false 10000 K (.int .i64 k)).run P w = .ok () w := run_checkKey hK (show IsKey (.int .i64) (.int .i64 k) from rfl) false 9999
  simp [Instr.mapUpdate, Sem.run_bind, run_underlying hT, Result.andThen, Go.MapKept.run_getObj_map hr, hc, hg, run_setObj_map _ hr]
theorem run_lookup_hit (P : Program) (w : World) (T K E : TypeId) (hT : P.underlying T = some (.map K E)) (hK : P.underlying K = some (.int .i64)) (r : Nat) (es : Array MapEntry) (c : Nat) (hr : w.heap[r]? = some (.map es c)) (k : Int) (i : Nat) (v : Value)
    (hf : Instr.findNow (.int .i64) (.int .i64 k) es.toList 0 = some (some (i, v))) :
    (Instr.lookup T (.map (some r)) (.int .i64 k) false).run P w = .ok v w := by
  have hg := run_findKey (P := P) (w := w) hK hf
  have hc : (Instr.checkKey es.isEmpty 10000 K (.int .i64 k)).run P w = .ok () w := run_checkKey hK (show IsKey (.int .i64) (.int .i64 k) from rfl) es.isEmpty 9999
  simp [Instr.lookup, Sem.run_bind, run_underlying hT, Result.andThen, Go.MapKept.run_getObj_map hr, hc, hg]
theorem run_lookup_miss (P : Program) (w : World) (T K E : TypeId) (hT : P.underlying T = some (.map K E)) (hK : P.underlying K = some (.int .i64)) (r : Nat) (es : Array MapEntry) (c : Nat) (hr : w.heap[r]? = some (.map es c)) (k : Int) (z : Value)
    (hz : (zeroValue E).run P w = .ok z w) (hf : ∀ e ∈ es.toList, ∃ n, e.key = .int .i64 n ∧ n ≠ k) :
    (Instr.lookup T (.map (some r)) (.int .i64 k) false).run P w = .ok z w := by
  have hg := run_findKey (P := P) (w := w) hK (findNow_miss k es.toList 0 hf)
  have hc : (Instr.checkKey es.isEmpty 10000 K (.int .i64 k)).run P w = .ok () w := run_checkKey hK (show IsKey (.int .i64) (.int .i64 k) from rfl) es.isEmpty 9999
  simp [Instr.lookup, Sem.run_bind, run_underlying hT, Result.andThen, Go.MapKept.run_getObj_map hr, hc, hg, hz]
theorem grown_setBlock {w : World} {r : Nat} {o' : Obj} : w.grownBy { w with heap := w.heap.setIfInBounds r o' } (some r) :=
  ⟨rfl, rfl, rfl, by simp, fun i _ hne => by
    have : r ≠ i := fun e => hne (by rw [e])
    simp [this]⟩
theorem wpList_insert_new {P : Program} (w : World) {ops : Array Oper} {rest : List Oper} {o : Oper} {a : Act} {Q : Exit → Act → World → Prop}
    (hg : o.guard = none) (m x v : Operand) (T : TypeId) (hop : o.op = Op.insert T m x v) (K E : TypeId) (hT : P.underlying T = some (.map K E)) (hK : P.underlying K = some (.int .i64)) (r : Nat) (es : Array MapEntry) (c : Nat)
    (hm : a.eval m = .map (some r)) (hr : w.heap[r]? = some (.map es c)) (k : Int) (hx : a.eval x = .int .i64 k) (val : Value) (hv : a.eval v = val) (hf : ∀ e ∈ es.toList, ∃ n, e.key = .int .i64 n ∧ n ≠ k)
    (hK' : ∀ w', w'.heap[r]? = some (.map (es.push ⟨.int .i64 k, val, c⟩) (c + 1)) → w.grownBy w' (some r) → wpList P ops Q rest (a.put o.dst undef) w') : wpList P ops Q (o :: rest) a w := by
  refine wpList_plain hg fun K' hKK => ?_
  have hrun := run_insert P w T K E hT hK r es c hr k val hf
  unfold Oper.wp
  simp [execOp, hop, hm, hx, hv, hrun, Result.andThen]
  exact hKK _ _ (hK' _ (heap_set hr).1 grown_setBlock)
theorem wpList_lookup_is {P : Program} (w : World) {ops : Array Oper} {rest : List Oper} {o : Oper} {a : Act} {Q : Exit → Act → World → Prop}
    (hg : o.guard = none) (m x : Operand) (T : TypeId) (hop : o.op = Op.lookup T m x false) (mv xv : Value) (hm : a.eval m = mv) (hx : a.eval x = xv) (u : Value) (hrun : (Instr.lookup T mv xv false).run P w = .ok u w)
    (h : wpList P ops Q rest (a.put o.dst u) w) : wpList P ops Q (o :: rest) a w := by
  refine wpList_plain hg fun K' hKK => ?_
  unfold Oper.wp
  simp [execOp, hop, hm, hx, hrun, Result.andThen]
  exact hKK _ _ h
end Go.Proofs.Ytonndofbnhnkpaa.MapI
namespace Go.Proofs.Ytonndofbnhnkpaa.StatO
open Go.RowKit Num KeyM KeyW StatM StatW MapI
def stV (s : St) : Value := .agg #[.int .i64 s.st, .int .i64 s.fi, .int .i64 s.va, .int .i64 s.er, .int .i64 s.se, .int .i64 s.de, .int .i64 s.op]
/-- A slice of events reads as these. -/
def RdEv (w : World) (A : Option Addr) (es : List Ev) : Prop :=
  0 < es.length → ∃ b off, A = some ⟨b, off, none⟩ ∧ ∀ (i : Nat) (e : Ev), es[i]? = some e →
    w.cell? ⟨b, off + i * 4, none⟩ = some (.int .i64 e.kind) ∧ w.cell? ⟨b, off + i * 4 + 1, none⟩ = some (.int .i64 e.key) ∧
    w.cell? ⟨b, off + i * 4 + 2, none⟩ = some (.int .i64 e.how) ∧ w.cell? ⟨b, off + i * 4 + 3, none⟩ = some (.int .i64 e.val)
theorem neq_63 (w : World) : (binOp .neq 103 (.func (.func 52) #[] #[]) .nilFunc).run Try.prog w = .ok (.bool true) w := by kernel_rfl
theorem neq_64 (w : World) : (binOp .neq 103 (.func (.func 53) #[] #[]) .nilFunc).run Try.prog w = .ok (.bool true) w := by kernel_rfl
theorem neq_65 (w : World) : (binOp .neq 103 (.func (.func 54) #[] #[]) .nilFunc).run Try.prog w = .ok (.bool true) w := by kernel_rfl
theorem neq_nil (w : World) : (binOp .neq 103 .nilFunc .nilFunc).run Try.prog w = .ok (.bool false) w := by kernel_rfl
theorem heap_third (w : World) (a b o : Obj) : (((w.alloc a).alloc b).alloc o).heap[w.heap.size + 1 + 1]? = some o := by
  have := heap_alloc_new ((w.alloc a).alloc b) o
  simpa using this
theorem on_trans {B : Nat} {a b c : World} (h : On B a b) (k : On B b c) : On B a c :=
  ⟨k.os.trans h.os, k.tape.trans h.tape, k.output.trans h.output, Nat.le_trans h.size k.size, fun i hi hne => (k.block i (Nat.lt_of_lt_of_le hi h.size) hne).trans (h.block i hi hne)⟩
theorem bl_on {R : Nat} {w a b : World} (h : Bl w a) (k : On R a b) (hR : w.heap.size ≤ R) : Bl w b :=
  ⟨k.os.trans h.os, k.tape.trans h.tape, k.output.trans h.output, Nat.le_trans h.size k.size, fun i hi => (k.block i (Nat.lt_of_lt_of_le hi h.size) (by simp; omega)).trans (h.block i hi)⟩
/-- The table of what counts an event. -/
def adds : Array MapEntry := ((#[].push ⟨.int .i64 1, .func (.func 52) #[] #[], 0⟩).push ⟨.int .i64 2, .func (.func 53) #[] #[], 1⟩).push ⟨.int .i64 3, .func (.func 54) #[] #[], 2⟩
theorem zero57 (w : World) : (zeroValue 103).run Try.prog w = .ok .nilFunc w := by kernel_rfl
theorem look_1 (W : World) (R c : Nat) (h : W.heap[R]? = some (.map adds c)) : (Instr.lookup 106 (.map (some R)) (.int .i64 1) false).run Try.prog W = .ok (.func (.func 52) #[] #[]) W :=
  run_lookup_hit Try.prog W 106 3 103 Try.underlying106 Try.underlying3 R adds c h 1 0 _ rfl
theorem look_2 (W : World) (R c : Nat) (h : W.heap[R]? = some (.map adds c)) : (Instr.lookup 106 (.map (some R)) (.int .i64 2) false).run Try.prog W = .ok (.func (.func 53) #[] #[]) W :=
  run_lookup_hit Try.prog W 106 3 103 Try.underlying106 Try.underlying3 R adds c h 2 1 _ rfl
theorem look_3 (W : World) (R c : Nat) (h : W.heap[R]? = some (.map adds c)) : (Instr.lookup 106 (.map (some R)) (.int .i64 3) false).run Try.prog W = .ok (.func (.func 54) #[] #[]) W :=
  run_lookup_hit Try.prog W 106 3 103 Try.underlying106 Try.underlying3 R adds c h 3 2 _ rfl
theorem look_0 (W : World) (R c : Nat) (h : W.heap[R]? = some (.map adds c)) (k : Int) (h1 : k ≠ 1) (h2 : k ≠ 2) (h3 : k ≠ 3) : (Instr.lookup 106 (.map (some R)) (.int .i64 k) false).run Try.prog W = .ok .nilFunc W :=
  run_lookup_miss Try.prog W 106 3 103 Try.underlying106 Try.underlying3 R adds c h k _ (zero57 W) (by
    intro e he
    simp [adds] at he
    rcases he with rfl | rfl | rfl
    · exact ⟨1, rfl, Ne.symm h1⟩
    · exact ⟨2, rfl, Ne.symm h2⟩
    · exact ⟨3, rfl, Ne.symm h3⟩)
set_option maxRecDepth 100000 in
set_option maxHeartbeats 2000000 in
theorem of_any (A : Option Addr) (cap : Nat) (es : List Ev) (w : World) (h : RdEv w A es) (hl : es.length ≤ 1000000000000000000) :
    Calls Try.prog 19 #[.slice A es.length cap] w fun x w' => x = .returned (stV (ofM es)) ∧ Bl w w' := by
  have hmm := @run_makeMap Try.prog
  go_enter Try.func19, Try.ntmps19
  go_wp2_with (first
    | (with_reducible refine wpList_insert_new (o := ⟨none, .insert 106 _ _ _, _, _, _, none⟩) _ rfl _ _ _ 106 rfl 3 103 Try.underlying106 Try.underlying3 (w.heap.size + 1 + 1) #[] 0 rfl (heap_third _ _ _ _) _ rfl _ rfl (by simp) ?_; intro w3 hm3 hg3)
    | (with_reducible refine wpList_insert_new (o := ⟨none, .insert 106 _ _ _, _, _, _, none⟩) _ rfl _ _ _ 106 rfl 3 103 Try.underlying106 Try.underlying3 (w.heap.size + 1 + 1) _ _ rfl (by assumption) _ rfl _ rfl (by simp) ?_; intro w4 hm4 hg4))
  have hg34 : On (w.heap.size + 1 + 1) (((w.alloc _).alloc _).alloc _) w4 := on_trans hg3 (on_trans (by assumption) hg4)
  have hm4' : w4.heap[w.heap.size + 1 + 1]? = some (.map adds 3) := hm4
  have hr1 : w4.rowIs (w.heap.size + 1) 25 7 (stF St.zero) := by
    refine World.rowIs.of_block (w := ((w.alloc _).alloc _).alloc _) ?_ (hg34.block _ (by simp) (by simp))
    refine World.rowIs.alloc ?_ _
    have := World.rowIs_alloc (w.alloc (.cells #[.int .i64 0, .int .i64 0, .int .i64 0, .int .i64 0, .int .i64 0, .int .i64 0, .int .i64 0] 25)) #[.int .i64 0, .int .i64 0, .int .i64 0, .int .i64 0, .int .i64 0, .int .i64 0, .int .i64 0] 25 (stF St.zero) (by
      intro i hi
      simp at hi
      obtain rfl | rfl | rfl | rfl | rfl | rfl | rfl : i = 0 ∨ i = 1 ∨ i = 2 ∨ i = 3 ∨ i = 4 ∨ i = 5 ∨ i = 6 := by omega
      all_goals rfl)
    simpa using this
  have hr0 : w4.rowIs w.heap.size 25 7 (stF St.zero) := by
    refine World.rowIs.of_block (w := ((w.alloc _).alloc _).alloc _) ?_ (hg34.block _ (by first | (simp; done) | (simp; omega)) (by first | (simp; done) | (simp; omega)))
    refine World.rowIs.alloc (World.rowIs.alloc ?_ _) _
    have := World.rowIs_alloc w #[.int .i64 0, .int .i64 0, .int .i64 0, .int .i64 0, .int .i64 0, .int .i64 0, .int .i64 0] 25 (stF St.zero) (by
      intro i hi
      simp at hi
      obtain rfl | rfl | rfl | rfl | rfl | rfl | rfl : i = 0 ∨ i = 1 ∨ i = 2 ∨ i = 3 ∨ i = 4 ∨ i = 5 ∨ i = 6 := by omega
      all_goals rfl)
    simpa using this
  have hB4 : Bl w w4 := bl_on ((((Bl.refl w).alloc _).alloc _).alloc _) hg34 (by omega)
  have hs4 : w.heap.size + 1 + 1 < w4.heap.size := by
    rcases Nat.lt_or_ge (w.heap.size + 1 + 1) w4.heap.size with g | g
    · exact g
    · simp [Array.getElem?_eq_none g] at hm4'
  clear hg34 hm4
  go_loopw [12] (fun c wr => ∃ j : Nat, j ≤ es.length ∧ c = .int .i64 j ∧ wr.rowIs (w.heap.size + 1) 25 7 (stF (ofM (es.take j))) ∧ wr.rowIs w.heap.size 25 7 (stF St.zero) ∧ wr.heap[w.heap.size + 1 + 1]? = some (.map adds 3) ∧ Bl w wr) (fun c _ => es.length - (intOf c).toNat)
  case atStart => exact ⟨0, by omega, rfl, hr1, hr0, hm4', hB4⟩
  case round =>
    obtain ⟨j, hj, rfl, hR, hR0, hM, hB⟩ := hrel
    by_cases hlt : j < es.length
    · obtain ⟨b, off, rfl, hc⟩ := h (by omega)
      obtain ⟨e, he⟩ : ∃ e, es[j]? = some e := ⟨_, List.getElem?_eq_getElem hlt⟩
      obtain ⟨c1, c2, c3, c4⟩ := hc j e he
      have c1 := st_cell hB c1
      have c2 := st_cell hB c2
      have c3 := st_cell hB c3
      have c4 := st_cell hB c4
      have hT : es.take (j + 1) = es.take j ++ [e] := by rw [List.take_add_one, he]; rfl
      have hS := ofM_snoc (es.take j) e
      rw [← hT] at hS
      have HS := Lib.hid hS
      have hbd := bd_of (es.take j)
      have hlen : ((es.take j).length : Int) ≤ 9000000000000000000 := by rw [List.length_take]; omega
      have hsz := hM
      have hlM : w.heap.size + 1 + 1 < wr.heap.size := by
        rcases Nat.lt_or_ge (w.heap.size + 1 + 1) wr.heap.size with g | g
        · exact g
        · simp [Array.getElem?_eq_none g] at hsz
      clear hsz hS hT hc
      by_cases k1 : e.kind = 1
      · have hlk : ∀ (W : World), W.heap[w.heap.size + 1 + 1]? = some (.map adds 3) → (Instr.lookup 106 (.map (some (w.heap.size + 1 + 1))) (.int .i64 e.kind) false).run Try.prog W = .ok (.func (.func 52) #[] #[]) W := by
          intro W hW; rw [k1]; exact look_1 W _ 3 hW
        have hE : Hid (StatM.step (ofM (es.take j)) e = { ofM (es.take j) with st := (ofM (es.take j)).st + 1, op := (ofM (es.take j)).op + 1, de := max (ofM (es.take j)).de (dep e.key) }) := by
          show _ = _; unfold StatM.step; rw [if_pos k1]
        clear k1
        have hnf := neq_63
        go_wp2_with (first
          | (at_lookup; refine wpList_lookup_is (o := ⟨some 19, _, _, _, _, none⟩) _ rfl _ _ 106 rfl (.map (some (w.heap.size + 1 + 1))) (.int .i64 e.kind) rfl rfl _ (hlk _ ((heap_alloc_old wr _ hlM).trans hM)) ?_)
          | (go_at_call 52; refine (start_any (w.heap.size + 1) (ofM (es.take j)) e _ (hR.alloc _) hbd hlen).mono ?_; rintro x w5 ⟨rfl, hR5, hO5⟩))
        go_roundw
        case rel => exact ⟨j + 1, by omega, by go_num, by rw [HS.out, hE.out]; exact hR5, (hR0.alloc _).of_block (hO5.block _ (by simp; omega) (by simp)), (hO5.block _ (by simp; omega) (by simp)).trans ((heap_alloc_old wr _ hlM).trans hM), bl_on (hB.alloc _) hO5 (by omega)⟩
        case measure => simp [intOf]; omega
      by_cases k2 : e.kind = 2
      · have hlk : ∀ (W : World), W.heap[w.heap.size + 1 + 1]? = some (.map adds 3) → (Instr.lookup 106 (.map (some (w.heap.size + 1 + 1))) (.int .i64 e.kind) false).run Try.prog W = .ok (.func (.func 53) #[] #[]) W := by
          intro W hW; rw [k2]; exact look_2 W _ 3 hW
        have hE : Hid (StatM.step (ofM (es.take j)) e = if e.how = 1 then { ofM (es.take j) with fi := (ofM (es.take j)).fi + 1, op := (ofM (es.take j)).op - 1, va := (ofM (es.take j)).va + 1 } else { ofM (es.take j) with fi := (ofM (es.take j)).fi + 1, op := (ofM (es.take j)).op - 1, er := (ofM (es.take j)).er + 1 }) := by
          show _ = _; unfold StatM.step; rw [if_neg k1, if_pos k2]
        clear k1 k2
        have hnf := neq_64
        go_wp2_with (first
          | (at_lookup; refine wpList_lookup_is (o := ⟨some 19, _, _, _, _, none⟩) _ rfl _ _ 106 rfl (.map (some (w.heap.size + 1 + 1))) (.int .i64 e.kind) rfl rfl _ (hlk _ ((heap_alloc_old wr _ hlM).trans hM)) ?_)
          | (go_at_call 53; refine (finish_any (w.heap.size + 1) (ofM (es.take j)) e _ (hR.alloc _) hbd hlen).mono ?_; rintro x w5 ⟨rfl, hR5, hO5⟩))
        go_roundw
        case rel => exact ⟨j + 1, by omega, by go_num, by rw [HS.out, hE.out]; exact hR5, (hR0.alloc _).of_block (hO5.block _ (by simp; omega) (by simp)), (hO5.block _ (by simp; omega) (by simp)).trans ((heap_alloc_old wr _ hlM).trans hM), bl_on (hB.alloc _) hO5 (by omega)⟩
        case measure => simp [intOf]; omega
      by_cases k3 : e.kind = 3
      · have hlk : ∀ (W : World), W.heap[w.heap.size + 1 + 1]? = some (.map adds 3) → (Instr.lookup 106 (.map (some (w.heap.size + 1 + 1))) (.int .i64 e.kind) false).run Try.prog W = .ok (.func (.func 54) #[] #[]) W := by
          intro W hW; rw [k3]; exact look_3 W _ 3 hW
        have hE : Hid (StatM.step (ofM (es.take j)) e = { ofM (es.take j) with se := (ofM (es.take j)).se + 1 }) := by
          show _ = _; unfold StatM.step; rw [if_neg k1, if_neg k2, if_pos k3]
        clear k1 k2 k3
        have hnf := neq_65
        go_wp2_with (first
          | (at_lookup; refine wpList_lookup_is (o := ⟨some 19, _, _, _, _, none⟩) _ rfl _ _ 106 rfl (.map (some (w.heap.size + 1 + 1))) (.int .i64 e.kind) rfl rfl _ (hlk _ ((heap_alloc_old wr _ hlM).trans hM)) ?_)
          | (go_at_call 54; refine (set_any (w.heap.size + 1) (ofM (es.take j)) e _ (hR.alloc _) hbd.e0 (by have := hbd.e1; omega)).mono ?_; rintro x w5 ⟨rfl, hR5, hO5⟩))
        go_roundw
        case rel => exact ⟨j + 1, by omega, by go_num, by rw [HS.out, hE.out]; exact hR5, (hR0.alloc _).of_block (hO5.block _ (by simp; omega) (by simp)), (hO5.block _ (by simp; omega) (by simp)).trans ((heap_alloc_old wr _ hlM).trans hM), bl_on (hB.alloc _) hO5 (by omega)⟩
        case measure => simp [intOf]; omega
      · have hlk : ∀ (W : World), W.heap[w.heap.size + 1 + 1]? = some (.map adds 3) → (Instr.lookup 106 (.map (some (w.heap.size + 1 + 1))) (.int .i64 e.kind) false).run Try.prog W = .ok .nilFunc W := by
          intro W hW; exact look_0 W _ 3 hW e.kind k1 k2 k3
        have hE : Hid (StatM.step (ofM (es.take j)) e = ofM (es.take j)) := by
          show _ = _; unfold StatM.step; rw [if_neg k1, if_neg k2, if_neg k3]
        clear k1 k2 k3
        have hnf := neq_nil
        go_wp2_with (first
          | (at_lookup; refine wpList_lookup_is (o := ⟨some 19, _, _, _, _, none⟩) _ rfl _ _ 106 rfl (.map (some (w.heap.size + 1 + 1))) (.int .i64 e.kind) rfl rfl _ (hlk _ ((heap_alloc_old wr _ hlM).trans hM)) ?_))
        go_roundw
        case rel => exact ⟨j + 1, by omega, by go_num, by rw [HS.out, hE.out]; exact hR.alloc _, hR0.alloc _, (heap_alloc_old wr _ hlM).trans hM, hB.alloc _⟩
        case measure => simp [intOf]; omega
    · obtain rfl : j = es.length := by omega
      rw [List.take_length] at hR
      have d0 : wr.cell? ⟨w.heap.size + 1, 0, none⟩ = some (.int .i64 (ofM es).st) := hR.cell (i := 0) (by omega)
      have z0 : wr.cell? ⟨w.heap.size, 0, none⟩ = some (.int .i64 0) := hR0.cell (i := 0) (by omega)
      have f0 := hR0.frozen 0
      have d1 : wr.cell? ⟨w.heap.size + 1, 1, none⟩ = some (.int .i64 (ofM es).fi) := hR.cell (i := 1) (by omega)
      have z1 : wr.cell? ⟨w.heap.size, 1, none⟩ = some (.int .i64 0) := hR0.cell (i := 1) (by omega)
      have f1 := hR0.frozen 1
      have d2 : wr.cell? ⟨w.heap.size + 1, 2, none⟩ = some (.int .i64 (ofM es).va) := hR.cell (i := 2) (by omega)
      have z2 : wr.cell? ⟨w.heap.size, 2, none⟩ = some (.int .i64 0) := hR0.cell (i := 2) (by omega)
      have f2 := hR0.frozen 2
      have d3 : wr.cell? ⟨w.heap.size + 1, 3, none⟩ = some (.int .i64 (ofM es).er) := hR.cell (i := 3) (by omega)
      have z3 : wr.cell? ⟨w.heap.size, 3, none⟩ = some (.int .i64 0) := hR0.cell (i := 3) (by omega)
      have f3 := hR0.frozen 3
      have d4 : wr.cell? ⟨w.heap.size + 1, 4, none⟩ = some (.int .i64 (ofM es).se) := hR.cell (i := 4) (by omega)
      have z4 : wr.cell? ⟨w.heap.size, 4, none⟩ = some (.int .i64 0) := hR0.cell (i := 4) (by omega)
      have f4 := hR0.frozen 4
      have d5 : wr.cell? ⟨w.heap.size + 1, 5, none⟩ = some (.int .i64 (ofM es).de) := hR.cell (i := 5) (by omega)
      have z5 : wr.cell? ⟨w.heap.size, 5, none⟩ = some (.int .i64 0) := hR0.cell (i := 5) (by omega)
      have f5 := hR0.frozen 5
      have d6 : wr.cell? ⟨w.heap.size + 1, 6, none⟩ = some (.int .i64 (ofM es).op) := hR.cell (i := 6) (by omega)
      have z6 : wr.cell? ⟨w.heap.size, 6, none⟩ = some (.int .i64 0) := hR0.cell (i := 6) (by omega)
      have f6 := hR0.frozen 6
      have hlt0 := hR0.lt
      have HB := Lib.hid hB
      obtain ⟨s, hs⟩ : ∃ s, ofM es = s := ⟨_, rfl⟩
      rw [hs] at d0 d1 d2 d3 d4 d5 d6
      have HSS := Lib.hid hs
      clear hs
      clear hM hR hR0 hB hm3 hg3 hg4 hm4' hr1 hr0 hB4 hs4 h hmm
      go_wp2_with fail
      refine bodyPost_ret (v := stV s) ?_ rfl ⟨by rw [HSS.out], ?_⟩
      · simp [results, Try.results53, go_sem, z0, z1, z2, z3, z4, z5, z6, stV]
      · exact ((((((Below.setCell HB.out (Nat.le_refl _) _).setCell (Nat.le_refl _) _).setCell (Nat.le_refl _) _).setCell (Nat.le_refl _) _).setCell (Nat.le_refl _) _).setCell (Nat.le_refl _) _).setCell (Nat.le_refl _) _
end Go.Proofs.Ytonndofbnhnkpaa.StatO
