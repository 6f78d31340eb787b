/- The law of joins: the walk. -/
import Derived.Test.YtonndofbnhnkpaaEvE
set_option linter.unusedVariables false
set_option linter.unusedSimpArgs false
set_option linter.unusedSectionVars false
namespace Go.Proofs.Ytonndofbnhnkpaa.Evl
open Go.RowKit Num KeyM KeyW StatW Blk VmA VmG Prg EvM Rf PutA CodA
def inK2 (f : Func) : Code := inK (nth 1 (nth 4 (bodyOf f)))
def inK3 (f : Func) : Code := inK (nth 1 (nth 6 (bodyOf f)))
/-- The frame of the law. -/
structure JnA (a : Act) (joins k wr : Int) (vf : Value) : Prop where
  sz : a.tmps.size = 116
  dfs : a.defers = []
  t2 : a.tmps[2]? = some (.int .i64 joins)
  t7 : a.tmps[7]? = some (.int .i64 k)
  t8 : a.tmps[8]? = some (.int .i64 wr)
  t9 : a.tmps[9]? = some vf
theorem grow_bl {w0 w w' : World} {n : Nat} {e : TypeId} {size : Nat} {v : Value} {xs : List Value} (hb : Bl w0 w) (ho : w.ownsRow w0.heap.size e size v n xs) (hg : w.grownBy w' v.ownBlock) : Bl w0 w' :=
  bl_ch (S := fun i => v.ownBlock = some i) hb ⟨hg.os, hg.tape, hg.output, hg.size, fun i hi hn => hg.block i hi (fun e => hn e.symm)⟩ (fun i hi e => by have := (own_type ho e).1; omega)
theorem one4 (x : Ins) : ∀ u ∈ icell x, u.oneCell' = true := by
  intro u hu
  simp [icell] at hu
  rcases hu with rfl | rfl | rfl | rfl <;> rfl
theorem own_alloc {w : World} {base n : Nat} {e : TypeId} {size : Nat} {v : Value} {xs : List Value} (h : w.ownsRow base e size v n xs) (o : Obj) : (w.alloc o).ownsRow base e size v n xs :=
  own_keep h (fun g hg => by
    obtain ⟨_, cur, hc⟩ := own_type h hg
    rcases Nat.lt_or_ge g w.heap.size with q | q
    · exact heap_alloc_old w o q
    · rw [Array.getElem?_eq_none q] at hc; cases hc)
set_option maxRecDepth 100000 in
set_option maxHeartbeats 8000000 in
theorem jn_r4 (joins k wr i : Int) (vf : Value) (w : World) (a : Act) (Q : Exit → Act → World → Prop) (ha : JnA a joins k wr vf) 
    (hQ : ∀ a' : Act, JnA a' joins k wr vf → a'.tmps[10]? = some (.int .i64 0) → Q .normal a' w) : (nth 0 (nth 4 (bodyOf Try.f13))).wp Try.prog Q a w := by
  simp only [nth, bodyOf, Try.f13, Option.getD, inK]
  obtain ⟨hsz, hdf, t2, t7, t8, t9⟩ := ha
  have HQ := Lib.hid hQ
  clear hQ
  go_wp2_with fail
  exact HQ.out _ ⟨by simp [hsz], by first | rfl | exact hdf, by simp [Array.getElem?_setIfInBounds, t2], by simp [Array.getElem?_setIfInBounds, t7], by simp [Array.getElem?_setIfInBounds, t8], by simp [Array.getElem?_setIfInBounds, t9]⟩ (by simp [Array.getElem?_setIfInBounds, hsz])
set_option maxRecDepth 100000 in
set_option maxHeartbeats 8000000 in
theorem jn_r5 (joins k wr i : Int) (vf : Value) (w : World) (a : Act) (Q : Exit → Act → World → Prop) (ha : JnA a joins k wr vf) (t10 : a.tmps[10]? = some (.int .i64 i))
    (hQ : ∀ a' : Act, JnA a' joins k wr vf → a'.tmps[10]? = some (.int .i64 i) → a'.tmps[25]? = some (.bool (decide (i < k))) → Q .normal a' w) : (nth 0 (nth 0 (inK2 Try.f13))).wp Try.prog Q a w := by
  simp only [nth, bodyOf, Try.f13, Option.getD, inK, inK2]
  obtain ⟨hsz, hdf, t2, t7, t8, t9⟩ := ha
  obtain ⟨_, t7'⟩ := get_of t7
  obtain ⟨_, t10'⟩ := get_of t10
  have HQ := Lib.hid hQ
  clear hQ
  go_wp2_with fail
  exact HQ.out _ ⟨by simp [hsz], by first | rfl | exact hdf, by simp [Array.getElem?_setIfInBounds, t2], by simp [Array.getElem?_setIfInBounds, t7], by simp [Array.getElem?_setIfInBounds, t8], by simp [Array.getElem?_setIfInBounds, t9]⟩ (by simp [Array.getElem?_setIfInBounds, t10]) (by simp [Array.getElem?_setIfInBounds, hsz])
theorem jn_c5 (w : World) (a : Act) (Q : Exit → Act → World → Prop) (h : a.tmps[25]? = some (.bool true)) (hQ : Q .normal a w) : (nth 1 (nth 0 (inK2 Try.f13))).wp Try.prog Q a w := by
  simp only [nth, bodyOf, Try.f13, Option.getD, inK, inK2]
  refine wp_cond (t := true) (by show a.tmps.getD 25 undef = _; rw [Array.getD_eq_getD_getElem?, h]; rfl) ?_
  simp only [if_true]
  go_wp2_with fail
  exact hQ
theorem jn_c5n (w : World) (a : Act) (Q : Exit → Act → World → Prop) (h : a.tmps[25]? = some (.bool false)) (hQ : Q (.exit 0) a w) : (nth 1 (nth 0 (inK2 Try.f13))).wp Try.prog Q a w := by
  simp only [nth, bodyOf, Try.f13, Option.getD, inK, inK2]
  refine wp_cond_false (by show a.tmps.getD 25 undef = _; rw [Array.getD_eq_getD_getElem?, h]; rfl) ?_
  go_wp2_with fail
  exact hQ
set_option maxRecDepth 100000 in
set_option maxHeartbeats 8000000 in
theorem jn_r7 (joins k wr i : Int) (vf : Value) (w : World) (a : Act) (Q : Exit → Act → World → Prop) (ha : JnA a joins k wr vf) (t10 : a.tmps[10]? = some (.int .i64 i))
    (hQ : ∀ a' : Act, JnA a' joins k wr vf → a'.tmps[10]? = some (.int .i64 i) → a'.tmps[11]? = some (.int .i64 1) → Q .normal a' w) : (nth 0 (inK (nth 1 (inK2 Try.f13)))).wp Try.prog Q a w := by
  simp only [nth, bodyOf, Try.f13, Option.getD, inK, inK2]
  obtain ⟨hsz, hdf, t2, t7, t8, t9⟩ := ha
  have HQ := Lib.hid hQ
  clear hQ
  go_wp2_with fail
  exact HQ.out _ ⟨by simp [hsz], by first | rfl | exact hdf, by simp [Array.getElem?_setIfInBounds, t2], by simp [Array.getElem?_setIfInBounds, t7], by simp [Array.getElem?_setIfInBounds, t8], by simp [Array.getElem?_setIfInBounds, t9]⟩ (by simp [Array.getElem?_setIfInBounds, t10]) (by simp [Array.getElem?_setIfInBounds, hsz])
set_option maxRecDepth 100000 in
set_option maxHeartbeats 8000000 in
theorem jn_r8 (joins k wr i : Int) (vf : Value) (w : World) (a : Act) (Q : Exit → Act → World → Prop) (ha : JnA a joins k wr vf) (t10 : a.tmps[10]? = some (.int .i64 i)) (t11 : a.tmps[11]? = some (.int .i64 1))
    (hQ : ∀ a' : Act, JnA a' joins k wr vf → a'.tmps[10]? = some (.int .i64 i) → a'.tmps[11]? = some (.int .i64 1) → a'.tmps[30]? = some (.bool (i == wr)) → Q .normal a' w) : (nth 0 (nth 1 (inK (nth 1 (inK2 Try.f13))))).wp Try.prog Q a w := by
  simp only [nth, bodyOf, Try.f13, Option.getD, inK, inK2]
  obtain ⟨hsz, hdf, t2, t7, t8, t9⟩ := ha
  obtain ⟨_, t8'⟩ := get_of t8
  obtain ⟨_, t10'⟩ := get_of t10
  have HQ := Lib.hid hQ
  clear hQ
  go_wp2_with fail
  exact HQ.out _ ⟨by simp [hsz], by first | rfl | exact hdf, by simp [Array.getElem?_setIfInBounds, t2], by simp [Array.getElem?_setIfInBounds, t7], by simp [Array.getElem?_setIfInBounds, t8], by simp [Array.getElem?_setIfInBounds, t9]⟩ (by simp [Array.getElem?_setIfInBounds, t10]) (by simp [Array.getElem?_setIfInBounds, t11]) (by simp [Array.getElem?_setIfInBounds, hsz])
set_option maxRecDepth 100000 in
set_option maxHeartbeats 8000000 in
theorem jn_c8 (joins k wr i : Int) (vf : Value) (w : World) (a : Act) (Q : Exit → Act → World → Prop) (ha : JnA a joins k wr vf) (t10 : a.tmps[10]? = some (.int .i64 i)) (h : a.tmps[30]? = some (.bool true))
    (hQ : ∀ a' : Act, JnA a' joins k wr vf → a'.tmps[10]? = some (.int .i64 i) → a'.tmps[11]? = some (.int .i64 2) → Q .normal a' w) : (nth 1 (nth 1 (inK (nth 1 (inK2 Try.f13))))).wp Try.prog Q a w := by
  simp only [nth, bodyOf, Try.f13, Option.getD, inK, inK2]
  obtain ⟨hsz, hdf, t2, t7, t8, t9⟩ := ha
  have HQ := Lib.hid hQ
  clear hQ
  refine wp_cond (t := true) (by show a.tmps.getD 30 undef = _; rw [Array.getD_eq_getD_getElem?, h]; rfl) ?_
  simp only [if_true]
  go_wp2_with fail
  exact HQ.out _ ⟨by simp [hsz], by first | rfl | exact hdf, by simp [Array.getElem?_setIfInBounds, t2], by simp [Array.getElem?_setIfInBounds, t7], by simp [Array.getElem?_setIfInBounds, t8], by simp [Array.getElem?_setIfInBounds, t9]⟩ (by simp [Array.getElem?_setIfInBounds, t10]) (by simp [Array.getElem?_setIfInBounds, hsz])
theorem jn_c8n (w : World) (a : Act) (Q : Exit → Act → World → Prop) (h : a.tmps[30]? = some (.bool false)) (hQ : Q .normal a w) : (nth 1 (nth 1 (inK (nth 1 (inK2 Try.f13))))).wp Try.prog Q a w := by
  simp only [nth, bodyOf, Try.f13, Option.getD, inK, inK2]
  refine wp_cond_false (by show a.tmps.getD 30 undef = _; rw [Array.getD_eq_getD_getElem?, h]; rfl) ?_
  go_wp2_with fail
  exact hQ
set_option maxRecDepth 100000 in
set_option maxHeartbeats 8000000 in
theorem jn_r10 (w0 w : World) (m : Nat) (f : List Ins) (joins k wr i b : Int) (vf : Value) (a : Act) (Q : Exit → Act → World → Prop) (ha : JnA a joins k wr vf) (t10 : a.tmps[10]? = some (.int .i64 i)) (t11 : a.tmps[11]? = some (.int .i64 b)) (hbl : Bl w0 w) (ho : w.ownsRow w0.heap.size 48 4 vf m (icells f)) (hm : m ≤ 30)
    (hQ : ∀ (a' : Act) (w' : World) (v' : Value), JnA a' joins k wr v' → a'.tmps[10]? = some (.int .i64 i) → Bl w0 w' → w'.ownsRow w0.heap.size 48 4 v' (m + 1) (icells (f ++ [⟨9, i, b, 0⟩])) → Q .normal a' w') : (nth 2 (inK (nth 1 (inK2 Try.f13)))).wp Try.prog Q a w := by
  simp only [nth, bodyOf, Try.f13, Option.getD, inK, inK2]
  obtain ⟨i0, hi, he⟩ := Option.map_eq_some_iff.1 info48
  obtain ⟨hz0, hz1, hz2⟩ : i0.zero = some (.agg #[.int .i64 0, .int .i64 0, .int .i64 0, .int .i64 0]) ∧ i0.size = 4 ∧ i0.bytes = 32 := by
    injection he with e1 e2
    injection e2 with e2 e3
    exact ⟨e1, e2, e3⟩
  obtain ⟨hsz, hdf, t2, t7, t8, t9⟩ := ha
  obtain ⟨_, t9'⟩ := get_of t9
  obtain ⟨_, t10'⟩ := get_of t10
  obtain ⟨_, t11'⟩ := get_of t11
  have HO := Lib.hid ho
  have HBL := Lib.hid hbl
  have HQ := Lib.hid hQ
  clear ho hbl hQ he
  go_wp2_with (first | (at_builtin; refine wpList_append_own _ rfl _ _ 49 rfl w0.heap.size 48 i0 _ 4 32 Try.underlying49 hi hz0 hz1 hz2 rfl (by decide) vf m (icells f) (by simp [Act.eval, hsz]) (own_alloc HO.out _) ⟨w.heap.size, 0, none⟩ 1 1 (icells [⟨9, i, b, 0⟩]) (by simp [Act.eval, hsz]) rfl ?c1 ?c2 ?c3 ?c4 ?c5 ?_))
  case c1 => exact World.news_of_block (cs := (icells [⟨9, i, b, 0⟩]).toArray) (t := 48) (fr := (0, 0)) (heap_alloc_new w _)
  case c2 =>
    intro u hu
    simp [icells, icell] at hu
    rcases hu with rfl | rfl | rfl | rfl <;> rfl
  case c3 => unfold maxLen; omega
  case c4 => omega
  case c5 => have := HBL.out.size; simp; omega
  intro v' w9 hown9 hgr _
  have hb9 := grow_bl (Bl.alloc HBL.out _) (own_alloc HO.out _) hgr
  have HO9 : Hid (w9.ownsRow w0.heap.size 48 4 v' (m + 1) (icells (f ++ [⟨9, i, b, 0⟩]))) := by
    have : icells (f ++ [⟨9, i, b, 0⟩]) = icells f ++ icells [⟨9, i, b, 0⟩] := by unfold icells; rw [List.flatMap_append]
    rw [this]; exact hown9
  have HB9 := Lib.hid hb9
  clear hown9 hb9 hgr
  go_wp2_with fail
  exact HQ.out _ _ v' ⟨by simp [hsz], by first | rfl | exact hdf, by simp [Array.getElem?_setIfInBounds, t2], by simp [Array.getElem?_setIfInBounds, t7], by simp [Array.getElem?_setIfInBounds, t8], by simp [Array.getElem?_setIfInBounds, hsz]⟩ (by simp [Array.getElem?_setIfInBounds, t10]) HB9.out HO9.out
set_option maxRecDepth 100000 in
set_option maxHeartbeats 8000000 in
theorem jn_r6 (joins k wr i : Int) (vf : Value) (w : World) (a : Act) (Q : Exit → Act → World → Prop) (ha : JnA a joins k wr vf) (t10 : a.tmps[10]? = some (.int .i64 i)) (h0 : 0 ≤ i) (h1 : i ≤ 100)
    (hQ : ∀ a' : Act, JnA a' joins k wr vf → a'.tmps[10]? = some (.int .i64 (i + 1)) → Q .normal a' w) : (nth 2 (inK2 Try.f13)).wp Try.prog Q a w := by
  simp only [nth, bodyOf, Try.f13, Option.getD, inK, inK2]
  obtain ⟨hsz, hdf, t2, t7, t8, t9⟩ := ha
  obtain ⟨_, t10'⟩ := get_of t10
  have HQ := Lib.hid hQ
  clear hQ
  go_wp2_with fail
  exact HQ.out _ ⟨by simp [hsz], by first | rfl | exact hdf, by simp [Array.getElem?_setIfInBounds, t2], by simp [Array.getElem?_setIfInBounds, t7], by simp [Array.getElem?_setIfInBounds, t8], by simp [Array.getElem?_setIfInBounds, t9]⟩ (by simp [Array.getElem?_setIfInBounds, hsz])
/-- The frame once the number of joins is drawn. -/
structure JnC (a : Act) (k wr j : Int) (vf : Value) : Prop where
  sz : a.tmps.size = 116
  dfs : a.defers = []
  t7 : a.tmps[7]? = some (.int .i64 k)
  t8 : a.tmps[8]? = some (.int .i64 wr)
  t9 : a.tmps[9]? = some vf
  t12 : a.tmps[12]? = some (.int .i64 j)
set_option maxRecDepth 100000 in
set_option maxHeartbeats 8000000 in
theorem jn_r11 (joins k wr : Int) (vf : Value) (w : World) (a : Act) (Q : Exit → Act → World → Prop) (ha : JnA a joins k wr vf) (h1 : 1 ≤ k) (h2 : k ≤ 3)
    (hQ : ∀ a' : Act, JnC a' k wr (joins % (k + 1)) vf → Q .normal a' w) : (nth 5 (bodyOf Try.f13)).wp Try.prog Q a w := by
  simp only [nth, bodyOf, Try.f13, Option.getD, inK]
  obtain ⟨hsz, hdf, t2, t7, t8, t9⟩ := ha
  obtain ⟨_, t2'⟩ := get_of t2
  obtain ⟨_, t7'⟩ := get_of t7
  have HQ := Lib.hid hQ
  clear hQ
  go_wp2_with fail
  refine (Val.place_any joins (k + 1) w (by omega) (by omega)).mono ?_
  rintro e w1 ⟨rfl, rfl⟩
  go_wp2_with fail
  exact HQ.out _ ⟨by simp [hsz], by first | rfl | exact hdf, by simp [Array.getElem?_setIfInBounds, t7], by simp [Array.getElem?_setIfInBounds, t8], by simp [Array.getElem?_setIfInBounds, t9], by simp [Array.getElem?_setIfInBounds, hsz]⟩
set_option maxRecDepth 100000 in
set_option maxHeartbeats 8000000 in
theorem jn_r12 (k wr j i : Int) (vf : Value) (w : World) (a : Act) (Q : Exit → Act → World → Prop) (ha : JnC a k wr j vf) 
    (hQ : ∀ a' : Act, JnC a' k wr j vf → a'.tmps[13]? = some (.int .i64 0) → Q .normal a' w) : (nth 0 (nth 6 (bodyOf Try.f13))).wp Try.prog Q a w := by
  simp only [nth, bodyOf, Try.f13, Option.getD, inK]
  obtain ⟨hsz, hdf, t7, t8, t9, t12⟩ := ha
  have HQ := Lib.hid hQ
  clear hQ
  go_wp2_with fail
  exact HQ.out _ ⟨by simp [hsz], by first | rfl | exact hdf, by simp [Array.getElem?_setIfInBounds, t7], by simp [Array.getElem?_setIfInBounds, t8], by simp [Array.getElem?_setIfInBounds, t9], by simp [Array.getElem?_setIfInBounds, t12]⟩ (by simp [Array.getElem?_setIfInBounds, hsz])
set_option maxRecDepth 100000 in
set_option maxHeartbeats 8000000 in
theorem jn_r13 (k wr j i : Int) (vf : Value) (w : World) (a : Act) (Q : Exit → Act → World → Prop) (ha : JnC a k wr j vf) (t13 : a.tmps[13]? = some (.int .i64 i))
    (hQ : ∀ a' : Act, JnC a' k wr j vf → a'.tmps[13]? = some (.int .i64 i) → a'.tmps[43]? = some (.bool (decide (i < j))) → Q .normal a' w) : (nth 0 (nth 0 (inK3 Try.f13))).wp Try.prog Q a w := by
  simp only [nth, bodyOf, Try.f13, Option.getD, inK, inK3]
  obtain ⟨hsz, hdf, t7, t8, t9, t12⟩ := ha
  obtain ⟨_, t12'⟩ := get_of t12
  obtain ⟨_, t13'⟩ := get_of t13
  have HQ := Lib.hid hQ
  clear hQ
  go_wp2_with fail
  exact HQ.out _ ⟨by simp [hsz], by first | rfl | exact hdf, by simp [Array.getElem?_setIfInBounds, t7], by simp [Array.getElem?_setIfInBounds, t8], by simp [Array.getElem?_setIfInBounds, t9], by simp [Array.getElem?_setIfInBounds, t12]⟩ (by simp [Array.getElem?_setIfInBounds, t13]) (by simp [Array.getElem?_setIfInBounds, hsz])
theorem jn_c13 (w : World) (a : Act) (Q : Exit → Act → World → Prop) (h : a.tmps[43]? = some (.bool true)) (hQ : Q .normal a w) : (nth 1 (nth 0 (inK3 Try.f13))).wp Try.prog Q a w := by
  simp only [nth, bodyOf, Try.f13, Option.getD, inK, inK3]
  refine wp_cond (t := true) (by show a.tmps.getD 43 undef = _; rw [Array.getD_eq_getD_getElem?, h]; rfl) ?_
  simp only [if_true]
  go_wp2_with fail
  exact hQ
theorem jn_c13n (w : World) (a : Act) (Q : Exit → Act → World → Prop) (h : a.tmps[43]? = some (.bool false)) (hQ : Q (.exit 2) a w) : (nth 1 (nth 0 (inK3 Try.f13))).wp Try.prog Q a w := by
  simp only [nth, bodyOf, Try.f13, Option.getD, inK, inK3]
  refine wp_cond_false (by show a.tmps.getD 43 undef = _; rw [Array.getD_eq_getD_getElem?, h]; rfl) ?_
  go_wp2_with fail
  exact hQ
set_option maxRecDepth 100000 in
set_option maxHeartbeats 8000000 in
theorem jn_r15 (w0 w : World) (m : Nat) (f : List Ins) (k wr j i : Int) (vf : Value) (a : Act) (Q : Exit → Act → World → Prop) (ha : JnC a k wr j vf) (t13 : a.tmps[13]? = some (.int .i64 i)) (hbl : Bl w0 w) (ho : w.ownsRow w0.heap.size 48 4 vf m (icells f)) (hm : m ≤ 30)
    (hQ : ∀ (a' : Act) (w' : World) (v' : Value), JnC a' k wr j v' → a'.tmps[13]? = some (.int .i64 i) → Bl w0 w' → w'.ownsRow w0.heap.size 48 4 v' (m + 2) (icells (f ++ [⟨10, 1, i, 0⟩, ⟨2, 2, 2, 1⟩])) → Q .normal a' w') : (inK (nth 1 (inK3 Try.f13))).wp Try.prog Q a w := by
  simp only [nth, bodyOf, Try.f13, Option.getD, inK, inK3]
  obtain ⟨i0, hi, he⟩ := Option.map_eq_some_iff.1 info48
  obtain ⟨hz0, hz1, hz2⟩ : i0.zero = some (.agg #[.int .i64 0, .int .i64 0, .int .i64 0, .int .i64 0]) ∧ i0.size = 4 ∧ i0.bytes = 32 := by
    injection he with e1 e2
    injection e2 with e2 e3
    exact ⟨e1, e2, e3⟩
  obtain ⟨hsz, hdf, t7, t8, t9, t12⟩ := ha
  obtain ⟨_, t9'⟩ := get_of t9
  obtain ⟨_, t13'⟩ := get_of t13
  have HO := Lib.hid ho
  have HBL := Lib.hid hbl
  have HQ := Lib.hid hQ
  clear ho hbl hQ he
  go_wp2_with (first | (at_builtin; refine wpList_append_own _ rfl _ _ 49 rfl w0.heap.size 48 i0 _ 4 32 Try.underlying49 hi hz0 hz1 hz2 rfl (by decide) vf m (icells f) (by simp [Act.eval, hsz]) (own_alloc HO.out _) ⟨w.heap.size, 0, none⟩ 2 2 (icells [⟨10, 1, i, 0⟩, ⟨2, 2, 2, 1⟩]) (by simp [Act.eval, hsz]) rfl ?c1 ?c2 ?c3 ?c4 ?c5 ?_))
  case c1 => exact World.news_of_block (cs := (icells [⟨10, 1, i, 0⟩, ⟨2, 2, 2, 1⟩]).toArray) (t := 48) (fr := (0, 0)) (heap_alloc_new w _)
  case c2 =>
    intro u hu
    simp [icells, icell] at hu
    rcases hu with rfl | rfl | rfl | rfl | rfl | rfl | rfl | rfl <;> rfl
  case c3 => unfold maxLen; omega
  case c4 => omega
  case c5 => have := HBL.out.size; simp; omega
  intro v' w9 hown9 hgr _
  have hb9 := grow_bl (Bl.alloc HBL.out _) (own_alloc HO.out _) hgr
  have HO9 : Hid (w9.ownsRow w0.heap.size 48 4 v' (m + 2) (icells (f ++ [⟨10, 1, i, 0⟩, ⟨2, 2, 2, 1⟩]))) := by
    have : icells (f ++ [⟨10, 1, i, 0⟩, ⟨2, 2, 2, 1⟩]) = icells f ++ icells [⟨10, 1, i, 0⟩, ⟨2, 2, 2, 1⟩] := by unfold icells; rw [List.flatMap_append]
    rw [this]; exact hown9
  have HB9 := Lib.hid hb9
  clear hown9 hb9 hgr
  go_wp2_with fail
  exact HQ.out _ _ v' ⟨by simp [hsz], by first | rfl | exact hdf, by simp [Array.getElem?_setIfInBounds, t7], by simp [Array.getElem?_setIfInBounds, t8], by simp [Array.getElem?_setIfInBounds, hsz], by simp [Array.getElem?_setIfInBounds, t12]⟩ (by simp [Array.getElem?_setIfInBounds, t13]) HB9.out HO9.out
set_option maxRecDepth 100000 in
set_option maxHeartbeats 8000000 in
theorem jn_r14 (k wr j i : Int) (vf : Value) (w : World) (a : Act) (Q : Exit → Act → World → Prop) (ha : JnC a k wr j vf) (t13 : a.tmps[13]? = some (.int .i64 i)) (h0 : 0 ≤ i) (h1 : i ≤ 100)
    (hQ : ∀ a' : Act, JnC a' k wr j vf → a'.tmps[13]? = some (.int .i64 (i + 1)) → Q .normal a' w) : (nth 2 (inK3 Try.f13)).wp Try.prog Q a w := by
  simp only [nth, bodyOf, Try.f13, Option.getD, inK, inK3]
  obtain ⟨hsz, hdf, t7, t8, t9, t12⟩ := ha
  obtain ⟨_, t13'⟩ := get_of t13
  have HQ := Lib.hid hQ
  clear hQ
  go_wp2_with fail
  exact HQ.out _ ⟨by simp [hsz], by first | rfl | exact hdf, by simp [Array.getElem?_setIfInBounds, t7], by simp [Array.getElem?_setIfInBounds, t8], by simp [Array.getElem?_setIfInBounds, t9], by simp [Array.getElem?_setIfInBounds, t12]⟩ (by simp [Array.getElem?_setIfInBounds, hsz])
set_option maxRecDepth 100000 in
set_option maxHeartbeats 8000000 in
theorem jn_r16 (w0 w : World) (m : Nat) (f : List Ins) (k wr j : Int) (vf : Value) (a : Act) (Q : Exit → Act → World → Prop) (ha : JnC a k wr j vf)  (hbl : Bl w0 w) (ho : w.ownsRow w0.heap.size 48 4 vf m (icells f)) (hm : m ≤ 30)
    (hQ : ∀ (a' : Act) (w' : World) (v' : Value), JnC a' k wr j v' → Bl w0 w' → w'.ownsRow w0.heap.size 48 4 v' (m + 1) (icells (f ++ [⟨15, 2, 0, 0⟩])) → Q .normal a' w') : (nth 7 (bodyOf Try.f13)).wp Try.prog Q a w := by
  simp only [nth, bodyOf, Try.f13, Option.getD, inK]
  obtain ⟨i0, hi, he⟩ := Option.map_eq_some_iff.1 info48
  obtain ⟨hz0, hz1, hz2⟩ : i0.zero = some (.agg #[.int .i64 0, .int .i64 0, .int .i64 0, .int .i64 0]) ∧ i0.size = 4 ∧ i0.bytes = 32 := by
    injection he with e1 e2
    injection e2 with e2 e3
    exact ⟨e1, e2, e3⟩
  obtain ⟨hsz, hdf, t7, t8, t9, t12⟩ := ha
  obtain ⟨_, t9'⟩ := get_of t9
  have HO := Lib.hid ho
  have HBL := Lib.hid hbl
  have HQ := Lib.hid hQ
  clear ho hbl hQ he
  go_wp2_with (first | (at_builtin; refine wpList_append_own _ rfl _ _ 49 rfl w0.heap.size 48 i0 _ 4 32 Try.underlying49 hi hz0 hz1 hz2 rfl (by decide) vf m (icells f) (by simp [Act.eval, hsz]) (own_alloc HO.out _) ⟨w.heap.size, 0, none⟩ 1 1 (icells [⟨15, 2, 0, 0⟩]) (by simp [Act.eval, hsz]) rfl ?c1 ?c2 ?c3 ?c4 ?c5 ?_))
  case c1 => exact World.news_of_block (cs := (icells [⟨15, 2, 0, 0⟩]).toArray) (t := 48) (fr := (0, 0)) (heap_alloc_new w _)
  case c2 =>
    intro u hu
    simp [icells, icell] at hu
    rcases hu with rfl | rfl | rfl | rfl <;> rfl
  case c3 => unfold maxLen; omega
  case c4 => omega
  case c5 => have := HBL.out.size; simp; omega
  intro v' w9 hown9 hgr _
  have hb9 := grow_bl (Bl.alloc HBL.out _) (own_alloc HO.out _) hgr
  have HO9 : Hid (w9.ownsRow w0.heap.size 48 4 v' (m + 1) (icells (f ++ [⟨15, 2, 0, 0⟩]))) := by
    have : icells (f ++ [⟨15, 2, 0, 0⟩]) = icells f ++ icells [⟨15, 2, 0, 0⟩] := by unfold icells; rw [List.flatMap_append]
    rw [this]; exact hown9
  have HB9 := Lib.hid hb9
  clear hown9 hb9 hgr
  go_wp2_with fail
  exact HQ.out _ _ v' ⟨by simp [hsz], by first | rfl | exact hdf, by simp [Array.getElem?_setIfInBounds, t7], by simp [Array.getElem?_setIfInBounds, t8], by simp [Array.getElem?_setIfInBounds, hsz], by simp [Array.getElem?_setIfInBounds, t12]⟩ HB9.out HO9.out
structure JnD (a : Act) (k wr j : Int) (Zb : Nat) : Prop where
  sz : a.tmps.size = 116
  dfs : a.defers = []
  t7 : a.tmps[7]? = some (.int .i64 k)
  t8 : a.tmps[8]? = some (.int .i64 wr)
  t12 : a.tmps[12]? = some (.int .i64 j)
  t14 : a.tmps[14]? = some (.pointer (some ⟨Zb, 0, none⟩))
structure JnE (a : Act) (k wr j : Int) (Rb : Nat) : Prop where
  sz : a.tmps.size = 116
  dfs : a.defers = []
  t7 : a.tmps[7]? = some (.int .i64 k)
  t8 : a.tmps[8]? = some (.int .i64 wr)
  t12 : a.tmps[12]? = some (.int .i64 j)
  t15 : a.tmps[15]? = some (.pointer (some ⟨Rb, 0, none⟩))
def w17 (w : World) (A : Option Addr) (m c : Nat) : World := (((w.alloc (.cells #[.int .i64 15, .int .i64 0, .int .i64 0, .int .i64 0] 48)).alloc (.cells #[.int .i64 5, .int .i64 0, .int .i64 0, .int .i64 7, .int .i64 15, .int .i64 0, .int .i64 0, .int .i64 0] 48)).alloc (.cells #[.slice A m c, .slice (some ⟨w.heap.size, 0, none⟩) 1 1, .slice (some ⟨w.heap.size + 1, 0, none⟩) 2 2] 49)).alloc (.cells #[.slice (some ⟨w.heap.size + 1 + 1, 0, none⟩) 3 3, .int .i64 0, .int .i64 1, .int .i64 30] 52)
set_option maxRecDepth 100000 in
set_option maxHeartbeats 8000000 in
theorem jn_r17 (k wr j : Int) (A : Option Addr) (m c : Nat) (w : World) (a : Act) (Q : Exit → Act → World → Prop) (ha : JnC a k wr j (.slice A m c))
    (hQ : ∀ a' : Act, JnD a' k wr j (w.heap.size + 1 + 1 + 1) → Q .normal a' (w17 w A m c)) : (nth 8 (bodyOf Try.f13)).wp Try.prog Q a w := by
  simp only [nth, bodyOf, Try.f13, Option.getD]
  unfold w17 at hQ
  obtain ⟨hsz, hdf, t7, t8, t9, t12⟩ := ha
  obtain ⟨_, t9'⟩ := get_of t9
  have HQ := Lib.hid hQ
  clear hQ
  go_wp2_with fail
  exact HQ.out _ ⟨by simp [hsz], by first | rfl | exact hdf, by simp [Array.getElem?_setIfInBounds, t7], by simp [Array.getElem?_setIfInBounds, t8], by simp [Array.getElem?_setIfInBounds, t12], by simp [Array.getElem?_setIfInBounds, hsz]⟩
set_option maxRecDepth 100000 in
set_option maxHeartbeats 8000000 in
theorem jn_r18 (k wr j : Int) (Zb Pb : Nat) (how val steps forks : Int) (n : Nat) (w : World) (a : Act) (Q : Exit → Act → World → Prop) (ha : JnD a k wr j Zb) (hr : w.rowIs Zb 52 4 (four (.slice (some ⟨Pb, 0, none⟩) 3 3) (.int .i64 0) (.int .i64 1) (.int .i64 30)))
    (hE : Calls Try.prog 42 #[.agg #[.slice (some ⟨Pb, 0, none⟩) 3 3, .int .i64 0, .int .i64 1, .int .i64 30], .int .i64 5, .int .i64 200] w fun e w' => ∃ (ra fa wa : Option Addr) (rc fn fc wn wc : Nat), e = .returned (.tuple #[resAgg how val (.slice ra n rc) (.slice fa fn fc) (.slice wa wn wc) steps forks false, .int .i64 0]) ∧ Bl w w')
    (hQ : ∀ (a' : Act) (w' : World) (Rb : Nat) (ra fa wa : Option Addr) (rc fn fc wn wc : Nat), JnE a' k wr j Rb → a'.tmps[16]? = some (.int .i64 0) → w'.rowIs Rb 81 8 (resV how val (.slice ra n rc) (.slice fa fn fc) (.slice wa wn wc) steps forks false) → Bl w w' → Q .normal a' w') : (nth 9 (bodyOf Try.f13)).wp Try.prog Q a w := by
  simp only [nth, bodyOf, Try.f13, Option.getD]
  unfold resAgg at hE
  obtain ⟨hsz, hdf, t7, t8, t12, t14⟩ := ha
  obtain ⟨_, t14'⟩ := get_of t14
  obtain ⟨⟨x0, x1, x2, x3⟩, _⟩ := row4_cells hr
  have lZ := hr.lt
  have HQ := Lib.hid hQ
  have HE := Lib.hid hE
  clear hQ hE hr
  go_wp2_with fail
  refine HE.out.mono ?_
  rintro e w2 ⟨ra, fa, wa, rc, fn, fc, wn, wc, rfl, hb⟩
  have HB := Lib.hid hb
  clear hb x0 x1 x2 x3 lZ
  go_wp2_with fail
  refine HQ.out _ _ w2.heap.size ra fa wa rc fn fc wn wc ⟨by simp [hsz], by first | rfl | exact hdf, by simp [Array.getElem?_setIfInBounds, t7], by simp [Array.getElem?_setIfInBounds, t8], by simp [Array.getElem?_setIfInBounds, t12], by simp [Array.getElem?_setIfInBounds, hsz]⟩ (by simp [Array.getElem?_setIfInBounds, hsz]) ?_ (Bl.alloc HB.out _)
  exact World.rowIs_alloc w2 #[.int .i64 how, .int .i64 val, .slice ra n rc, .slice fa fn fc, .slice wa wn wc, .int .i64 steps, .int .i64 forks, .bool false] 81 _ (by
    show ∀ i, i < 8 → _
    repeat refine all_lt ?_ rfl
    exact all_none)
section
variable (k wr j : Int) (Rb : Nat) (how val steps forks : Int) (n : Nat) (ra fa wa : Option Addr) (rc fn fc wn wc : Nat) (w : World) (a : Act) (Q : Exit → Act → World → Prop) (ha : JnE a k wr j Rb) (hr : w.rowIs Rb 81 8 (resV how val (.slice ra n rc) (.slice fa fn fc) (.slice wa wn wc) steps forks false))
include ha hr
set_option maxRecDepth 100000 in
set_option maxHeartbeats 8000000 in
theorem jn_r19 (t16 : a.tmps[16]? = some (.int .i64 0)) (hn : (n : Int) = k + 1) (hf : forks = k) (h1 : 1 ≤ k) (h2 : k ≤ 3) (hQ : ∀ a' : Act, JnE a' k wr j Rb → a'.tmps[84]? = some (.bool false) → Q .normal a' w) : (nth 0 (nth 10 (bodyOf Try.f13))).wp Try.prog Q a w := by
  simp only [nth, bodyOf, Try.f13, Option.getD]
  obtain ⟨hsz, hdf, t7, t8, t12, t15⟩ := ha
  obtain ⟨_, t7'⟩ := get_of t7
  obtain ⟨_, t15'⟩ := get_of t15
  obtain ⟨_, t16'⟩ := get_of t16
  have c2 : w.cell? ⟨Rb, 2, none⟩ = some (.slice ra n rc) := hr.cell (i := 2) (by omega)
  have c6 : w.cell? ⟨Rb, 6, none⟩ = some (.int .i64 forks) := hr.cell (i := 6) (by omega)
  have lR := hr.lt
  have e1 : ((n : Int) != k + 1) = false := by simp [hn]
  have e2 : (forks != k) = false := by simp [hf]
  have HQ := Lib.hid hQ
  clear hQ hr hn hf
  go_wp2_with fail
  exact HQ.out _ ⟨by simp [hsz], by first | rfl | exact hdf, by simp [Array.getElem?_setIfInBounds, t7], by simp [Array.getElem?_setIfInBounds, t8], by simp [Array.getElem?_setIfInBounds, t12], by simp [Array.getElem?_setIfInBounds, t15]⟩ (by simp [Array.getElem?_setIfInBounds, hsz])
omit ha hr in
theorem jn_c19 (h : a.tmps[84]? = some (.bool false)) (hQ : Q .normal a w) : (nth 1 (nth 10 (bodyOf Try.f13))).wp Try.prog Q a w := by
  simp only [nth, bodyOf, Try.f13, Option.getD]
  refine wp_cond_false (by show a.tmps.getD 84 undef = _; rw [Array.getD_eq_getD_getElem?, h]; rfl) ?_
  go_wp2_with fail
  exact hQ
omit hr in
set_option maxRecDepth 100000 in
set_option maxHeartbeats 8000000 in
theorem jn_r21 (hQ : ∀ a' : Act, JnE a' k wr j Rb → a'.tmps[87]? = some (.bool (decide (wr < j))) → Q .normal a' w) : (nth 0 (nth 11 (bodyOf Try.f13))).wp Try.prog Q a w := by
  simp only [nth, bodyOf, Try.f13, Option.getD]
  obtain ⟨hsz, hdf, t7, t8, t12, t15⟩ := ha
  obtain ⟨_, t8'⟩ := get_of t8
  obtain ⟨_, t12'⟩ := get_of t12
  have HQ := Lib.hid hQ
  clear hQ
  go_wp2_with fail
  exact HQ.out _ ⟨by simp [hsz], by first | rfl | exact hdf, by simp [Array.getElem?_setIfInBounds, t7], by simp [Array.getElem?_setIfInBounds, t8], by simp [Array.getElem?_setIfInBounds, t12], by simp [Array.getElem?_setIfInBounds, t15]⟩ (by simp [Array.getElem?_setIfInBounds, hsz])
omit ha hr in
theorem jn_c21 (h : a.tmps[87]? = some (.bool false)) (hQ : Q .normal a w) : (nth 1 (nth 11 (bodyOf Try.f13))).wp Try.prog Q a w := by
  simp only [nth, bodyOf, Try.f13, Option.getD]
  refine wp_cond_false (by show a.tmps.getD 87 undef = _; rw [Array.getD_eq_getD_getElem?, h]; rfl) ?_
  go_wp2_with fail
  exact hQ
set_option maxRecDepth 100000 in
set_option maxHeartbeats 8000000 in
theorem jn_c22 (h : a.tmps[87]? = some (.bool true)) (hh : how = 2) (hv : val = 0) (hQ : ∀ (a' : Act) (w' : World), a'.tmps.size = 116 → a'.defers = [] → a'.tmps[6]? = some (.bool true) → Bl w w' → Q .ret a' w') : (nth 1 (nth 11 (bodyOf Try.f13))).wp Try.prog Q a w := by
  simp only [nth, bodyOf, Try.f13, Option.getD]
  subst hh hv
  obtain ⟨hsz, hdf, t7, t8, t12, t15⟩ := ha
  obtain ⟨_, t15'⟩ := get_of t15
  have c0 : w.cell? ⟨Rb, 0, none⟩ = some (.int .i64 2) := hr.cell (i := 0) (by omega)
  have c1 : w.cell? ⟨Rb, 1, none⟩ = some (.int .i64 0) := hr.cell (i := 1) (by omega)
  have lR := hr.lt
  have HQ := Lib.hid hQ
  clear hQ hr
  refine wp_cond (t := true) (by show a.tmps.getD 87 undef = _; rw [Array.getD_eq_getD_getElem?, h]; rfl) ?_
  simp only [if_true]
  go_wp2_with (first | (go_at_call 44; refine (awake44 _).mono ?_; rintro e w9 ⟨rfl, hb9⟩))
  exact HQ.out _ _ (by simp [hsz]) (by first | rfl | exact hdf) (by simp [Array.getElem?_setIfInBounds, hsz]) hb9
set_option maxRecDepth 100000 in
set_option maxHeartbeats 8000000 in
theorem jn_r23 (hh : how = 1) (hv : val = 5 * j) (h0 : 0 ≤ j) (h1 : j ≤ 3) (hQ : ∀ (a' : Act) (w' : World), a'.tmps.size = 116 → a'.defers = [] → a'.tmps[6]? = some (.bool true) → Bl w w' → Q .normal a' w') : (nth 12 (bodyOf Try.f13)).wp Try.prog Q a w := by
  simp only [nth, bodyOf, Try.f13, Option.getD]
  subst hh hv
  obtain ⟨hsz, hdf, t7, t8, t12, t15⟩ := ha
  obtain ⟨_, t12'⟩ := get_of t12
  obtain ⟨_, t15'⟩ := get_of t15
  have c0 : w.cell? ⟨Rb, 0, none⟩ = some (.int .i64 1) := hr.cell (i := 0) (by omega)
  have c1 : w.cell? ⟨Rb, 1, none⟩ = some (.int .i64 (5 * j)) := hr.cell (i := 1) (by omega)
  have lR := hr.lt
  have HQ := Lib.hid hQ
  clear hQ hr
  go_wp2_with (first | (go_at_call 44; refine (awake44 _).mono ?_; rintro e w9 ⟨rfl, hb9⟩))
  exact HQ.out _ _ (by simp [hsz]) (by first | rfl | exact hdf) (by simp [Array.getElem?_setIfInBounds, hsz]) hb9
end
set_option maxRecDepth 100000 in
set_option maxHeartbeats 8000000 in
theorem jn_r0 (n wrong joins : Int) (w : World) (a : Act) (Q : Exit → Act → World → Prop) (hsz : a.tmps.size = 116) (hdf : a.defers = []) (t0 : a.tmps[0]? = some (.int .i64 n)) (t1 : a.tmps[1]? = some (.int .i64 wrong)) (t2 : a.tmps[2]? = some (.int .i64 joins))
    (hQ : ∀ a' : Act, a'.tmps.size = 116 → a'.defers = [] → a'.tmps[0]? = some (.int .i64 n) → a'.tmps[1]? = some (.int .i64 wrong) → a'.tmps[2]? = some (.int .i64 joins) → Q .normal a' w) : (nth 0 (bodyOf Try.f13)).wp Try.prog Q a w := by
  simp only [nth, bodyOf, Try.f13, Option.getD]
  have HQ := Lib.hid hQ
  clear hQ
  go_wp2_with fail
  exact HQ.out _ (by simp [hsz]) (by first | rfl | exact hdf) (by simp [Array.getElem?_setIfInBounds, t0]) (by simp [Array.getElem?_setIfInBounds, t1]) (by simp [Array.getElem?_setIfInBounds, t2])
set_option maxRecDepth 100000 in
set_option maxHeartbeats 8000000 in
theorem jn_r1 (n wrong joins : Int) (w : World) (a : Act) (Q : Exit → Act → World → Prop) (hsz : a.tmps.size = 116) (hdf : a.defers = []) (t0 : a.tmps[0]? = some (.int .i64 n)) (t1 : a.tmps[1]? = some (.int .i64 wrong)) (t2 : a.tmps[2]? = some (.int .i64 joins))
    (hQ : ∀ a' : Act, a'.tmps.size = 116 → a'.defers = [] → a'.tmps[1]? = some (.int .i64 wrong) → a'.tmps[2]? = some (.int .i64 joins) → a'.tmps[7]? = some (.int .i64 (1 + n % 3)) → Q .normal a' w) : (nth 1 (bodyOf Try.f13)).wp Try.prog Q a w := by
  simp only [nth, bodyOf, Try.f13, Option.getD]
  obtain ⟨_, t0'⟩ := get_of t0
  have f0 : 0 ≤ n % 3 := Int.emod_nonneg _ (by decide)
  have f1 : n % 3 < 3 := Int.emod_lt_of_pos _ (by decide)
  have HQ := Lib.hid hQ
  clear hQ
  go_wp2_with fail
  refine (Val.place_any n 3 w (by decide) (by decide)).mono ?_
  rintro e w1 ⟨rfl, rfl⟩
  go_wp2_with fail
  exact HQ.out _ (by simp [hsz]) (by first | rfl | exact hdf) (by simp [Array.getElem?_setIfInBounds, t1]) (by simp [Array.getElem?_setIfInBounds, t2]) (by simp [Array.getElem?_setIfInBounds, hsz])
set_option maxRecDepth 100000 in
set_option maxHeartbeats 8000000 in
theorem jn_r2 (k wrong joins : Int) (w : World) (a : Act) (Q : Exit → Act → World → Prop) (hsz : a.tmps.size = 116) (hdf : a.defers = []) (t1 : a.tmps[1]? = some (.int .i64 wrong)) (t2 : a.tmps[2]? = some (.int .i64 joins)) (t7 : a.tmps[7]? = some (.int .i64 k)) (h1 : 1 ≤ k) (h2 : k ≤ 3)
    (hQ : ∀ a' : Act, a'.tmps.size = 116 → a'.defers = [] → a'.tmps[2]? = some (.int .i64 joins) → a'.tmps[7]? = some (.int .i64 k) → a'.tmps[8]? = some (.int .i64 (wrong % k)) → Q .normal a' w) : (nth 2 (bodyOf Try.f13)).wp Try.prog Q a w := by
  simp only [nth, bodyOf, Try.f13, Option.getD]
  obtain ⟨_, t1'⟩ := get_of t1
  obtain ⟨_, t7'⟩ := get_of t7
  have HQ := Lib.hid hQ
  clear hQ
  go_wp2_with fail
  refine (Val.place_any wrong k w (by omega) (by omega)).mono ?_
  rintro e w1 ⟨rfl, rfl⟩
  go_wp2_with fail
  exact HQ.out _ (by simp [hsz]) (by first | rfl | exact hdf) (by simp [Array.getElem?_setIfInBounds, t2]) (by simp [Array.getElem?_setIfInBounds, t7]) (by simp [Array.getElem?_setIfInBounds, hsz])
set_option maxRecDepth 100000 in
set_option maxHeartbeats 8000000 in
theorem jn_r3 (k wr joins : Int) (w : World) (a : Act) (Q : Exit → Act → World → Prop) (hsz : a.tmps.size = 116) (hdf : a.defers = []) (t2 : a.tmps[2]? = some (.int .i64 joins)) (t7 : a.tmps[7]? = some (.int .i64 k)) (t8 : a.tmps[8]? = some (.int .i64 wr))
    (hQ : ∀ a' : Act, JnA a' joins k wr (.slice none 0 0) → Q .normal a' w) : (nth 3 (bodyOf Try.f13)).wp Try.prog Q a w := by
  simp only [nth, bodyOf, Try.f13, Option.getD]
  have HQ := Lib.hid hQ
  clear hQ
  go_wp2_with fail
  exact HQ.out _ ⟨by simp [hsz], by first | rfl | exact hdf, by simp [Array.getElem?_setIfInBounds, t2], by simp [Array.getElem?_setIfInBounds, t7], by simp [Array.getElem?_setIfInBounds, t8], by simp [Array.getElem?_setIfInBounds, hsz]⟩
def jx (wr i : Nat) : Ins := ⟨9, i, if i = wr then 2 else 1, 0⟩
def jA (wr n : Nat) : List Ins := (List.range n).map (jx wr)
def jB (n : Nat) : List Ins := (List.range n).flatMap (fun (i : Nat) => [⟨10, 1, (i : Int), 0⟩, ⟨2, 2, 2, 1⟩])
def jF (k wr j : Nat) : List Ins := jA wr k ++ jB j ++ [⟨15, 2, 0, 0⟩]
def jdiv : List Ins := [⟨5, 0, 0, 7⟩, rt15]
theorem jA_succ (wr n : Nat) : jA wr (n + 1) = jA wr n ++ [jx wr n] := by unfold jA; rw [List.range_succ, List.map_append]; rfl
theorem jB_succ (n : Nat) : jB (n + 1) = jB n ++ [⟨10, 1, n, 0⟩, ⟨2, 2, 2, 1⟩] := by unfold jB; rw [List.range_succ, List.flatMap_append]; simp
theorem jA_len (wr n : Nat) : (jA wr n).length = n := by simp [jA]
theorem jB_len (n : Nat) : (jB n).length = 2 * n := by
  induction n with
  | zero => rfl
  | succ n ih => rw [jB_succ, List.length_append, ih]; simp; omega
theorem jF_len (k wr j : Nat) : (jF k wr j).length = k + 2 * j + 1 := by unfold jF; rw [List.length_append, List.length_append, jA_len, jB_len]; rfl
theorem jF_pv {k wr j : Nat} (hk : k ≤ 3) (hj : j ≤ 3) : PV [jF k wr j, [rt15], jdiv] 0 1 30 := by
  refine ⟨by show 1 ≤ 3; decide, by show 3 ≤ 12; decide, by decide, by decide, by decide, by decide, by decide, by decide, ?_⟩
  intro g hg
  simp only [List.mem_cons, List.not_mem_nil, or_false] at hg
  rcases hg with rfl | rfl | rfl
  · refine ⟨by rw [jF_len]; omega, by rw [jF_len]; omega, fun x hx => ?_, ⟨⟨15, 2, 0, 0⟩, ?_, by decide⟩⟩
    · unfold jF at hx
      rcases List.mem_append.1 hx with hx | hx
      · rcases List.mem_append.1 hx with hx | hx
        · obtain ⟨i, hi, rfl⟩ := List.mem_map.1 hx
          have := List.mem_range.1 hi
          unfold jx
          split <;> (simp [InsIn, InsOk, Rg]; omega)
        · obtain ⟨i, hi, hx⟩ := List.mem_flatMap.1 hx
          have := List.mem_range.1 hi
          simp only [List.mem_cons, List.not_mem_nil, or_false] at hx
          rcases hx with rfl | rfl
          · simp [InsIn, InsOk, Rg]; omega
          · simp [InsIn, InsOk, Rg]
      · obtain rfl := List.mem_singleton.1 hx
        simp [InsIn, InsOk, Rg]
    · rw [jF_len]
      unfold jF
      rw [List.getElem?_append_right (by rw [List.length_append, jA_len, jB_len]; omega), List.length_append, jA_len, jB_len]
      have : k + 2 * j + 1 - 1 - (k + 2 * j) = 0 := by omega
      rw [this]; rfl
  · refine ⟨by decide, by decide, fun x hx => ?_, ⟨rt15, rfl, by decide⟩⟩
    obtain rfl := List.mem_singleton.1 hx
    simp [InsIn, InsOk, Rg, rt15]
  · refine ⟨by decide, by decide, fun x hx => ?_, ⟨rt15, rfl, by decide⟩⟩
    simp [jdiv] at hx
    rcases hx with rfl | rfl <;> simp [InsIn, InsOk, Rg, rt15]
theorem ev_get2 {o : Option (RT × RS)} {h v f : Int} {b : Bool} {l : Nat} (e : o.map (fun q => (q.1.how, q.1.val, q.2.over, q.2.ran.length, q.2.forks)) = some (h, v, b, l, f)) : ∃ u S2, o = some (u, S2) ∧ u.how = h ∧ u.val = v ∧ S2.over = b ∧ S2.ran.length = l ∧ S2.forks = f := by
  obtain ⟨⟨u, S2⟩, h1, h2⟩ := Option.map_eq_some_iff.1 e
  injection h2 with a1 a2
  injection a2 with a2 a3
  injection a3 with a3 a4
  injection a4 with a4 a5
  exact ⟨u, S2, h1, a1, a2, a3, a4, a5⟩
def EvJ (k wr j : Nat) : Prop := ∃ u S2, evLoop [jF k wr j, [rt15], jdiv] 1 30 200 40 (rt0 0 5 rootK 30) s0e = some (u, S2) ∧ u.how = (if wr < j then 2 else 1) ∧ u.val = (if wr < j then 0 else 5 * (j : Int)) ∧ S2.over = false ∧ S2.ran.length = k ∧ S2.forks = (k : Int)
theorem jF_ev (k wr j : Nat) (h1 : 1 ≤ k) (h2 : k ≤ 3) (h3 : wr < k) (h4 : j ≤ k) : EvJ k wr j := by
  obtain rfl | rfl | rfl : k = 1 ∨ k = 2 ∨ k = 3 := by omega
  · obtain rfl : wr = 0 := by omega
    obtain rfl | rfl : j = 0 ∨ j = 1 := by omega
    all_goals exact ev_get2 (by kernel_rfl)
  · obtain rfl | rfl : wr = 0 ∨ wr = 1 := by omega
    all_goals
      obtain rfl | rfl | rfl : j = 0 ∨ j = 1 ∨ j = 2 := by omega
      all_goals exact ev_get2 (by kernel_rfl)
  · obtain rfl | rfl | rfl : wr = 0 ∨ wr = 1 ∨ wr = 2 := by omega
    all_goals
      obtain rfl | rfl | rfl | rfl : j = 0 ∨ j = 1 ∨ j = 2 ∨ j = 3 := by omega
      all_goals exact ev_get2 (by kernel_rfl)
def lpA (f : Func) : Code := .seq (.seq (nth 0 (nth 0 (inK2 f))) (nth 1 (nth 0 (inK2 f)))) (.seq (.block 1 (.seq (nth 0 (inK (nth 1 (inK2 f)))) (.seq (.seq (nth 0 (nth 1 (inK (nth 1 (inK2 f))))) (nth 1 (nth 1 (inK (nth 1 (inK2 f)))))) (nth 2 (inK (nth 1 (inK2 f))))))) (nth 2 (inK2 f)))
def lpB (f : Func) : Code := .seq (.seq (nth 0 (nth 0 (inK3 f))) (nth 1 (nth 0 (inK3 f)))) (.seq (.block 3 (inK (nth 1 (inK3 f)))) (nth 2 (inK3 f)))
theorem body13 : bodyOf Try.f13 = .seq (nth 0 (bodyOf Try.f13)) (.seq (nth 1 (bodyOf Try.f13)) (.seq (nth 2 (bodyOf Try.f13)) (.seq (nth 3 (bodyOf Try.f13)) (.seq (.seq (nth 0 (nth 4 (bodyOf Try.f13))) (.block 0 (.loop (lpA Try.f13)))) (.seq (nth 5 (bodyOf Try.f13)) (.seq (.seq (nth 0 (nth 6 (bodyOf Try.f13))) (.block 2 (.loop (lpB Try.f13)))) (.seq (nth 7 (bodyOf Try.f13)) (.seq (nth 8 (bodyOf Try.f13)) (.seq (nth 9 (bodyOf Try.f13)) (.seq (.seq (nth 0 (nth 10 (bodyOf Try.f13))) (nth 1 (nth 10 (bodyOf Try.f13)))) (.seq (.seq (nth 0 (nth 11 (bodyOf Try.f13))) (nth 1 (nth 11 (bodyOf Try.f13)))) (.seq (nth 12 (bodyOf Try.f13)) .ret)))))))))))) := by kernel_rfl
theorem jn_loopA (w0 : World) (k wr : Nat) (joins : Int) (Q : Exit → Act → World → Prop) (hk : k ≤ 3)
    (hQ : ∀ (a' : Act) (w' : World) (v' : Value), JnA a' joins k wr v' → Bl w0 w' → w'.ownsRow w0.heap.size 48 4 v' k (icells (jA wr k)) → Q (.exit 0) a' w') :
    ∀ (m i : Nat) (a : Act) (w : World) (vf : Value), i + m = k → JnA a joins k wr vf → a.tmps[10]? = some (.int .i64 (i : Int)) → Bl w0 w → w.ownsRow w0.heap.size 48 4 vf i (icells (jA wr i)) → Code.rounds Try.prog (lpA Try.f13) Q (m + 1) a w := by
  intro m
  induction m with
  | zero =>
    intro i a w vf hi ha h10 hb ho
    rw [rounds_succ]
    unfold lpA
    refine seq_then fun K1 g1 => ?_
    refine seq_then fun K2 g2 => ?_
    refine jn_r5 joins k wr i vf w a _ ha h10 fun a1 ha1 h10' h25 => g2 _ _ ?_
    obtain rfl : i = k := by omega
    refine jn_c5n w a1 _ (by rw [h25]; simp) ?_
    exact hQ a1 w vf ha1 hb ho
  | succ m ih =>
    intro i a w vf hi ha h10 hb ho
    rw [rounds_succ]
    unfold lpA
    refine seq_then fun K1 g1 => ?_
    refine seq_then fun K2 g2 => ?_
    refine jn_r5 joins k wr i vf w a _ ha h10 fun a1 ha1 h10' h25 => g2 _ _ ?_
    have hik : i < k := by omega
    refine jn_c5 w a1 _ (by rw [h25]; simp [hik]) (g1 _ _ ?_)
    refine seq_then fun K3 g3 => ?_
    refine wp_block ?_
    refine seq_then fun K4 g4 => ?_
    refine jn_r7 joins k wr i vf w a1 _ ha1 h10' fun a2 ha2 h10a h11 => g4 _ _ ?_
    refine seq_then fun K5 g5 => ?_
    refine seq_then fun K6 g6 => ?_
    refine jn_r8 joins k wr i vf w a2 _ ha2 h10a h11 fun a3 ha3 h10b h11b h30 => g6 _ _ ?_
    have hend : ∀ (a4 : Act) (b : Int), JnA a4 joins k wr vf → a4.tmps[10]? = some (.int .i64 (i : Int)) → a4.tmps[11]? = some (.int .i64 b) → b = (if i = wr then 2 else 1) → K5 a4 w := by
      intro a4 b ha4 h10c h11c hbb
      refine g5 _ _ ?_
      refine jn_r10 w0 w i (jA wr i) joins k wr i b vf a4 _ ha4 h10c h11c hb ho (by omega) fun a5 w5 v5 ha5 h10d hb5 ho5 => ?_
      refine g3 _ _ ?_
      refine jn_r6 joins k wr i v5 w5 a5 _ ha5 h10d (by omega) (by omega) fun a6 ha6 h10e => ?_
      have hx : jA wr i ++ [⟨9, (i : Int), b, 0⟩] = jA wr (i + 1) := by rw [jA_succ, hbb]; rfl
      rw [hx] at ho5
      exact ih (i + 1) a6 w5 v5 (by omega) ha6 (by rw [h10e]; simp) hb5 ho5
    by_cases e : i = wr
    · refine jn_c8 joins k wr i vf w a3 _ ha3 h10b (by rw [h30]; simp [e]) fun a4 ha4 h10c h11c => ?_
      exact hend a4 2 ha4 h10c h11c (by rw [if_pos e])
    · refine jn_c8n w a3 _ (by rw [h30]; simp; omega) ?_
      exact hend a3 1 ha3 h10b h11b (by rw [if_neg e])
theorem jn_loopB (w0 : World) (k wr j : Nat) (Q : Exit → Act → World → Prop) (hk : k ≤ 3) (hj : j ≤ 3)
    (hQ : ∀ (a' : Act) (w' : World) (v' : Value), JnC a' k wr j v' → Bl w0 w' → w'.ownsRow w0.heap.size 48 4 v' (k + 2 * j) (icells (jA wr k ++ jB j)) → Q (.exit 2) a' w') :
    ∀ (m i : Nat) (a : Act) (w : World) (vf : Value), i + m = j → JnC a k wr j vf → a.tmps[13]? = some (.int .i64 (i : Int)) → Bl w0 w → w.ownsRow w0.heap.size 48 4 vf (k + 2 * i) (icells (jA wr k ++ jB i)) → Code.rounds Try.prog (lpB Try.f13) Q (m + 1) a w := by
  intro m
  induction m with
  | zero =>
    intro i a w vf hi ha h13 hb ho
    rw [rounds_succ]
    unfold lpB
    refine seq_then fun K1 g1 => ?_
    refine seq_then fun K2 g2 => ?_
    refine jn_r13 k wr j i vf w a _ ha h13 fun a1 ha1 h13' h43 => g2 _ _ ?_
    obtain rfl : i = j := by omega
    refine jn_c13n w a1 _ (by rw [h43]; simp) ?_
    exact hQ a1 w vf ha1 hb ho
  | succ m ih =>
    intro i a w vf hi ha h13 hb ho
    rw [rounds_succ]
    unfold lpB
    refine seq_then fun K1 g1 => ?_
    refine seq_then fun K2 g2 => ?_
    refine jn_r13 k wr j i vf w a _ ha h13 fun a1 ha1 h13' h43 => g2 _ _ ?_
    have hij : i < j := by omega
    refine jn_c13 w a1 _ (by rw [h43]; simp [hij]) (g1 _ _ ?_)
    refine seq_then fun K3 g3 => ?_
    refine wp_block ?_
    refine jn_r15 w0 w (k + 2 * i) (jA wr k ++ jB i) k wr j i vf a1 _ ha1 h13' hb ho (by omega) fun a5 w5 v5 ha5 h13d hb5 ho5 => ?_
    refine g3 _ _ ?_
    refine jn_r14 k wr j i v5 w5 a5 _ ha5 h13d (by omega) (by omega) fun a6 ha6 h13e => ?_
    rw [List.append_assoc, ← jB_succ] at ho5
    exact ih (i + 1) a6 w5 v5 (by omega) ha6 (by rw [h13e]; simp) hb5 (by rw [show k + 2 * (i + 1) = k + 2 * i + 2 by omega]; exact ho5)
theorem codeAt_cells {K : Nat} {w : World} {b : Nat} {fs : List (List Ins)} (hb : b < K) (h : ∀ (i : Nat) (f : List Ins), fs[i]? = some f → ∃ g fc, w.cell? ⟨b, i, none⟩ = some (.slice (some ⟨g, 0, none⟩) f.length fc) ∧ g < K ∧ ∀ (j : Nat) (v : Value), (icells f)[j]? = some v → w.cell? ⟨g, j, none⟩ = some v) : CodeAt K w (some ⟨b, 0, none⟩) fs := by
  intro i f hf
  obtain ⟨g, fc, h1, h2, h3⟩ := h i f hf
  refine ⟨b, 0, rfl, hb, some ⟨g, 0, none⟩, fc, by rw [Nat.zero_add]; exact h1, fun j x hx => ⟨g, 0, rfl, h2, ?_, ?_, ?_, ?_⟩⟩
  all_goals
    rw [Nat.zero_add]
    refine h3 _ _ ?_
  · exact icells_get f j 0 x hx (by decide)
  · exact icells_get f j 1 x hx (by decide)
  · exact icells_get f j 2 x hx (by decide)
  · exact icells_get f j 3 x hx (by decide)
structure W17 (w : World) (f : List Ins) (W : World) : Prop where
  row : W.rowIs (w.heap.size + 1 + 1 + 1) 52 4 (four (.slice (some ⟨w.heap.size + 1 + 1, 0, none⟩) 3 3) (.int .i64 0) (.int .i64 1) (.int .i64 30))
  code : CodeAt W.heap.size W (some ⟨w.heap.size + 1 + 1, 0, none⟩) [f, [rt15], jdiv]
  bl : Bl w W
theorem w17_world {w : World} {base g c : Nat} {f : List Ins} (ho : w.ownsRow base 48 4 (.slice (some ⟨g, 0, none⟩) f.length c) f.length (icells f)) : W17 w f (w17 w (some ⟨g, 0, none⟩) f.length c) := by
  have hbl : Bl w (w17 w (some ⟨g, 0, none⟩) f.length c) := by
    unfold w17
    repeat (first | exact Bl.refl _ | refine Bl.alloc ?_ _)
  have hsz : (w17 w (some ⟨g, 0, none⟩) f.length c).heap.size = w.heap.size + 4 := by unfold w17; simp
  have hgw : g < w.heap.size := by
    obtain ⟨_, cur, hc⟩ := own_type ho (g := g) rfl
    rcases Nat.lt_or_ge g w.heap.size with q | q
    · exact q
    · rw [Array.getElem?_eq_none q] at hc; cases hc
  have hch : Ch (fun _ => False) w (w17 w (some ⟨g, 0, none⟩) f.length c) := Ch.of_bl hbl
  have h0 : (w17 w (some ⟨g, 0, none⟩) f.length c).heap[w.heap.size]? = some (.cells (icells [rt15]).toArray 48) := by
    unfold w17
    repeat (first | (refine heap_at ?_; (simp; done)) | refine heap_up ?_)
  have h1 : (w17 w (some ⟨g, 0, none⟩) f.length c).heap[w.heap.size + 1]? = some (.cells (icells jdiv).toArray 48) := by
    unfold w17
    repeat (first | (refine heap_at ?_; (simp; done)) | refine heap_up ?_)
  have h2 : (w17 w (some ⟨g, 0, none⟩) f.length c).heap[w.heap.size + 1 + 1]? = some (.cells #[.slice (some ⟨g, 0, none⟩) f.length c, .slice (some ⟨w.heap.size, 0, none⟩) 1 1, .slice (some ⟨w.heap.size + 1, 0, none⟩) 2 2] 49) := by
    unfold w17
    repeat (first | (refine heap_at ?_; (simp; done)) | refine heap_up ?_)
  refine ⟨?_, codeAt_cells (by rw [hsz]; omega) (fun i f' hi => ?_), hbl⟩
  · unfold w17
    have h := row4_alloc (((w.alloc (.cells #[.int .i64 15, .int .i64 0, .int .i64 0, .int .i64 0] 48)).alloc (.cells #[.int .i64 5, .int .i64 0, .int .i64 0, .int .i64 7, .int .i64 15, .int .i64 0, .int .i64 0, .int .i64 0] 48)).alloc (.cells #[.slice (some ⟨g, 0, none⟩) f.length c, .slice (some ⟨w.heap.size, 0, none⟩) 1 1, .slice (some ⟨w.heap.size + 1, 0, none⟩) 2 2] 49)) (.slice (some ⟨w.heap.size + 1 + 1, 0, none⟩) 3 3) (.int .i64 0) (.int .i64 1) (.int .i64 30) 52
    have hs : (((w.alloc (.cells #[.int .i64 15, .int .i64 0, .int .i64 0, .int .i64 0] 48)).alloc (.cells #[.int .i64 5, .int .i64 0, .int .i64 0, .int .i64 7, .int .i64 15, .int .i64 0, .int .i64 0, .int .i64 0] 48)).alloc (.cells #[.slice (some ⟨g, 0, none⟩) f.length c, .slice (some ⟨w.heap.size, 0, none⟩) 1 1, .slice (some ⟨w.heap.size + 1, 0, none⟩) 2 2] 49)).heap.size = w.heap.size + 1 + 1 + 1 := by simp
    rw [hs] at h
    exact h
  · rcases i with _ | _ | _ | i
    · obtain rfl : f = f' := by simpa using hi
      exact ⟨g, c, cell_of_row _ _ 0 _ 49 _ h2, by rw [hsz]; omega, fun j v hv => hch.cell (own_cells ho hv) id⟩
    · obtain rfl : [rt15] = f' := by simpa using hi
      exact ⟨_, _, cell_of_row _ _ 1 _ 49 _ h2, by rw [hsz]; omega, fun j v hv => cells_cell h0 hv⟩
    · obtain rfl : jdiv = f' := by simpa using hi
      exact ⟨_, _, cell_of_row _ _ 2 _ 49 _ h2, by rw [hsz]; omega, fun j v hv => cells_cell h1 hv⟩
    · simp at hi
theorem joins_wp (n wrong joins : Int) (w : World) (a : Act) (Q : Exit → Act → World → Prop) (hsz : a.tmps.size = 116) (hdf : a.defers = []) (t0 : a.tmps[0]? = some (.int .i64 n)) (t1 : a.tmps[1]? = some (.int .i64 wrong)) (t2 : a.tmps[2]? = some (.int .i64 joins))
    (hQ : ∀ (a' : Act) (w' : World), a'.tmps.size = 116 → a'.defers = [] → a'.tmps[6]? = some (.bool true) → Bl w w' → Q .ret a' w') : (bodyOf Try.f13).wp Try.prog Q a w := by
  rw [body13]
  refine seq_then fun K1 g1 => ?_
  refine jn_r0 n wrong joins w a _ hsz hdf t0 t1 t2 fun a1 s1 d1 p0 p1 p2 => g1 _ _ ?_
  refine seq_then fun K2 g2 => ?_
  refine jn_r1 n wrong joins w a1 _ s1 d1 p0 p1 p2 fun a2 s2 d2 q1 q2 q7 => g2 _ _ ?_
  obtain ⟨k, hk⟩ : ∃ k : Nat, 1 + n % 3 = k := ⟨(1 + n % 3).toNat, by have := Int.emod_nonneg n (show (3 : Int) ≠ 0 by decide); omega⟩
  have hk1 : 1 ≤ k := by have := Int.emod_nonneg n (show (3 : Int) ≠ 0 by decide); omega
  have hk3 : k ≤ 3 := by have := Int.emod_lt_of_pos n (show (0 : Int) < 3 by decide); omega
  rw [hk] at q7
  refine seq_then fun K3 g3 => ?_
  refine jn_r2 k wrong joins w a2 _ s2 d2 q1 q2 q7 (by omega) (by omega) fun a3 s3 d3 r2 r7 r8 => g3 _ _ ?_
  have hw0 := Int.emod_nonneg wrong (show (k : Int) ≠ 0 by omega)
  have hw1 := Int.emod_lt_of_pos wrong (show (0 : Int) < k by omega)
  obtain ⟨wr, hwr⟩ : ∃ wr : Nat, wrong % (k : Int) = wr := ⟨(wrong % (k : Int)).toNat, by omega⟩
  rw [hwr] at r8
  refine seq_then fun K4 g4 => ?_
  refine jn_r3 k wr joins w a3 _ s3 d3 r2 r7 r8 fun a4 ha4 => g4 _ _ ?_
  refine seq_then fun K5 g5 => ?_
  refine seq_then fun K6 g6 => ?_
  refine jn_r4 joins k wr 0 (.slice none 0 0) w a4 _ ha4 fun a5 ha5 h10 => g6 _ _ ?_
  refine wp_block ?_
  refine wp_loop_rounds (k + 1) ?_
  refine jn_loopA w k wr joins (Exit.inBlock 0 (Exit.then K5 Q)) hk3 (fun a6 w6 v6 ha6 hb6 ho6 => ?_) k 0 a5 w (.slice none 0 0) (by omega) ha5 (by rw [h10]; rfl) (Bl.refl _) (World.ownsRow_nil _ _ _ _)
  show (if (0 : Nat) = 0 then Exit.then K5 Q .normal a6 w6 else Exit.then K5 Q (.exit 0) a6 w6)
  rw [if_pos rfl]
  refine g5 _ _ ?_
  refine seq_then fun K7 g7 => ?_
  refine jn_r11 joins k wr v6 w6 a6 _ ha6 (by omega) (by omega) fun a7 ha7 => g7 _ _ ?_
  have hj0 := Int.emod_nonneg joins (show (k : Int) + 1 ≠ 0 by omega)
  have hj1 := Int.emod_lt_of_pos joins (show (0 : Int) < (k : Int) + 1 by omega)
  obtain ⟨j, hj⟩ : ∃ j : Nat, joins % ((k : Int) + 1) = j := ⟨(joins % ((k : Int) + 1)).toNat, by omega⟩
  rw [hj] at ha7
  refine seq_then fun K8 g8 => ?_
  refine seq_then fun K9 g9 => ?_
  refine jn_r12 k wr j 0 v6 w6 a7 _ ha7 fun a8 ha8 h13 => g9 _ _ ?_
  refine wp_block ?_
  refine wp_loop_rounds (j + 1) ?_
  have eB : jA wr k ++ jB 0 = jA wr k := by simp [jB]
  refine jn_loopB w k wr j (Exit.inBlock 2 (Exit.then K8 Q)) hk3 (by omega) (fun a9 w9 v9 ha9 hb9 ho9 => ?_) j 0 a8 w6 v6 (by omega) ha8 (by rw [h13]; rfl) hb6 (by rw [eB]; exact ho6)
  show (if (2 : Nat) = 2 then Exit.then K8 Q .normal a9 w9 else Exit.then K8 Q (.exit 2) a9 w9)
  rw [if_pos rfl]
  refine g8 _ _ ?_
  refine seq_then fun K10 g10 => ?_
  refine jn_r16 w w9 (k + 2 * j) (jA wr k ++ jB j) k wr j v9 a9 _ ha9 hb9 ho9 (by omega) fun a10 w10 v10 ha10 hb10 ho10 => g10 _ _ ?_
  change w10.ownsRow w.heap.size 48 4 v10 (k + 2 * j + 1) (icells (jF k wr j)) at ho10
  rw [← jF_len k wr j] at ho10
  obtain ⟨A, m, c, hv⟩ := own_slice ho10
  rw [hv] at ho10 ha10
  obtain ⟨g, rfl, rfl⟩ := own_one ho10 (by rw [jF_len]; omega)
  refine seq_then fun K11 g11 => ?_
  refine jn_r17 k wr j _ _ c w10 a10 _ ha10 fun a11 ha11 => g11 _ _ ?_
  obtain ⟨hrow, hcode, hbl⟩ := w17_world ho10
  generalize w17 w10 (some ⟨g, 0, none⟩) (jF k wr j).length c = w11 at *
  obtain ⟨u, S2, hev, e1, e2, e3, e4, e5⟩ := jF_ev k wr j hk1 hk3 (by omega) (by omega)
  have hE := eval_any (some ⟨w10.heap.size + 1 + 1, 0, none⟩) 3 0 1 30 5 200 [jF k wr j, [rt15], jdiv] w11 (jF_pv hk3 (by omega)) hcode (by decide) (by decide) 40 u S2 hev e3
  have hlen : (finish u S2 5).ran.length = k + 1 := by
    unfold finish
    rw [if_neg (by rw [e3]; decide)]
    show (EvM.put _ _).length = _
    rw [put_len, e4]
  refine seq_then fun K12 g12 => ?_
  refine jn_r18 k wr j _ _ u.how u.val S2.steps S2.forks (k + 1) w11 a11 _ ha11 hrow (hE.mono fun e w' h => ?_) fun a12 w12 Rb ra fa wa rc fn fc wn wc ha12 h16 hr12 hb12 => g12 _ _ ?_
  · obtain ⟨FB, WB, ra, rn, rc, he, ho, _, _, _, _, hb⟩ := h
    obtain ⟨g', _, hrn⟩ := own_one ho (by rw [hlen]; omega)
    rw [hrn, hlen] at he
    exact ⟨_, _, _, _, _, _, _, _, he, hb⟩
  · have hB : Bl w w12 := Bl.trans hb10 (Bl.trans hbl hb12)
    refine seq_then fun K13 g13 => ?_
    refine seq_then fun K14 g14 => ?_
    refine jn_r19 k wr j Rb u.how u.val S2.steps S2.forks (k + 1) ra fa wa rc fn fc wn wc w12 a12 _ ha12 hr12 h16 (by omega) e5 (by omega) (by omega) fun a13 ha13 h84 => g14 _ _ ?_
    refine jn_c19 w12 a13 _ h84 (g13 _ _ ?_)
    refine seq_then fun K15 g15 => ?_
    refine seq_then fun K16 g16 => ?_
    refine jn_r21 k wr j Rb w12 a13 _ ha13 fun a14 ha14 h87 => g16 _ _ ?_
    by_cases hwj : wr < j
    · rw [if_pos hwj] at e1 e2
      exact jn_c22 k wr j Rb u.how u.val S2.steps S2.forks (k + 1) ra fa wa rc fn fc wn wc w12 a14 _ ha14 hr12 (by rw [h87]; simp [hwj]) e1 e2 fun a15 w15 s15 d15 p6 b15 => hQ a15 w15 s15 d15 p6 (Bl.trans hB b15)
    · rw [if_neg hwj] at e1 e2
      refine jn_c21 w12 a14 _ (by rw [h87]; simp; omega) (g15 _ _ ?_)
      refine seq_then fun K17 g17 => ?_
      refine jn_r23 k wr j Rb u.how u.val S2.steps S2.forks (k + 1) ra fa wa rc fn fc wn wc w12 a14 _ ha14 hr12 e1 e2 (by omega) (by omega) fun a15 w15 s15 d15 p6 b15 => g17 _ _ ?_
      exact wp_ret (hQ a15 w15 s15 d15 p6 (Bl.trans hB b15))
set_option maxRecDepth 100000 in
set_option maxHeartbeats 8000000 in
theorem joins_any (n wrong joins : Int) (w : World) (h1 : (Lit.int .i64 n).wf = true) (h2 : (Lit.int .i64 wrong).wf = true) (h3 : (Lit.int .i64 joins).wf = true) : Calls Try.prog 13 #[.int .i64 n, .int .i64 wrong, .int .i64 joins] w fun e w' => e = .returned (.bool true) ∧ Bl w w' := by
  go_enter Try.func13, Try.ntmps13
  refine joins_wp n wrong joins w _ _ rfl rfl rfl rfl rfl fun a' w' hs hd h6 hb => ?_
  obtain ⟨_, h6'⟩ := get_of h6
  exact bodyPost_ret (v := .bool true) (by simp [results, Try.results13, go_sem, hs, h6']) hd ⟨rfl, hb⟩
end Go.Proofs.Ytonndofbnhnkpaa.Evl
