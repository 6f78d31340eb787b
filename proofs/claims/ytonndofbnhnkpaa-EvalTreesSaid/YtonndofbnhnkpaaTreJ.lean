/- The law of trees: plain Lean. The program of a tree: the pieces of its walk. The program of a tree: its loops. The program of a tree: the whole. -/
import Derived.Test.YtonndofbnhnkpaaEvE
set_option linter.unusedVariables false
set_option linter.unusedSimpArgs false
set_option linter.unusedSectionVars false
namespace Go.Proofs.Ytonndofbnhnkpaa.Evl
open Go.RowKit Num KeyM KeyW StatW Blk VmA VmG Prg EvM Rf PutA CodA
/-- The function of a tree's inner tasks. -/
def trF (w : Nat) (b m : Int) : List Ins := [⟨1, 1, m, 0⟩, ⟨4, 2, 0, 1⟩] ++ ((List.range w).map fun i : Nat => (⟨9, (i : Int), b, 2⟩ : Ins)) ++ ((List.range w).flatMap fun i : Nat => [(⟨10, 3, (i : Int), 0⟩ : Ins), ⟨2, 0, 0, 3⟩]) ++ [⟨15, 0, 0, 0⟩]
/-- A tree's functions. -/
def trees (w d : Nat) (m : Int) : List (List Ins) := trF w 1 m :: (List.range d).map fun k => if k + 1 = d then [⟨15, 0, 0, 0⟩] else trF w ((k : Int) + 2) m
def addN (c : Int) : Nat → Int → Int
  | 0, r => r
  | n + 1, r => addN c n (Num.add r c)
/-- What a tree gives. -/
def tvI (w : Nat) (m : Int) : Nat → Int → Int
  | 0, x => wrap32 x
  | d + 1, x => addN (tvI w m d (Num.mul (wrap32 x) m)) w (wrap32 x)
def trN (w : Nat) : Nat → Nat
  | 0 => 0
  | d + 1 => w * (trN w d + 1)
def TreE (w d : Nat) (m a : Int) : Prop := ∃ n u S2, evLoop (trees w d m) d 100 5000 n (rt0 0 a rootK 100) s0e = some (u, S2) ∧ u.how = 1 ∧ u.val = tvI w m d a ∧ S2.over = false ∧ S2.ran.length = trN w d ∧ S2.forks = (trN w d : Int)
theorem tr_get {w d n : Nat} {m a : Int} (h : ((evLoop (trees w d m) d 100 5000 n (rt0 0 a rootK 100) s0e).map fun r => (r.1.how, r.1.val, r.2.over, r.2.ran.length, r.2.forks)) = some (1, tvI w m d a, false, trN w d, (trN w d : Int))) : TreE w d m a := by
  obtain ⟨⟨u, S2⟩, h1, h2⟩ := Option.map_eq_some_iff.1 h
  injection h2 with a1 h2
  injection h2 with a2 h2
  injection h2 with a3 h2
  injection h2 with a4 a5
  exact ⟨n, u, S2, h1, a1, a2, a3, a4, a5⟩
theorem tr_11 (m a : Int) : TreE 1 1 m a := tr_get (n := 30) (by kernel_rfl)
theorem tr_21 (m a : Int) : TreE 2 1 m a := tr_get (n := 30) (by kernel_rfl)
theorem tr_31 (m a : Int) : TreE 3 1 m a := tr_get (n := 30) (by kernel_rfl)
theorem tr_12 (m a : Int) : TreE 1 2 m a := tr_get (n := 45) (by kernel_rfl)
theorem tr_22 (m a : Int) : TreE 2 2 m a := tr_get (n := 45) (by kernel_rfl)
theorem tr_32 (m a : Int) : TreE 3 2 m a := tr_get (n := 45) (by kernel_rfl)
theorem tr_13 (m a : Int) : TreE 1 3 m a := tr_get (n := 60) (by kernel_rfl)
theorem tr_23 (m a : Int) : TreE 2 3 m a := tr_get (n := 60) (by kernel_rfl)
theorem tr_33 (m a : Int) : TreE 3 3 m a := tr_get (n := 60) (by kernel_rfl)
end Go.Proofs.Ytonndofbnhnkpaa.Evl
set_option linter.unusedVariables false
set_option linter.unusedSimpArgs false
set_option linter.unusedSectionVars false
namespace Go.Proofs.Ytonndofbnhnkpaa.Evl
open Go.RowKit Num KeyM KeyW StatW Blk VmA VmG Prg EvM Rf PutA CodA
def txA (f : Func) : Code := inK (nth 1 (nth 2 (bodyOf f)))
def txB (f : Func) : Code := inK (nth 1 (nth 3 (bodyOf f)))
def txD (f : Func) : Code := inK (nth 1 (nth 6 (bodyOf f)))
def txI (f : Func) : Code := inK (nth 1 (txD f))
def txE (f : Func) : Code := inK (nth 1 (nth 1 (txI f)))
def txJ (f : Func) : Code := inK (nth 1 (txE f))
theorem own_grow {w w' wx : World} {base size n : Nat} {e : TypeId} {v : Value} {xs : List Value} {row : Option Nat} (h : wx.ownsRow base e size v n xs) (hg : w.grownBy w' row) (hx : Bl wx w) (hn : ∀ k, v.ownBlock = some k → row ≠ some k) : w'.ownsRow base e size v n xs :=
  own_ch (S := fun k => row = some k) (own_ch (S := fun _ => False) h (Ch.of_bl hx) (fun _ _ h => h)) (Prg.Ch.of_grown hg) hn
theorem icells_one : ∀ (f : List Ins), ∀ u ∈ icells f, u.oneCell' = true := by
  intro f u hu
  obtain ⟨x, _, hx⟩ := List.mem_flatMap.1 hu
  simp [icell] at hx
  rcases hx with rfl | rfl | rfl | rfl <;> rfl
structure TrZ (a : Act) (w d m : Int) (P : Nat) : Prop where
  sz : a.tmps.size = 84
  dfs : a.defers = []
  t0 : a.tmps[0]? = some (.int .i64 w)
  t1 : a.tmps[1]? = some (.int .i64 d)
  t2 : a.tmps[2]? = some (.int .i64 m)
  t6 : a.tmps[6]? = some (.pointer (some ⟨P, 0, none⟩))
structure TrA (a : Act) (w d m : Int) (P : Nat) (vf : Value) : Prop where
  sz : a.tmps.size = 84
  dfs : a.defers = []
  t0 : a.tmps[0]? = some (.int .i64 w)
  t1 : a.tmps[1]? = some (.int .i64 d)
  t2 : a.tmps[2]? = some (.int .i64 m)
  t6 : a.tmps[6]? = some (.pointer (some ⟨P, 0, none⟩))
  t7 : a.tmps[7]? = some (vf)
structure TrB (a : Act) (d : Int) (P : Nat) (vf : Value) (P1 : Nat) : Prop where
  sz : a.tmps.size = 84
  dfs : a.defers = []
  t1 : a.tmps[1]? = some (.int .i64 d)
  t6 : a.tmps[6]? = some (.pointer (some ⟨P, 0, none⟩))
  t7 : a.tmps[7]? = some (vf)
  t10 : a.tmps[10]? = some (.pointer (some ⟨P1, 0, none⟩))
structure TrC (a : Act) (d : Int) (P : Nat) (vf : Value) (P1 : Nat) (k : Int) : Prop where
  sz : a.tmps.size = 84
  dfs : a.defers = []
  t1 : a.tmps[1]? = some (.int .i64 d)
  t6 : a.tmps[6]? = some (.pointer (some ⟨P, 0, none⟩))
  t7 : a.tmps[7]? = some (vf)
  t10 : a.tmps[10]? = some (.pointer (some ⟨P1, 0, none⟩))
  t11 : a.tmps[11]? = some (.int .i64 k)
structure TrD (a : Act) (d : Int) (P : Nat) (vf : Value) (P1 : Nat) (k : Int) (vg : Value) : Prop where
  sz : a.tmps.size = 84
  dfs : a.defers = []
  t1 : a.tmps[1]? = some (.int .i64 d)
  t6 : a.tmps[6]? = some (.pointer (some ⟨P, 0, none⟩))
  t7 : a.tmps[7]? = some (vf)
  t10 : a.tmps[10]? = some (.pointer (some ⟨P1, 0, none⟩))
  t11 : a.tmps[11]? = some (.int .i64 k)
  t12 : a.tmps[12]? = some (vg)
structure TrE (a : Act) (d : Int) (P : Nat) (vf : Value) (P1 : Nat) (k : Int) (vg : Value) (i : Int) : Prop where
  sz : a.tmps.size = 84
  dfs : a.defers = []
  t1 : a.tmps[1]? = some (.int .i64 d)
  t6 : a.tmps[6]? = some (.pointer (some ⟨P, 0, none⟩))
  t7 : a.tmps[7]? = some (vf)
  t10 : a.tmps[10]? = some (.pointer (some ⟨P1, 0, none⟩))
  t11 : a.tmps[11]? = some (.int .i64 k)
  t12 : a.tmps[12]? = some (vg)
  t13 : a.tmps[13]? = some (.int .i64 i)
set_option maxRecDepth 100000 in
set_option maxHeartbeats 8000000 in
theorem tr_r0 (w d m : Int) (W : World) (a : Act) (Q : Exit → Act → World → Prop) (hsz : a.tmps.size = 84) (hdf : a.defers = []) (t0 : a.tmps[0]? = some (.int .i64 w)) (t1 : a.tmps[1]? = some (.int .i64 d)) (t2 : a.tmps[2]? = some (.int .i64 m))
    (hQ : ∀ a' : Act, TrZ a' w d m W.heap.size → Q .normal a' (W.alloc (.cells #[.slice none 0 0, .int .i64 0, .int .i64 0, .int .i64 0] 52))) : (nth 0 (bodyOf Try.f43)).wp Try.prog Q a W := by
  simp only [nth, bodyOf, Try.f43, Option.getD, inK]
  have HQ := Lib.hid hQ
  clear hQ
  go_wp2_with fail
  exact HQ.out _ ⟨by simp [hsz], by first | rfl | exact hdf, by simp [Array.getElem?_setIfInBounds, t0], by simp [Array.getElem?_setIfInBounds, t1], by simp [Array.getElem?_setIfInBounds, t2], by simp [Array.getElem?_setIfInBounds, hsz]⟩
set_option maxRecDepth 100000 in
set_option maxHeartbeats 8000000 in
theorem tr_r1 (w : Int) (d : Int) (m : Int) (P : Nat)  (W : World) (a : Act) (Q : Exit → Act → World → Prop) (ha : TrZ a w d m P) 
    (hQ : ∀ a' : Act, TrA a' w d m P (.slice (some ⟨W.heap.size, 0, none⟩) 2 2) → Q .normal a' (W.alloc (.cells (icells [⟨1, 1, m, 0⟩, ⟨4, 2, 0, 1⟩]).toArray 48))) : (nth 1 (bodyOf Try.f43)).wp Try.prog Q a W := by
  simp only [nth, bodyOf, Try.f43, Option.getD, inK]
  obtain ⟨hsz, hdf, t0, t1, t2, t6⟩ := ha
  obtain ⟨_, t2'⟩ := get_of t2
  change ∀ a' : Act, TrA a' w d m P (.slice (some ⟨W.heap.size, 0, none⟩) 2 2) → Q .normal a' (W.alloc (.cells #[.int .i64 1, .int .i64 1, .int .i64 m, .int .i64 0, .int .i64 4, .int .i64 2, .int .i64 0, .int .i64 1] 48)) at hQ
  have HQ := Lib.hid hQ
  clear hQ
  go_wp2_with fail
  exact HQ.out _ ⟨by simp [hsz], by first | rfl | exact hdf, by simp [Array.getElem?_setIfInBounds, t0], by simp [Array.getElem?_setIfInBounds, t1], by simp [Array.getElem?_setIfInBounds, t2], by simp [Array.getElem?_setIfInBounds, t6], by simp [Array.getElem?_setIfInBounds, hsz]⟩
set_option maxRecDepth 100000 in
set_option maxHeartbeats 8000000 in
theorem tr_r2 (w : Int) (d : Int) (m : Int) (P : Nat) (vf : Value)  (W : World) (a : Act) (Q : Exit → Act → World → Prop) (ha : TrA a w d m P vf) 
    (hQ : ∀ a' : Act, TrA a' w d m P vf → a'.tmps[8]? = some (.int .i64 0) → Q .normal a' W) : (nth 0 (nth 2 (bodyOf Try.f43))).wp Try.prog Q a W := by
  simp only [nth, bodyOf, Try.f43, Option.getD, inK]
  obtain ⟨hsz, hdf, t0, t1, t2, t6, t7⟩ := ha
  have HQ := Lib.hid hQ
  clear hQ
  go_wp2_with fail
  exact HQ.out _ ⟨by simp [hsz], by first | rfl | exact hdf, by simp [Array.getElem?_setIfInBounds, t0], by simp [Array.getElem?_setIfInBounds, t1], by simp [Array.getElem?_setIfInBounds, t2], by simp [Array.getElem?_setIfInBounds, t6], by simp [Array.getElem?_setIfInBounds, t7]⟩ (by simp [Array.getElem?_setIfInBounds, hsz])
set_option maxRecDepth 100000 in
set_option maxHeartbeats 8000000 in
theorem tr_tA (w : Int) (d : Int) (m : Int) (i : Int) (P : Nat) (vf : Value)  (W : World) (a : Act) (Q : Exit → Act → World → Prop) (ha : TrA a w d m P vf) (ti : a.tmps[8]? = some (.int .i64 i))
    (hQ : ∀ a' : Act, TrA a' w d m P vf → a'.tmps[8]? = some (.int .i64 i) → a'.tmps[20]? = some (.bool (decide (i < w))) → Q .normal a' W) : (nth 0 (nth 0 (txA Try.f43))).wp Try.prog Q a W := by
  simp only [nth, bodyOf, Try.f43, Option.getD, inK, txA]
  obtain ⟨hsz, hdf, t0, t1, t2, t6, t7⟩ := ha
  obtain ⟨_, t0'⟩ := get_of t0
  obtain ⟨_, ti'⟩ := get_of ti
  have HQ := Lib.hid hQ
  clear hQ
  go_wp2_with fail
  exact HQ.out _ ⟨by simp [hsz], by first | rfl | exact hdf, by simp [Array.getElem?_setIfInBounds, t0], by simp [Array.getElem?_setIfInBounds, t1], by simp [Array.getElem?_setIfInBounds, t2], by simp [Array.getElem?_setIfInBounds, t6], by simp [Array.getElem?_setIfInBounds, t7]⟩ (by simp [Array.getElem?_setIfInBounds, ti]) (by simp [Array.getElem?_setIfInBounds, hsz])
theorem tr_cA (W : World) (a : Act) (Q : Exit → Act → World → Prop) (h : a.tmps[20]? = some (.bool true)) (hQ : Q .normal a W) : (nth 1 (nth 0 (txA Try.f43))).wp Try.prog Q a W := by
  simp only [nth, bodyOf, Try.f43, Option.getD, inK, txA]
  refine wp_cond (t := true) (by show a.tmps.getD 20 undef = _; rw [Array.getD_eq_getD_getElem?, h]; rfl) ?_
  simp only [if_true]
  go_wp2_with fail
  exact hQ
theorem tr_cAn (W : World) (a : Act) (Q : Exit → Act → World → Prop) (h : a.tmps[20]? = some (.bool false)) (hQ : Q (.exit 0) a W) : (nth 1 (nth 0 (txA Try.f43))).wp Try.prog Q a W := by
  simp only [nth, bodyOf, Try.f43, Option.getD, inK, txA]
  refine wp_cond_false (by show a.tmps.getD 20 undef = _; rw [Array.getD_eq_getD_getElem?, h]; rfl) ?_
  go_wp2_with fail
  exact hQ
set_option maxRecDepth 100000 in
set_option maxHeartbeats 8000000 in
theorem tr_iA (w : Int) (d : Int) (m : Int) (i : Int) (P : Nat) (vf : Value)  (W : World) (a : Act) (Q : Exit → Act → World → Prop) (ha : TrA a w d m P vf) (ti : a.tmps[8]? = some (.int .i64 i)) (h0 : 0 ≤ i) (h1 : i ≤ 100)
    (hQ : ∀ a' : Act, TrA a' w d m P vf → a'.tmps[8]? = some (.int .i64 (i + 1)) → Q .normal a' W) : (nth 2 (txA Try.f43)).wp Try.prog Q a W := by
  simp only [nth, bodyOf, Try.f43, Option.getD, inK, txA]
  obtain ⟨hsz, hdf, t0, t1, t2, t6, t7⟩ := ha
  obtain ⟨_, ti'⟩ := get_of ti
  have HQ := Lib.hid hQ
  clear hQ
  go_wp2_with fail
  exact HQ.out _ ⟨by simp [hsz], by first | rfl | exact hdf, by simp [Array.getElem?_setIfInBounds, t0], by simp [Array.getElem?_setIfInBounds, t1], by simp [Array.getElem?_setIfInBounds, t2], by simp [Array.getElem?_setIfInBounds, t6], by simp [Array.getElem?_setIfInBounds, t7]⟩ (by simp [Array.getElem?_setIfInBounds, hsz])
set_option maxRecDepth 100000 in
set_option maxHeartbeats 8000000 in
theorem tr_tB (w : Int) (d : Int) (m : Int) (i : Int) (P : Nat) (vf : Value)  (W : World) (a : Act) (Q : Exit → Act → World → Prop) (ha : TrA a w d m P vf) (ti : a.tmps[9]? = some (.int .i64 i))
    (hQ : ∀ a' : Act, TrA a' w d m P vf → a'.tmps[9]? = some (.int .i64 i) → a'.tmps[30]? = some (.bool (decide (i < w))) → Q .normal a' W) : (nth 0 (nth 0 (txB Try.f43))).wp Try.prog Q a W := by
  simp only [nth, bodyOf, Try.f43, Option.getD, inK, txB]
  obtain ⟨hsz, hdf, t0, t1, t2, t6, t7⟩ := ha
  obtain ⟨_, t0'⟩ := get_of t0
  obtain ⟨_, ti'⟩ := get_of ti
  have HQ := Lib.hid hQ
  clear hQ
  go_wp2_with fail
  exact HQ.out _ ⟨by simp [hsz], by first | rfl | exact hdf, by simp [Array.getElem?_setIfInBounds, t0], by simp [Array.getElem?_setIfInBounds, t1], by simp [Array.getElem?_setIfInBounds, t2], by simp [Array.getElem?_setIfInBounds, t6], by simp [Array.getElem?_setIfInBounds, t7]⟩ (by simp [Array.getElem?_setIfInBounds, ti]) (by simp [Array.getElem?_setIfInBounds, hsz])
theorem tr_cB (W : World) (a : Act) (Q : Exit → Act → World → Prop) (h : a.tmps[30]? = some (.bool true)) (hQ : Q .normal a W) : (nth 1 (nth 0 (txB Try.f43))).wp Try.prog Q a W := by
  simp only [nth, bodyOf, Try.f43, Option.getD, inK, txB]
  refine wp_cond (t := true) (by show a.tmps.getD 30 undef = _; rw [Array.getD_eq_getD_getElem?, h]; rfl) ?_
  simp only [if_true]
  go_wp2_with fail
  exact hQ
theorem tr_cBn (W : World) (a : Act) (Q : Exit → Act → World → Prop) (h : a.tmps[30]? = some (.bool false)) (hQ : Q (.exit 2) a W) : (nth 1 (nth 0 (txB Try.f43))).wp Try.prog Q a W := by
  simp only [nth, bodyOf, Try.f43, Option.getD, inK, txB]
  refine wp_cond_false (by show a.tmps.getD 30 undef = _; rw [Array.getD_eq_getD_getElem?, h]; rfl) ?_
  go_wp2_with fail
  exact hQ
set_option maxRecDepth 100000 in
set_option maxHeartbeats 8000000 in
theorem tr_iB (w : Int) (d : Int) (m : Int) (i : Int) (P : Nat) (vf : Value)  (W : World) (a : Act) (Q : Exit → Act → World → Prop) (ha : TrA a w d m P vf) (ti : a.tmps[9]? = some (.int .i64 i)) (h0 : 0 ≤ i) (h1 : i ≤ 100)
    (hQ : ∀ a' : Act, TrA a' w d m P vf → a'.tmps[9]? = some (.int .i64 (i + 1)) → Q .normal a' W) : (nth 2 (txB Try.f43)).wp Try.prog Q a W := by
  simp only [nth, bodyOf, Try.f43, Option.getD, inK, txB]
  obtain ⟨hsz, hdf, t0, t1, t2, t6, t7⟩ := ha
  obtain ⟨_, ti'⟩ := get_of ti
  have HQ := Lib.hid hQ
  clear hQ
  go_wp2_with fail
  exact HQ.out _ ⟨by simp [hsz], by first | rfl | exact hdf, by simp [Array.getElem?_setIfInBounds, t0], by simp [Array.getElem?_setIfInBounds, t1], by simp [Array.getElem?_setIfInBounds, t2], by simp [Array.getElem?_setIfInBounds, t6], by simp [Array.getElem?_setIfInBounds, t7]⟩ (by simp [Array.getElem?_setIfInBounds, hsz])
theorem own_bl {w w' : World} {base size n : Nat} {e : TypeId} {v : Value} {xs : List Value} (h : w.ownsRow base e size v n xs) (hb : Bl w w') : w'.ownsRow base e size v n xs :=
  own_ch (S := fun _ => False) h (Ch.of_bl hb) (fun _ _ h => h)
theorem grow_bl' {w0 w w' : World} {n : Nat} {e : TypeId} {size : Nat} {v : Value} {xs : List Value} (hb : Bl w0 w) (ho : w.ownsRow w0.heap.size e size v n xs) (hg : w.grownBy w' v.ownBlock) : Bl w0 w' :=
  bl_ch (S := fun i => v.ownBlock = some i) hb ⟨hg.os, hg.tape, hg.output, hg.size, fun i hi hn => hg.block i hi (fun e => hn e.symm)⟩ (fun i hi e => by have := (World.ownsRow.lt ho _ e).1; omega)
set_option maxRecDepth 100000 in
set_option maxHeartbeats 8000000 in
theorem tr_r5 (w : Int) (d : Int) (m : Int) (i : Int) (P : Nat) (vf : Value) (w0 : World) (n : Nat) (f : List Ins) (W : World) (a : Act) (Q : Exit → Act → World → Prop) (ha : TrA a w d m P vf) (ti : a.tmps[8]? = some (.int .i64 i)) (hbl : Bl w0 W) (ho : W.ownsRow w0.heap.size 48 4 vf n (icells f)) (hm : n ≤ 30)
    (hQ : ∀ (a' : Act) (w' : World) (v' : Value), TrA a' w d m P v' → a'.tmps[8]? = some (.int .i64 i) → Bl w0 w' → w'.ownsRow w0.heap.size 48 4 v' (n + 1) (icells (f ++ [⟨9, i, 1, 2⟩])) → Q .normal a' w') : (inK (nth 1 (txA Try.f43))).wp Try.prog Q a W := by
  simp only [nth, bodyOf, Try.f43, Option.getD, inK, txA]
  obtain ⟨hsz, hdf, t0, t1, t2, t6, t7⟩ := ha
  obtain ⟨_, t7'⟩ := get_of t7
  obtain ⟨i0, hi, he⟩ := Option.map_eq_some_iff.1 info48
  obtain ⟨hz0, hz1, hz2⟩ : i0.zero = some (.agg #[.int .i64 0, .int .i64 0, .int .i64 0, .int .i64 0]) ∧ i0.size = 4 ∧ i0.bytes = 32 := by
    injection he with e1 e2
    injection e2 with e2 e3
    exact ⟨e1, e2, e3⟩
  obtain ⟨_, ti'⟩ := get_of ti
  have HO := Lib.hid ho
  have HBL := Lib.hid hbl
  have HQ := Lib.hid hQ
  clear ho hbl hQ he
  go_wp2_with (first | (at_builtin; refine wpList_append_own _ rfl _ _ 49 rfl w0.heap.size 48 i0 _ 4 32 Try.underlying49 hi hz0 hz1 hz2 rfl (by decide) vf n (icells f) (by simp [Act.eval, hsz]) (own_bl HO.out (Bl.alloc (Bl.refl _) _)) ⟨W.heap.size, 0, none⟩ 1 1 (icells [⟨9, i, 1, 2⟩]) (by simp [Act.eval, hsz]) rfl ?c1 ?c2 ?c3 ?c4 ?c5 ?_))
  case c1 => exact World.news_of_block (cs := (icells [⟨9, i, 1, 2⟩]).toArray) (t := 48) (fr := (0, 0)) (heap_alloc_new W _)
  case c2 => exact icells_one _
  case c3 => unfold maxLen; omega
  case c4 => omega
  case c5 => have := HBL.out.size; simp; omega
  intro v' w9 hown9 hgr _
  have hb9 := grow_bl' (Bl.alloc HBL.out _) (own_bl HO.out (Bl.alloc (Bl.refl _) _)) hgr
  have HO9 : Hid (w9.ownsRow w0.heap.size 48 4 v' (n + 1) (icells (f ++ [⟨9, i, 1, 2⟩]))) := by
    have : icells (f ++ [⟨9, i, 1, 2⟩]) = icells f ++ icells [⟨9, i, 1, 2⟩] := by unfold icells; rw [List.flatMap_append]
    rw [this]; exact hown9
  have HB9 := Lib.hid hb9
  clear hown9 hb9 hgr
  go_wp2_with fail
  exact HQ.out _ _ v' ⟨by simp [hsz], by first | rfl | exact hdf, by simp [Array.getElem?_setIfInBounds, t0], by simp [Array.getElem?_setIfInBounds, t1], by simp [Array.getElem?_setIfInBounds, t2], by simp [Array.getElem?_setIfInBounds, t6], by simp [Array.getElem?_setIfInBounds, hsz]⟩ (by simp [Array.getElem?_setIfInBounds, ti]) HB9.out HO9.out
set_option maxRecDepth 100000 in
set_option maxHeartbeats 8000000 in
theorem tr_r6 (w : Int) (d : Int) (m : Int) (P : Nat) (vf : Value)  (W : World) (a : Act) (Q : Exit → Act → World → Prop) (ha : TrA a w d m P vf) 
    (hQ : ∀ a' : Act, TrA a' w d m P vf → a'.tmps[9]? = some (.int .i64 0) → Q .normal a' W) : (nth 0 (nth 3 (bodyOf Try.f43))).wp Try.prog Q a W := by
  simp only [nth, bodyOf, Try.f43, Option.getD, inK]
  obtain ⟨hsz, hdf, t0, t1, t2, t6, t7⟩ := ha
  have HQ := Lib.hid hQ
  clear hQ
  go_wp2_with fail
  exact HQ.out _ ⟨by simp [hsz], by first | rfl | exact hdf, by simp [Array.getElem?_setIfInBounds, t0], by simp [Array.getElem?_setIfInBounds, t1], by simp [Array.getElem?_setIfInBounds, t2], by simp [Array.getElem?_setIfInBounds, t6], by simp [Array.getElem?_setIfInBounds, t7]⟩ (by simp [Array.getElem?_setIfInBounds, hsz])
set_option maxRecDepth 100000 in
set_option maxHeartbeats 8000000 in
theorem tr_r9 (w : Int) (d : Int) (m : Int) (i : Int) (P : Nat) (vf : Value) (w0 : World) (n : Nat) (f : List Ins) (W : World) (a : Act) (Q : Exit → Act → World → Prop) (ha : TrA a w d m P vf) (ti : a.tmps[9]? = some (.int .i64 i)) (hbl : Bl w0 W) (ho : W.ownsRow w0.heap.size 48 4 vf n (icells f)) (hm : n ≤ 30)
    (hQ : ∀ (a' : Act) (w' : World) (v' : Value), TrA a' w d m P v' → a'.tmps[9]? = some (.int .i64 i) → Bl w0 w' → w'.ownsRow w0.heap.size 48 4 v' (n + 2) (icells (f ++ [⟨10, 3, i, 0⟩, ⟨2, 0, 0, 3⟩])) → Q .normal a' w') : (inK (nth 1 (txB Try.f43))).wp Try.prog Q a W := by
  simp only [nth, bodyOf, Try.f43, Option.getD, inK, txB]
  obtain ⟨hsz, hdf, t0, t1, t2, t6, t7⟩ := ha
  obtain ⟨_, t7'⟩ := get_of t7
  obtain ⟨i0, hi, he⟩ := Option.map_eq_some_iff.1 info48
  obtain ⟨hz0, hz1, hz2⟩ : i0.zero = some (.agg #[.int .i64 0, .int .i64 0, .int .i64 0, .int .i64 0]) ∧ i0.size = 4 ∧ i0.bytes = 32 := by
    injection he with e1 e2
    injection e2 with e2 e3
    exact ⟨e1, e2, e3⟩
  obtain ⟨_, ti'⟩ := get_of ti
  have HO := Lib.hid ho
  have HBL := Lib.hid hbl
  have HQ := Lib.hid hQ
  clear ho hbl hQ he
  go_wp2_with (first | (at_builtin; refine wpList_append_own _ rfl _ _ 49 rfl w0.heap.size 48 i0 _ 4 32 Try.underlying49 hi hz0 hz1 hz2 rfl (by decide) vf n (icells f) (by simp [Act.eval, hsz]) (own_bl HO.out (Bl.alloc (Bl.refl _) _)) ⟨W.heap.size, 0, none⟩ 2 2 (icells [⟨10, 3, i, 0⟩, ⟨2, 0, 0, 3⟩]) (by simp [Act.eval, hsz]) rfl ?c1 ?c2 ?c3 ?c4 ?c5 ?_))
  case c1 => exact World.news_of_block (cs := (icells [⟨10, 3, i, 0⟩, ⟨2, 0, 0, 3⟩]).toArray) (t := 48) (fr := (0, 0)) (heap_alloc_new W _)
  case c2 => exact icells_one _
  case c3 => unfold maxLen; omega
  case c4 => omega
  case c5 => have := HBL.out.size; simp; omega
  intro v' w9 hown9 hgr _
  have hb9 := grow_bl' (Bl.alloc HBL.out _) (own_bl HO.out (Bl.alloc (Bl.refl _) _)) hgr
  have HO9 : Hid (w9.ownsRow w0.heap.size 48 4 v' (n + 2) (icells (f ++ [⟨10, 3, i, 0⟩, ⟨2, 0, 0, 3⟩]))) := by
    have : icells (f ++ [⟨10, 3, i, 0⟩, ⟨2, 0, 0, 3⟩]) = icells f ++ icells [⟨10, 3, i, 0⟩, ⟨2, 0, 0, 3⟩] := by unfold icells; rw [List.flatMap_append]
    rw [this]; exact hown9
  have HB9 := Lib.hid hb9
  clear hown9 hb9 hgr
  go_wp2_with fail
  exact HQ.out _ _ v' ⟨by simp [hsz], by first | rfl | exact hdf, by simp [Array.getElem?_setIfInBounds, t0], by simp [Array.getElem?_setIfInBounds, t1], by simp [Array.getElem?_setIfInBounds, t2], by simp [Array.getElem?_setIfInBounds, t6], by simp [Array.getElem?_setIfInBounds, hsz]⟩ (by simp [Array.getElem?_setIfInBounds, ti]) HB9.out HO9.out
set_option maxRecDepth 100000 in
set_option maxHeartbeats 8000000 in
theorem tr_r10 (w : Int) (d : Int) (m : Int) (P : Nat) (vf : Value) (w0 : World) (n : Nat) (f : List Ins) (W : World) (a : Act) (Q : Exit → Act → World → Prop) (ha : TrA a w d m P vf) (hbl : Bl w0 W) (ho : W.ownsRow w0.heap.size 48 4 vf n (icells f)) (hm : n ≤ 30)
    (hQ : ∀ (a' : Act) (w' : World) (v' : Value), TrA a' w d m P v' → Bl w0 w' → w'.ownsRow w0.heap.size 48 4 v' (n + 1) (icells (f ++ [⟨15, 0, 0, 0⟩])) → Q .normal a' w') : (nth 4 (bodyOf Try.f43)).wp Try.prog Q a W := by
  simp only [nth, bodyOf, Try.f43, Option.getD, inK]
  obtain ⟨hsz, hdf, t0, t1, t2, t6, t7⟩ := ha
  obtain ⟨_, t7'⟩ := get_of t7
  obtain ⟨i0, hi, he⟩ := Option.map_eq_some_iff.1 info48
  obtain ⟨hz0, hz1, hz2⟩ : i0.zero = some (.agg #[.int .i64 0, .int .i64 0, .int .i64 0, .int .i64 0]) ∧ i0.size = 4 ∧ i0.bytes = 32 := by
    injection he with e1 e2
    injection e2 with e2 e3
    exact ⟨e1, e2, e3⟩
  have HO := Lib.hid ho
  have HBL := Lib.hid hbl
  have HQ := Lib.hid hQ
  clear ho hbl hQ he
  go_wp2_with (first | (at_builtin; refine wpList_append_own _ rfl _ _ 49 rfl w0.heap.size 48 i0 _ 4 32 Try.underlying49 hi hz0 hz1 hz2 rfl (by decide) vf n (icells f) (by simp [Act.eval, hsz]) (own_bl HO.out (Bl.alloc (Bl.refl _) _)) ⟨W.heap.size, 0, none⟩ 1 1 (icells [⟨15, 0, 0, 0⟩]) (by simp [Act.eval, hsz]) rfl ?c1 ?c2 ?c3 ?c4 ?c5 ?_))
  case c1 => exact World.news_of_block (cs := (icells [⟨15, 0, 0, 0⟩]).toArray) (t := 48) (fr := (0, 0)) (heap_alloc_new W _)
  case c2 => exact icells_one _
  case c3 => unfold maxLen; omega
  case c4 => omega
  case c5 => have := HBL.out.size; simp; omega
  intro v' w9 hown9 hgr _
  have hb9 := grow_bl' (Bl.alloc HBL.out _) (own_bl HO.out (Bl.alloc (Bl.refl _) _)) hgr
  have HO9 : Hid (w9.ownsRow w0.heap.size 48 4 v' (n + 1) (icells (f ++ [⟨15, 0, 0, 0⟩]))) := by
    have : icells (f ++ [⟨15, 0, 0, 0⟩]) = icells f ++ icells [⟨15, 0, 0, 0⟩] := by unfold icells; rw [List.flatMap_append]
    rw [this]; exact hown9
  have HB9 := Lib.hid hb9
  clear hown9 hb9 hgr
  go_wp2_with fail
  exact HQ.out _ _ v' ⟨by simp [hsz], by first | rfl | exact hdf, by simp [Array.getElem?_setIfInBounds, t0], by simp [Array.getElem?_setIfInBounds, t1], by simp [Array.getElem?_setIfInBounds, t2], by simp [Array.getElem?_setIfInBounds, t6], by simp [Array.getElem?_setIfInBounds, hsz]⟩ HB9.out HO9.out
set_option maxRecDepth 100000 in
set_option maxHeartbeats 8000000 in
theorem tr_r11 (w : Int) (d : Int) (m : Int) (P : Nat) (A : Option Addr) (n c : Nat) (W : World) (a : Act) (Q : Exit → Act → World → Prop) (ha : TrA a w d m P (.slice A n c)) 
    (hQ : ∀ a' : Act, TrB a' d P (.slice A n c) (W.heap.size + 1) → Q .normal a' ((W.alloc (.cells #[.slice A n c] 49)).alloc (.cells #[.slice (some ⟨W.heap.size, 0, none⟩) 1 1, .int .i64 0, .int .i64 d, .int .i64 100] 52))) : (nth 5 (bodyOf Try.f43)).wp Try.prog Q a W := by
  simp only [nth, bodyOf, Try.f43, Option.getD, inK]
  obtain ⟨hsz, hdf, t0, t1, t2, t6, t7⟩ := ha
  obtain ⟨_, t1'⟩ := get_of t1
  obtain ⟨_, t7'⟩ := get_of t7
  have HQ := Lib.hid hQ
  clear hQ
  go_wp2_with fail
  exact HQ.out _ ⟨by simp [hsz], by first | rfl | exact hdf, by simp [Array.getElem?_setIfInBounds, t1], by simp [Array.getElem?_setIfInBounds, t6], by simp [Array.getElem?_setIfInBounds, t7], by simp [Array.getElem?_setIfInBounds, hsz]⟩
set_option maxRecDepth 100000 in
set_option maxHeartbeats 8000000 in
theorem tr_r12 (d : Int) (P : Nat) (P1 : Nat) (vf : Value)  (W : World) (a : Act) (Q : Exit → Act → World → Prop) (ha : TrB a d P vf P1) 
    (hQ : ∀ a' : Act, TrC a' d P vf P1 1 → Q .normal a' W) : (nth 0 (nth 6 (bodyOf Try.f43))).wp Try.prog Q a W := by
  simp only [nth, bodyOf, Try.f43, Option.getD, inK]
  obtain ⟨hsz, hdf, t1, t6, t7, t10⟩ := ha
  have HQ := Lib.hid hQ
  clear hQ
  go_wp2_with fail
  exact HQ.out _ ⟨by simp [hsz], by first | rfl | exact hdf, by simp [Array.getElem?_setIfInBounds, t1], by simp [Array.getElem?_setIfInBounds, t6], by simp [Array.getElem?_setIfInBounds, t7], by simp [Array.getElem?_setIfInBounds, t10], by simp [Array.getElem?_setIfInBounds, hsz]⟩
set_option maxRecDepth 100000 in
set_option maxHeartbeats 8000000 in
theorem tr_tD (d : Int) (k : Int) (P : Nat) (P1 : Nat) (vf : Value)  (W : World) (a : Act) (Q : Exit → Act → World → Prop) (ha : TrC a d P vf P1 k) 
    (hQ : ∀ a' : Act, TrC a' d P vf P1 k → a'.tmps[49]? = some (.bool (decide (k ≤ d))) → Q .normal a' W) : (nth 0 (nth 0 (txD Try.f43))).wp Try.prog Q a W := by
  simp only [nth, bodyOf, Try.f43, Option.getD, inK, txD]
  obtain ⟨hsz, hdf, t1, t6, t7, t10, t11⟩ := ha
  obtain ⟨_, t1'⟩ := get_of t1
  obtain ⟨_, t11'⟩ := get_of t11
  have HQ := Lib.hid hQ
  clear hQ
  go_wp2_with fail
  exact HQ.out _ ⟨by simp [hsz], by first | rfl | exact hdf, by simp [Array.getElem?_setIfInBounds, t1], by simp [Array.getElem?_setIfInBounds, t6], by simp [Array.getElem?_setIfInBounds, t7], by simp [Array.getElem?_setIfInBounds, t10], by simp [Array.getElem?_setIfInBounds, t11]⟩ (by simp [Array.getElem?_setIfInBounds, hsz])
theorem tr_cD (W : World) (a : Act) (Q : Exit → Act → World → Prop) (h : a.tmps[49]? = some (.bool true)) (hQ : Q .normal a W) : (nth 1 (nth 0 (txD Try.f43))).wp Try.prog Q a W := by
  simp only [nth, bodyOf, Try.f43, Option.getD, inK, txD]
  refine wp_cond (t := true) (by show a.tmps.getD 49 undef = _; rw [Array.getD_eq_getD_getElem?, h]; rfl) ?_
  simp only [if_true]
  go_wp2_with fail
  exact hQ
theorem tr_cDn (W : World) (a : Act) (Q : Exit → Act → World → Prop) (h : a.tmps[49]? = some (.bool false)) (hQ : Q (.exit 4) a W) : (nth 1 (nth 0 (txD Try.f43))).wp Try.prog Q a W := by
  simp only [nth, bodyOf, Try.f43, Option.getD, inK, txD]
  refine wp_cond_false (by show a.tmps.getD 49 undef = _; rw [Array.getD_eq_getD_getElem?, h]; rfl) ?_
  go_wp2_with fail
  exact hQ
set_option maxRecDepth 100000 in
set_option maxHeartbeats 8000000 in
theorem tr_iD (d : Int) (k : Int) (P : Nat) (P1 : Nat) (vf : Value)  (W : World) (a : Act) (Q : Exit → Act → World → Prop) (ha : TrC a d P vf P1 k) (h0 : 0 ≤ k) (h1 : k ≤ 100)
    (hQ : ∀ a' : Act, TrC a' d P vf P1 (k + 1) → Q .normal a' W) : (nth 2 (txD Try.f43)).wp Try.prog Q a W := by
  simp only [nth, bodyOf, Try.f43, Option.getD, inK, txD]
  obtain ⟨hsz, hdf, t1, t6, t7, t10, t11⟩ := ha
  obtain ⟨_, t11'⟩ := get_of t11
  have HQ := Lib.hid hQ
  clear hQ
  go_wp2_with fail
  exact HQ.out _ ⟨by simp [hsz], by first | rfl | exact hdf, by simp [Array.getElem?_setIfInBounds, t1], by simp [Array.getElem?_setIfInBounds, t6], by simp [Array.getElem?_setIfInBounds, t7], by simp [Array.getElem?_setIfInBounds, t10], by simp [Array.getElem?_setIfInBounds, hsz]⟩
set_option maxRecDepth 100000 in
set_option maxHeartbeats 8000000 in
theorem tr_r15 (d : Int) (k : Int) (P : Nat) (P1 : Nat) (vf : Value) (G n c : Nat) (f : List Ins) (W : World) (a : Act) (Q : Exit → Act → World → Prop) (ha : TrC a d P vf P1 k) (hvf : vf = .slice (some ⟨G, 0, none⟩) n c) (hn : n = f.length) (hc : ∀ (j : Nat) (u : Value), (icells f)[j]? = some u → W.cell? ⟨G, j, none⟩ = some u) (h1 : 1 ≤ n) (hm : n ≤ 30)
    (hQ : ∀ (a' : Act) (w' : World) (v' : Value), TrD a' d P vf P1 k v' → Bl W w' → w'.ownsRow W.heap.size 48 4 v' n (icells f) → Q .normal a' w') : (nth 0 (txI Try.f43)).wp Try.prog Q a W := by
  simp only [nth, bodyOf, Try.f43, Option.getD, inK, txD, txI]
  obtain ⟨hsz, hdf, t1, t6, t7, t10, t11⟩ := ha
  obtain ⟨_, t7'⟩ := get_of t7
  obtain ⟨i0, hi, he⟩ := Option.map_eq_some_iff.1 info48
  obtain ⟨hz0, hz1, hz2⟩ : i0.zero = some (.agg #[.int .i64 0, .int .i64 0, .int .i64 0, .int .i64 0]) ∧ i0.size = 4 ∧ i0.bytes = 32 := by
    injection he with e1 e2
    injection e2 with e2 e3
    exact ⟨e1, e2, e3⟩
  subst hvf
  have HC := Lib.hid hc
  have HQ := Lib.hid hQ
  clear hc hQ he
  go_wp2_with (first | (at_builtin; refine wpList_append_own _ rfl _ _ 49 rfl W.heap.size 48 i0 _ 4 32 Try.underlying49 hi hz0 hz1 hz2 rfl (by decide) (.slice none 0 0) 0 [] (by simp [Act.eval]) (World.ownsRow_nil _ _ _ _) ⟨G, 0, none⟩ n c (icells f) (by simp [Act.eval, hsz, hn]) ?c0 ?c1 ?c2 ?c3 ?c4 ?c5 ?_))
  case c0 => first | omega | (simp [icells_len]; omega)
  case c1 =>
    intro j u hu
    have := HC.out j u hu
    rcases j with _ | j
    all_goals simpa [Addr.add] using this
  case c2 => exact icells_one f
  case c3 => unfold maxLen; omega
  case c4 => omega
  case c5 => omega
  intro v' w9 hown9 hgr _
  have hb9 : Bl W w9 := App.bl_of_grown hgr
  have HO9 : Hid (w9.ownsRow W.heap.size 48 4 v' n (icells f)) := Lib.hid (by simpa [hn] using hown9)
  have HB9 := Lib.hid hb9
  clear hown9 hb9 hgr
  go_wp2_with fail
  exact HQ.out _ _ v' ⟨by simp [hsz], by first | rfl | exact hdf, by simp [Array.getElem?_setIfInBounds, t1], by simp [Array.getElem?_setIfInBounds, t6], by simp [Array.getElem?_setIfInBounds, t7], by simp [Array.getElem?_setIfInBounds, t10], by simp [Array.getElem?_setIfInBounds, t11], by simp [Array.getElem?_setIfInBounds, hsz]⟩ HB9.out HO9.out
set_option maxRecDepth 100000 in
set_option maxHeartbeats 8000000 in
theorem tr_r16 (d : Int) (k : Int) (P : Nat) (P1 : Nat) (vf : Value) (vg : Value)  (W : World) (a : Act) (Q : Exit → Act → World → Prop) (ha : TrD a d P vf P1 k vg) 
    (hQ : ∀ a' : Act, TrE a' d P vf P1 k vg 0 → Q .normal a' W) : (nth 0 (nth 1 (txI Try.f43))).wp Try.prog Q a W := by
  simp only [nth, bodyOf, Try.f43, Option.getD, inK, txD, txI]
  obtain ⟨hsz, hdf, t1, t6, t7, t10, t11, t12⟩ := ha
  have HQ := Lib.hid hQ
  clear hQ
  go_wp2_with fail
  exact HQ.out _ ⟨by simp [hsz], by first | rfl | exact hdf, by simp [Array.getElem?_setIfInBounds, t1], by simp [Array.getElem?_setIfInBounds, t6], by simp [Array.getElem?_setIfInBounds, t7], by simp [Array.getElem?_setIfInBounds, t10], by simp [Array.getElem?_setIfInBounds, t11], by simp [Array.getElem?_setIfInBounds, t12], by simp [Array.getElem?_setIfInBounds, hsz]⟩
set_option maxRecDepth 100000 in
set_option maxHeartbeats 8000000 in
theorem tr_tE (d : Int) (k : Int) (i : Int) (P : Nat) (P1 : Nat) (vf : Value) (vg : Value) (A : Option Addr) (n c : Nat) (W : World) (a : Act) (Q : Exit → Act → World → Prop) (ha : TrE a d P vf P1 k vg i) (hvg : vg = .slice A n c)
    (hQ : ∀ a' : Act, TrE a' d P vf P1 k vg i → a'.tmps[57]? = some (.bool (decide (i < (n : Int)))) → Q .normal a' W) : (nth 0 (nth 0 (txE Try.f43))).wp Try.prog Q a W := by
  simp only [nth, bodyOf, Try.f43, Option.getD, inK, txD, txI, txE]
  obtain ⟨hsz, hdf, t1, t6, t7, t10, t11, t12, t13⟩ := ha
  obtain ⟨_, t12'⟩ := get_of t12
  obtain ⟨_, t13'⟩ := get_of t13
  subst hvg
  have HQ := Lib.hid hQ
  clear hQ
  go_wp2_with fail
  exact HQ.out _ ⟨by simp [hsz], by first | rfl | exact hdf, by simp [Array.getElem?_setIfInBounds, t1], by simp [Array.getElem?_setIfInBounds, t6], by simp [Array.getElem?_setIfInBounds, t7], by simp [Array.getElem?_setIfInBounds, t10], by simp [Array.getElem?_setIfInBounds, t11], by simp [Array.getElem?_setIfInBounds, t12], by simp [Array.getElem?_setIfInBounds, t13]⟩ (by simp [Array.getElem?_setIfInBounds, hsz])
theorem tr_cE (W : World) (a : Act) (Q : Exit → Act → World → Prop) (h : a.tmps[57]? = some (.bool true)) (hQ : Q .normal a W) : (nth 1 (nth 0 (txE Try.f43))).wp Try.prog Q a W := by
  simp only [nth, bodyOf, Try.f43, Option.getD, inK, txD, txI, txE]
  refine wp_cond (t := true) (by show a.tmps.getD 57 undef = _; rw [Array.getD_eq_getD_getElem?, h]; rfl) ?_
  simp only [if_true]
  go_wp2_with fail
  exact hQ
theorem tr_cEn (W : World) (a : Act) (Q : Exit → Act → World → Prop) (h : a.tmps[57]? = some (.bool false)) (hQ : Q (.exit 6) a W) : (nth 1 (nth 0 (txE Try.f43))).wp Try.prog Q a W := by
  simp only [nth, bodyOf, Try.f43, Option.getD, inK, txD, txI, txE]
  refine wp_cond_false (by show a.tmps.getD 57 undef = _; rw [Array.getD_eq_getD_getElem?, h]; rfl) ?_
  go_wp2_with fail
  exact hQ
set_option maxRecDepth 100000 in
set_option maxHeartbeats 8000000 in
theorem tr_iE (d : Int) (k : Int) (i : Int) (P : Nat) (P1 : Nat) (vf : Value) (vg : Value)  (W : World) (a : Act) (Q : Exit → Act → World → Prop) (ha : TrE a d P vf P1 k vg i) (h0 : 0 ≤ i) (h1 : i ≤ 100)
    (hQ : ∀ a' : Act, TrE a' d P vf P1 k vg (i + 1) → Q .normal a' W) : (nth 2 (txE Try.f43)).wp Try.prog Q a W := by
  simp only [nth, bodyOf, Try.f43, Option.getD, inK, txD, txI, txE]
  obtain ⟨hsz, hdf, t1, t6, t7, t10, t11, t12, t13⟩ := ha
  obtain ⟨_, t13'⟩ := get_of t13
  have HQ := Lib.hid hQ
  clear hQ
  go_wp2_with fail
  exact HQ.out _ ⟨by simp [hsz], by first | rfl | exact hdf, by simp [Array.getElem?_setIfInBounds, t1], by simp [Array.getElem?_setIfInBounds, t6], by simp [Array.getElem?_setIfInBounds, t7], by simp [Array.getElem?_setIfInBounds, t10], by simp [Array.getElem?_setIfInBounds, t11], by simp [Array.getElem?_setIfInBounds, t12], by simp [Array.getElem?_setIfInBounds, hsz]⟩
set_option maxRecDepth 100000 in
set_option maxHeartbeats 8000000 in
theorem tr_r19 (d : Int) (k : Int) (i : Int) (P : Nat) (P1 : Nat) (vf : Value) (vg : Value) (G n c q : Nat) (op : Int) (W : World) (a : Act) (Q : Exit → Act → World → Prop) (ha : TrE a d P vf P1 k vg i) (hvg : vg = .slice (some ⟨G, 0, none⟩) n c) (hq : i = (q : Nat)) (hl : q < n) (hm : n ≤ 30) (hc : W.cell? ⟨G, q * 4, none⟩ = some (.int .i64 op))
    (hQ : ∀ a' : Act, TrE a' d P vf P1 k vg i → a'.tmps[65]? = some (.bool (op == 9)) → Q .normal a' W) : (nth 0 (txJ Try.f43)).wp Try.prog Q a W := by
  simp only [nth, bodyOf, Try.f43, Option.getD, inK, txD, txI, txE, txJ]
  obtain ⟨hsz, hdf, t1, t6, t7, t10, t11, t12, t13⟩ := ha
  obtain ⟨_, t12'⟩ := get_of t12
  obtain ⟨_, t13'⟩ := get_of t13
  subst hvg
  subst hq
  have a1 : (q : Int) < (n : Int) := by omega
  have a2 : (0 : Int) ≤ (q : Int) := by omega
  have HQ := Lib.hid hQ
  clear hQ
  go_wp2_with fail
  exact HQ.out _ ⟨by simp [hsz], by first | rfl | exact hdf, by simp [Array.getElem?_setIfInBounds, t1], by simp [Array.getElem?_setIfInBounds, t6], by simp [Array.getElem?_setIfInBounds, t7], by simp [Array.getElem?_setIfInBounds, t10], by simp [Array.getElem?_setIfInBounds, t11], by simp [Array.getElem?_setIfInBounds, t12], by simp [Array.getElem?_setIfInBounds, t13]⟩ (by simp [Array.getElem?_setIfInBounds, hsz])
theorem tr_c19 (W : World) (a : Act) (Q : Exit → Act → World → Prop) (h : a.tmps[65]? = some (.bool false)) (hQ : Q .normal a W) : (nth 1 (txJ Try.f43)).wp Try.prog Q a W := by
  simp only [nth, bodyOf, Try.f43, Option.getD, inK, txD, txI, txE, txJ]
  refine wp_cond_false (by show a.tmps.getD 65 undef = _; rw [Array.getD_eq_getD_getElem?, h]; rfl) ?_
  go_wp2_with fail
  exact hQ
set_option maxRecDepth 100000 in
set_option maxHeartbeats 8000000 in
theorem tr_r20 (d : Int) (k : Int) (i : Int) (P : Nat) (P1 : Nat) (vf : Value) (vg : Value) (G n c q : Nat) (u : Value) (W : World) (a : Act) (Q : Exit → Act → World → Prop) (ha : TrE a d P vf P1 k vg i) (h : a.tmps[65]? = some (.bool true)) (hvg : vg = .slice (some ⟨G, 0, none⟩) n c) (hq : i = (q : Nat)) (hl : q < n) (hm : n ≤ 30) (hc : W.cell? ⟨G, q * 4 + 2, none⟩ = some u) (hz : W.frozen? ⟨G, q * 4 + 2, none⟩ = false) (h0 : 0 ≤ k) (h1 : k ≤ 100)
    (hQ : ∀ a' : Act, TrE a' d P vf P1 k vg i → Q .normal a' (W.setCell ⟨G, q * 4 + 2, none⟩ (.int .i64 (k + 1)))) : (nth 1 (txJ Try.f43)).wp Try.prog Q a W := by
  simp only [nth, bodyOf, Try.f43, Option.getD, inK, txD, txI, txE, txJ]
  obtain ⟨hsz, hdf, t1, t6, t7, t10, t11, t12, t13⟩ := ha
  obtain ⟨_, t12'⟩ := get_of t12
  obtain ⟨_, t13'⟩ := get_of t13
  obtain ⟨_, t11'⟩ := get_of t11
  subst hvg
  subst hq
  have a1 : (q : Int) < (n : Int) := by omega
  have a2 : (0 : Int) ≤ (q : Int) := by omega
  have lG := lt_of_cell hc
  simp only at lG
  have HQ := Lib.hid hQ
  clear hQ
  refine wp_cond (t := true) (by show a.tmps.getD 65 undef = _; rw [Array.getD_eq_getD_getElem?, h]; rfl) ?_
  simp only [if_true]
  go_wp2_with fail
  exact HQ.out _ ⟨by simp [hsz], by first | rfl | exact hdf, by simp [Array.getElem?_setIfInBounds, t1], by simp [Array.getElem?_setIfInBounds, t6], by simp [Array.getElem?_setIfInBounds, t7], by simp [Array.getElem?_setIfInBounds, t10], by simp [Array.getElem?_setIfInBounds, t11], by simp [Array.getElem?_setIfInBounds, t12], by simp [Array.getElem?_setIfInBounds, t13]⟩
set_option maxRecDepth 100000 in
set_option maxHeartbeats 8000000 in
theorem tr_r21 (d : Int) (k : Int) (P : Nat) (P1 : Nat) (vf : Value) (vg : Value)  (W : World) (a : Act) (Q : Exit → Act → World → Prop) (ha : TrD a d P vf P1 k vg) 
    (hQ : ∀ a' : Act, TrD a' d P vf P1 k vg → a'.tmps[74]? = some (.bool (k == d)) → Q .normal a' W) : (nth 0 (nth 2 (txI Try.f43))).wp Try.prog Q a W := by
  simp only [nth, bodyOf, Try.f43, Option.getD, inK, txD, txI]
  obtain ⟨hsz, hdf, t1, t6, t7, t10, t11, t12⟩ := ha
  obtain ⟨_, t1'⟩ := get_of t1
  obtain ⟨_, t11'⟩ := get_of t11
  have HQ := Lib.hid hQ
  clear hQ
  go_wp2_with fail
  exact HQ.out _ ⟨by simp [hsz], by first | rfl | exact hdf, by simp [Array.getElem?_setIfInBounds, t1], by simp [Array.getElem?_setIfInBounds, t6], by simp [Array.getElem?_setIfInBounds, t7], by simp [Array.getElem?_setIfInBounds, t10], by simp [Array.getElem?_setIfInBounds, t11], by simp [Array.getElem?_setIfInBounds, t12]⟩ (by simp [Array.getElem?_setIfInBounds, hsz])
theorem tr_c21 (W : World) (a : Act) (Q : Exit → Act → World → Prop) (h : a.tmps[74]? = some (.bool false)) (hQ : Q .normal a W) : (nth 1 (nth 2 (txI Try.f43))).wp Try.prog Q a W := by
  simp only [nth, bodyOf, Try.f43, Option.getD, inK, txD, txI]
  refine wp_cond_false (by show a.tmps.getD 74 undef = _; rw [Array.getD_eq_getD_getElem?, h]; rfl) ?_
  go_wp2_with fail
  exact hQ
set_option maxRecDepth 100000 in
set_option maxHeartbeats 8000000 in
theorem tr_r22 (d : Int) (k : Int) (P : Nat) (P1 : Nat) (vf : Value) (vg : Value)  (W : World) (a : Act) (Q : Exit → Act → World → Prop) (ha : TrD a d P vf P1 k vg) (h : a.tmps[74]? = some (.bool true))
    (hQ : ∀ a' : Act, TrD a' d P vf P1 k (.slice (some ⟨W.heap.size, 0, none⟩) 1 1) → Q .normal a' (W.alloc (.cells #[.int .i64 15, .int .i64 0, .int .i64 0, .int .i64 0] 48))) : (nth 1 (nth 2 (txI Try.f43))).wp Try.prog Q a W := by
  simp only [nth, bodyOf, Try.f43, Option.getD, inK, txD, txI]
  obtain ⟨hsz, hdf, t1, t6, t7, t10, t11, t12⟩ := ha
  have HQ := Lib.hid hQ
  clear hQ
  refine wp_cond (t := true) (by show a.tmps.getD 74 undef = _; rw [Array.getD_eq_getD_getElem?, h]; rfl) ?_
  simp only [if_true]
  go_wp2_with fail
  exact HQ.out _ ⟨by simp [hsz], by first | rfl | exact hdf, by simp [Array.getElem?_setIfInBounds, t1], by simp [Array.getElem?_setIfInBounds, t6], by simp [Array.getElem?_setIfInBounds, t7], by simp [Array.getElem?_setIfInBounds, t10], by simp [Array.getElem?_setIfInBounds, t11], by simp [Array.getElem?_setIfInBounds, hsz]⟩
set_option maxRecDepth 100000 in
set_option maxHeartbeats 8000000 in
theorem tr_r23 (d : Int) (k : Int) (P : Nat) (P1 : Nat) (vf : Value) (vg : Value) (w0 : World) (n : Nat) (vF : Value) (vals : List Value) (A : Option Addr) (n2 c2 : Nat) (W : World) (a : Act) (Q : Exit → Act → World → Prop) (ha : TrD a d P vf P1 k vg) (hvg : vg = .slice A n2 c2) (hr : W.rowIs P1 52 4 (four vF (.int .i64 0) (.int .i64 d) (.int .i64 100))) (ho : W.ownsRow w0.heap.size 49 1 vF n vals) (hm : n ≤ 30) (hb : w0.heap.size ≤ W.heap.size)
    (hQ : ∀ (a' : Act) (w' : World) (v' : Value), TrC a' d P vf P1 k → w'.ownsRow w0.heap.size 49 1 v' (n + 1) (vals ++ [vg]) → (W.alloc (.cells #[vg] 49)).grownBy w' vF.ownBlock → Q .normal a' (w'.setCell ⟨P1, 0, none⟩ v')) : (nth 3 (txI Try.f43)).wp Try.prog Q a W := by
  simp only [nth, bodyOf, Try.f43, Option.getD, inK, txD, txI]
  obtain ⟨hsz, hdf, t1, t6, t7, t10, t11, t12⟩ := ha
  obtain ⟨_, t10'⟩ := get_of t10
  obtain ⟨_, t12'⟩ := get_of t12
  obtain ⟨i0, hi, he⟩ := Option.map_eq_some_iff.1 info49
  obtain ⟨hz0, hz1, hz2⟩ : i0.zero = some (.slice none 0 0) ∧ i0.size = 1 ∧ i0.bytes = 24 := by
    injection he with e1 e2
    injection e2 with e2 e3
    exact ⟨e1, e2, e3⟩
  subst hvg
  have HO := Lib.hid ho
  have HR := Lib.hid hr
  have HQ := Lib.hid hQ
  have hne : ∀ k, vF.ownBlock = some k → k ≠ P1 := fun k hk => by
    obtain ⟨cur, hcur⟩ := Prg.own_type ho hk
    exact ty_ne hr hcur (by decide)
  obtain ⟨⟨x0, x1, x2, x3⟩, _⟩ := row4_cells hr
  have lP := hr.lt
  clear ho hr hQ he
  go_wp2_with (first | (at_builtin; refine wpList_append_own _ rfl _ _ 50 rfl w0.heap.size 49 i0 _ 1 24 Try.underlying50 hi hz0 hz1 hz2 rfl (by decide) vF n vals (by simp [Act.eval, hsz]) (own_bl HO.out (Bl.alloc (Bl.refl _) _)) ⟨W.heap.size, 0, none⟩ 1 1 [.slice A n2 c2] (by simp [Act.eval, hsz]) rfl ?c1 ?c2 ?c3 ?c4 ?c5 ?_))
  case c1 => exact World.news_of_block (cs := #[.slice A n2 c2]) (t := 49) (fr := (0, 0)) (heap_alloc_new W _)
  case c2 =>
    intro u hu
    simp at hu
    subst hu
    rfl
  case c3 => unfold maxLen; omega
  case c4 => omega
  case c5 => simp; omega
  intro v' w9 hown9 hgr _
  obtain ⟨A9, m9, c9, rfl⟩ := own_slice hown9
  have hr9 := (Prg.Ch.of_grown hgr).row (World.rowIs.alloc HR.out _) (fun e => hne P1 e rfl)
  obtain ⟨⟨y0, y1, y2, y3⟩, ⟨z0, z1, z2, z3⟩⟩ := row4_cells hr9
  have lP9 := hr9.lt
  have HO9 := Lib.hid hown9
  have HG9 := Lib.hid hgr
  clear hown9 hgr hr9 x0 x1 x2 x3
  go_wp2_with fail
  exact HQ.out _ _ _ ⟨by simp [hsz], by first | rfl | exact hdf, by simp [Array.getElem?_setIfInBounds, t1], by simp [Array.getElem?_setIfInBounds, t6], by simp [Array.getElem?_setIfInBounds, t7], by simp [Array.getElem?_setIfInBounds, t10], by simp [Array.getElem?_setIfInBounds, t11]⟩ HO9.out HG9.out
set_option maxRecDepth 100000 in
set_option maxHeartbeats 8000000 in
theorem tr_r24 (d : Int) (P : Nat) (P1 : Nat) (vf : Value) (A : Option Addr) (n c : Nat) (W : World) (a : Act) (Q : Exit → Act → World → Prop) (ha : TrB a d P vf P1) (hr : W.rowIs P1 52 4 (four (.slice A n c) (.int .i64 0) (.int .i64 d) (.int .i64 100))) (hp : W.rowIs P 52 4 (four (.slice none 0 0) (.int .i64 0) (.int .i64 0) (.int .i64 0)))
    (hQ : ∀ (a' : Act) (w' : World), a'.tmps.size = 84 → a'.defers = [] → a'.tmps[6]? = some (.pointer (some ⟨P, 0, none⟩)) → w'.rowIs P 52 4 (four (.slice A n c) (.int .i64 0) (.int .i64 d) (.int .i64 100)) → Ch (· = P) W w' → Q .normal a' w') : (nth 7 (bodyOf Try.f43)).wp Try.prog Q a W := by
  simp only [nth, bodyOf, Try.f43, Option.getD, inK]
  obtain ⟨hsz, hdf, t1, t6, t7, t10⟩ := ha
  obtain ⟨_, t6'⟩ := get_of t6
  obtain ⟨_, t10'⟩ := get_of t10
  have HP := Lib.hid hp
  have HQ := Lib.hid hQ
  clear hQ
  obtain ⟨⟨x0, x1, x2, x3⟩, _⟩ := row4_cells hr
  obtain ⟨⟨y0, y1, y2, y3⟩, z0, z1, z2, z3⟩ := row4_cells hp
  have lP := hr.lt
  have lQ := hp.lt
  clear hr hp
  go_wp2_with fail
  refine HQ.out _ _ (by simp [hsz]) (by first | rfl | exact hdf) (by simp [Array.getElem?_setIfInBounds, t6]) ?_ ?_
  · refine World.rowIs.congr ((((HP.out.set 0 _).set 1 _).set 2 _).set 3 _) ?_
    repeat refine all_lt ?_ rfl
    exact all_none
  · exact ((((Ch.refl _ W).setB _).setB _).setB _).setB _
end Go.Proofs.Ytonndofbnhnkpaa.Evl
set_option linter.unusedVariables false
set_option linter.unusedSimpArgs false
set_option linter.unusedSectionVars false
namespace Go.Proofs.Ytonndofbnhnkpaa.Evl
open Go.RowKit Num KeyM KeyW StatW Blk VmA VmG Prg EvM Rf PutA CodA
variable {a : Act} {w d m k i : Int} {P P1 : Nat} {vf vg : Value}
theorem TrE.toD (h : TrE a d P vf P1 k vg i) : TrD a d P vf P1 k vg := ⟨h.sz, h.dfs, h.t1, h.t6, h.t7, h.t10, h.t11, h.t12⟩
theorem TrD.toC (h : TrD a d P vf P1 k vg) : TrC a d P vf P1 k := ⟨h.sz, h.dfs, h.t1, h.t6, h.t7, h.t10, h.t11⟩
theorem TrC.toB (h : TrC a d P vf P1 k) : TrB a d P vf P1 := ⟨h.sz, h.dfs, h.t1, h.t6, h.t7, h.t10⟩
/-- A function whose forks go elsewhere. -/
def pch (b : Int) (f : List Ins) : List Ins := f.map fun x => if x.op = 9 then { x with b := b } else x
def ptc (b : Int) (q : Nat) (f : List Ins) : List Ins := pch b (f.take q) ++ f.drop q
theorem ptc_cut {b : Int} {q : Nat} {f : List Ins} {x : Ins} (h : f[q]? = some x) : ptc b q f = pch b (f.take q) ++ x :: f.drop (q + 1) ∧ ptc b (q + 1) f = pch b (f.take q) ++ (if x.op = 9 then { x with b := b } else x) :: f.drop (q + 1) := by
  obtain ⟨h1, h2⟩ := List.getElem?_eq_some_iff.1 h
  unfold ptc
  refine ⟨by rw [List.drop_eq_getElem_cons h1, h2], ?_⟩
  rw [List.take_add_one, h]
  unfold pch
  simp
theorem pch_len {b : Int} {q : Nat} {f : List Ins} (h : q ≤ f.length) : (pch b (f.take q)).length = q := by unfold pch; simp; omega
theorem ptc_len {b : Int} {q : Nat} {f : List Ins} (h : q ≤ f.length) : (ptc b q f).length = f.length := by unfold ptc; rw [List.length_append, pch_len h, List.length_drop]; omega
theorem ptc_at {b : Int} {q : Nat} {f : List Ins} {x : Ins} (h : f[q]? = some x) : (ptc b q f)[q]? = some x := by
  have h1 := (List.getElem?_eq_some_iff.1 h).1
  rw [(ptc_cut h).1, List.getElem?_append_right (by rw [pch_len (by omega)]; exact Nat.le_refl _), pch_len (by omega), Nat.sub_self]
  rfl
theorem ptc_no {b : Int} {q : Nat} {f : List Ins} {x : Ins} (h : f[q]? = some x) (ho : x.op ≠ 9) : ptc b q f = ptc b (q + 1) f := by
  rw [(ptc_cut h).1, (ptc_cut h).2, if_neg ho]
theorem ptc_yes {b : Int} {q : Nat} {f : List Ins} {x : Ins} (h : f[q]? = some x) (ho : x.op = 9) : (icells (ptc b q f)).set (q * 4 + 2) (.int .i64 b) = icells (ptc b (q + 1) f) := by
  have h1 := (List.getElem?_eq_some_iff.1 h).1
  have hl := pch_len (b := b) (q := q) (f := f) (by omega)
  rw [(ptc_cut h).1, (ptc_cut h).2, if_pos ho]
  unfold icells
  rw [List.flatMap_append, List.flatMap_append, List.set_append_right _ _ (by
    have := icells_len (pch b (f.take q)); unfold icells at this; rw [this, hl]; omega)]
  have := icells_len (pch b (f.take q))
  unfold icells at this
  rw [this, hl]
  have e : q * 4 + 2 - q * 4 = 2 := by omega
  rw [e]
  simp [icell]
theorem ptc_end {b : Int} {f : List Ins} : ptc b f.length f = pch b f := by unfold ptc; simp
theorem pch_trF {n : Nat} (h1 : 1 ≤ n) (h3 : n ≤ 3) (b b' m : Int) : pch b (trF n b' m) = trF n b m := by
  obtain rfl | rfl | rfl : n = 1 ∨ n = 2 ∨ n = 3 := by omega
  all_goals rfl
def tAl (m : Int) (i : Nat) : List Ins := [⟨1, 1, m, 0⟩, ⟨4, 2, 0, 1⟩] ++ ((List.range i).map fun i : Nat => (⟨9, (i : Int), 1, 2⟩ : Ins))
def tBl (i : Nat) : List Ins := (List.range i).flatMap fun i : Nat => [(⟨10, 3, (i : Int), 0⟩ : Ins), ⟨2, 0, 0, 3⟩]
theorem tAl_succ (m : Int) (i : Nat) : tAl m (i + 1) = tAl m i ++ [⟨9, (i : Int), 1, 2⟩] := by unfold tAl; rw [List.range_succ, List.map_append, List.append_assoc]; rfl
theorem tBl_succ (i : Nat) : tBl (i + 1) = tBl i ++ [⟨10, 3, (i : Int), 0⟩, ⟨2, 0, 0, 3⟩] := by unfold tBl; rw [List.range_succ, List.flatMap_append]; rfl
def lpTA (f : Func) : Code := .seq (.seq (nth 0 (nth 0 (txA f))) (nth 1 (nth 0 (txA f)))) (.seq (.block 1 (inK (nth 1 (txA f)))) (nth 2 (txA f)))
def lpTB (f : Func) : Code := .seq (.seq (nth 0 (nth 0 (txB f))) (nth 1 (nth 0 (txB f)))) (.seq (.block 3 (inK (nth 1 (txB f)))) (nth 2 (txB f)))
def lpTE (f : Func) : Code := .seq (.seq (nth 0 (nth 0 (txE f))) (nth 1 (nth 0 (txE f)))) (.seq (.block 7 (.seq (nth 0 (txJ f)) (nth 1 (txJ f)))) (nth 2 (txE f)))
def lpTD (f : Func) : Code := .seq (.seq (nth 0 (nth 0 (txD f))) (nth 1 (nth 0 (txD f)))) (.seq (.block 5 (.seq (nth 0 (txI f)) (.seq (.seq (nth 0 (nth 1 (txI f))) (.block 6 (.loop (lpTE f)))) (.seq (.seq (nth 0 (nth 2 (txI f))) (nth 1 (nth 2 (txI f)))) (nth 3 (txI f)))))) (nth 2 (txD f)))
theorem body43 : bodyOf Try.f43 = .seq (nth 0 (bodyOf Try.f43)) (.seq (nth 1 (bodyOf Try.f43)) (.seq (.seq (nth 0 (nth 2 (bodyOf Try.f43))) (.block 0 (.loop (lpTA Try.f43)))) (.seq (.seq (nth 0 (nth 3 (bodyOf Try.f43))) (.block 2 (.loop (lpTB Try.f43)))) (.seq (nth 4 (bodyOf Try.f43)) (.seq (nth 5 (bodyOf Try.f43)) (.seq (.seq (nth 0 (nth 6 (bodyOf Try.f43))) (.block 4 (.loop (lpTD Try.f43)))) (.seq (nth 7 (bodyOf Try.f43)) .ret))))))) := by kernel_rfl
theorem tr_loopA (w0 : World) (n : Nat) (d m : Int) (P : Nat) (Q : Exit → Act → World → Prop) (hn : n ≤ 3)
    (hQ : ∀ (a' : Act) (w' : World) (v' : Value), TrA a' n d m P v' → Bl w0 w' → w'.ownsRow w0.heap.size 48 4 v' (2 + n) (icells (tAl m n)) → Q (.exit 0) a' w') :
    ∀ (r i : Nat) (a : Act) (W : World) (vf : Value), i + r = n → TrA a n d m P vf → a.tmps[8]? = some (.int .i64 (i : Int)) → Bl w0 W → W.ownsRow w0.heap.size 48 4 vf (2 + i) (icells (tAl m i)) → Code.rounds Try.prog (lpTA Try.f43) Q (r + 1) a W := by
  intro r
  induction r with
  | zero =>
    intro i a W vf hi ha hti hb ho
    rw [rounds_succ]
    unfold lpTA
    refine seq_then fun K1 g1 => ?_
    refine seq_then fun K2 g2 => ?_
    refine tr_tA n d m i P vf W a _ ha hti fun a1 ha1 hti1 h20 => g2 _ _ ?_
    obtain rfl : i = n := by omega
    refine tr_cAn W a1 _ (by rw [h20]; simp) ?_
    exact hQ a1 W vf ha1 hb ho
  | succ r ih =>
    intro i a W vf hi ha hti hb ho
    rw [rounds_succ]
    unfold lpTA
    refine seq_then fun K1 g1 => ?_
    refine seq_then fun K2 g2 => ?_
    refine tr_tA n d m i P vf W a _ ha hti fun a1 ha1 hti1 h20 => g2 _ _ ?_
    refine tr_cA W a1 _ (by rw [h20]; simp; omega) (g1 _ _ ?_)
    refine seq_then fun K3 g3 => ?_
    refine wp_block ?_
    refine tr_r5 n d m i P vf w0 (2 + i) (tAl m i) W a1 _ ha1 hti1 hb ho (by omega) fun a2 w2 v2 ha2 hti2 hb2 ho2 => g3 _ _ ?_
    refine tr_iA n d m i P v2 w2 a2 _ ha2 hti2 (by omega) (by omega) fun a3 ha3 hti3 => ?_
    rw [← tAl_succ] at ho2
    exact ih (i + 1) a3 w2 v2 (by omega) ha3 (by simpa using hti3) hb2 ho2
theorem tr_loopB (w0 : World) (n : Nat) (d m : Int) (P : Nat) (Q : Exit → Act → World → Prop) (hn : n ≤ 3)
    (hQ : ∀ (a' : Act) (w' : World) (v' : Value), TrA a' n d m P v' → Bl w0 w' → w'.ownsRow w0.heap.size 48 4 v' (2 + n + 2 * n) (icells (tAl m n ++ tBl n)) → Q (.exit 2) a' w') :
    ∀ (r i : Nat) (a : Act) (W : World) (vf : Value), i + r = n → TrA a n d m P vf → a.tmps[9]? = some (.int .i64 (i : Int)) → Bl w0 W → W.ownsRow w0.heap.size 48 4 vf (2 + n + 2 * i) (icells (tAl m n ++ tBl i)) → Code.rounds Try.prog (lpTB Try.f43) Q (r + 1) a W := by
  intro r
  induction r with
  | zero =>
    intro i a W vf hi ha hti hb ho
    rw [rounds_succ]
    unfold lpTB
    refine seq_then fun K1 g1 => ?_
    refine seq_then fun K2 g2 => ?_
    refine tr_tB n d m i P vf W a _ ha hti fun a1 ha1 hti1 h20 => g2 _ _ ?_
    obtain rfl : i = n := by omega
    refine tr_cBn W a1 _ (by rw [h20]; simp) ?_
    exact hQ a1 W vf ha1 hb ho
  | succ r ih =>
    intro i a W vf hi ha hti hb ho
    rw [rounds_succ]
    unfold lpTB
    refine seq_then fun K1 g1 => ?_
    refine seq_then fun K2 g2 => ?_
    refine tr_tB n d m i P vf W a _ ha hti fun a1 ha1 hti1 h20 => g2 _ _ ?_
    refine tr_cB W a1 _ (by rw [h20]; simp; omega) (g1 _ _ ?_)
    refine seq_then fun K3 g3 => ?_
    refine wp_block ?_
    refine tr_r9 n d m i P vf w0 (2 + n + 2 * i) (tAl m n ++ tBl i) W a1 _ ha1 hti1 hb ho (by omega) fun a2 w2 v2 ha2 hti2 hb2 ho2 => g3 _ _ ?_
    refine tr_iB n d m i P v2 w2 a2 _ ha2 hti2 (by omega) (by omega) fun a3 ha3 hti3 => ?_
    rw [List.append_assoc, ← tBl_succ] at ho2
    exact ih (i + 1) a3 w2 v2 (by omega) ha3 (by simpa using hti3) hb2 (by rw [show 2 + n + 2 * (i + 1) = 2 + n + 2 * i + 2 by omega]; exact ho2)
theorem tr_loopE (wr : World) (d : Int) (P P1 : Nat) (vf : Value) (k : Int) (G n c : Nat) (f : List Ins) (Q : Exit → Act → World → Prop) (hn : n = f.length) (hm : n ≤ 30) (hk0 : 0 ≤ k) (hk1 : k ≤ 100)
    (hQ : ∀ (a' : Act) (w' : World), TrD a' d P vf P1 k (.slice (some ⟨G, 0, none⟩) n c) → Bl wr w' → w'.ownsRow wr.heap.size 48 4 (.slice (some ⟨G, 0, none⟩) n c) n (icells (pch (k + 1) f)) → Q (.exit 6) a' w') :
    ∀ (r q : Nat) (a : Act) (W : World), q + r = n → TrE a d P vf P1 k (.slice (some ⟨G, 0, none⟩) n c) q → Bl wr W → W.ownsRow wr.heap.size 48 4 (.slice (some ⟨G, 0, none⟩) n c) n (icells (ptc (k + 1) q f)) → Code.rounds Try.prog (lpTE Try.f43) Q (r + 1) a W := by
  intro r
  induction r with
  | zero =>
    intro q a W hi ha hb ho
    rw [rounds_succ]
    unfold lpTE
    refine seq_then fun K1 g1 => ?_
    refine seq_then fun K2 g2 => ?_
    refine tr_tE d k q P P1 vf _ _ n c W a _ ha rfl fun a1 ha1 h57 => g2 _ _ ?_
    obtain rfl : q = n := by omega
    refine tr_cEn W a1 _ (by rw [h57]; simp) ?_
    refine hQ a1 W ha1.toD hb ?_
    rw [← ptc_end, ← hn]; exact ho
  | succ r ih =>
    intro q a W hi ha hb ho
    rw [rounds_succ]
    unfold lpTE
    refine seq_then fun K1 g1 => ?_
    refine seq_then fun K2 g2 => ?_
    refine tr_tE d k q P P1 vf _ _ n c W a _ ha rfl fun a1 ha1 h57 => g2 _ _ ?_
    refine tr_cE W a1 _ (by rw [h57]; simp; omega) (g1 _ _ ?_)
    refine seq_then fun K3 g3 => ?_
    refine wp_block ?_
    refine seq_then fun K4 g4 => ?_
    obtain ⟨x, hx⟩ : ∃ x, f[q]? = some x := ⟨_, List.getElem?_eq_getElem (by omega)⟩
    have hpl := ptc_len (b := k + 1) (q := q) (f := f) (by omega)
    have hcell : ∀ j, j < 4 → W.cell? ⟨G, q * 4 + j, none⟩ = (icell x)[j]? := fun j hj => (ho.cellAt (q * 4 + j) (by omega)).trans (icells_get _ q j x (ptc_at hx) hj)
    refine tr_r19 d k q P P1 vf _ G n c q x.op W a1 _ ha1 rfl rfl (by omega) hm (hcell 0 (by decide)) fun a2 ha2 h65 => g4 _ _ ?_
    have hend : ∀ (a3 : Act) (w3 : World), TrE a3 d P vf P1 k (.slice (some ⟨G, 0, none⟩) n c) q → Bl wr w3 → w3.ownsRow wr.heap.size 48 4 (.slice (some ⟨G, 0, none⟩) n c) n (icells (ptc (k + 1) (q + 1) f)) → K3 a3 w3 := by
      intro a3 w3 ha3 hb3 ho3
      refine g3 _ _ ?_
      refine tr_iE d k q P P1 vf _ w3 a3 _ ha3 (by omega) (by omega) fun a4 ha4 => ?_
      exact ih (q + 1) a4 w3 (by omega) (by simpa using ha4) hb3 ho3
    by_cases h9 : x.op = 9
    · refine tr_r20 d k q P P1 vf _ G n c q (.int .i64 x.b) W a2 _ ha2 (by rw [h65, h9]; rfl) rfl rfl (by omega) hm (hcell 2 (by decide)) (ho.frozenAt _) hk0 hk1 fun a3 ha3 => ?_
      have hs := (ho.stored (q * 4 + 2) (.int .i64 (k + 1))).1
      rw [ptc_yes hx h9] at hs
      refine hend a3 _ ha3 ?_ hs
      have hG := (World.ownsRow.lt ho G rfl).1
      exact (Ch.setN (Ch.of_bl (S := fun _ => False) hb) hG _).bl (fun _ _ h => h)
    · refine tr_c19 W a2 _ (by rw [h65]; simp; exact h9) ?_
      refine hend a2 W ha2 hb ?_
      rw [← ptc_no hx h9]; exact ho
end Go.Proofs.Ytonndofbnhnkpaa.Evl
set_option linter.unusedVariables false
set_option linter.unusedSimpArgs false
set_option linter.unusedSectionVars false
namespace Go.Proofs.Ytonndofbnhnkpaa.Evl
open Go.RowKit Num KeyM KeyW StatW Blk VmA VmG Prg EvM Rf PutA CodA
theorem fnat_bl2 {base : Nat} {w w' : World} {x : Value} {f : List Ins} (h : Prg.FnAt base w x f) (hb : Bl w w') : Prg.FnAt base w' x f := by
  obtain ⟨g, c, rfl, h1⟩ := h
  exact ⟨g, c, rfl, own_bl h1 hb⟩
/-- The program under way. -/
structure TrW (w0 : World) (P1 : Nat) (d : Int) (fs : List (List Ins)) (vf vF : Value) (f : List Ins) (wr : World) : Prop where
  bl : Bl w0 wr
  row : wr.rowIs P1 52 4 (four vF (.int .i64 0) (.int .i64 d) (.int .i64 100))
  fsr : FsRow w0.heap.size wr vF fs
  fn : Prg.FnAt w0.heap.size wr vf f
  p : w0.heap.size ≤ P1
theorem TrW.up {w0 wr w' : World} {P1 : Nat} {d : Int} {fs : List (List Ins)} {vf vF : Value} {f : List Ins} (h : TrW w0 P1 d fs vf vF f wr) (hb : Bl wr w') : TrW w0 P1 d fs vf vF f w' :=
  ⟨Bl.trans h.bl hb, row_bl h.row hb, FsRow.later (S := fun _ => False) h.fsr (Ch.of_bl hb) (fun _ _ _ _ _ h => h), fnat_bl2 h.fn hb, h.p⟩
theorem tr_next {w0 w9 w10 : World} {P1 : Nat} {d : Int} {fs : List (List Ins)} {vf vF v10 x9 : Value} {f g : List Ins} {vals : List Value} {o : Obj} (h : TrW w0 P1 d fs vf vF f w9) (hv1 : w9.ownsRow w0.heap.size 49 1 vF fs.length vals)
    (hv2 : ∀ (j : Nat) f, fs[j]? = some f → ∃ x, vals[j]? = some x ∧ Prg.FnAt w0.heap.size w9 x f) (hx : Prg.FnAt w0.heap.size w9 x9 g)
    (hown10 : w10.ownsRow w0.heap.size 49 1 v10 (fs.length + 1) (vals ++ [x9])) (hgr10 : (w9.alloc o).grownBy w10 vF.ownBlock) : TrW w0 P1 d (fs ++ [g]) vf v10 f (w10.setCell ⟨P1, 0, none⟩ v10) := by
  have hg : Ch (fun k => vF.ownBlock = some k) w9 w10 := Ch.trans ((Ch.refl _ _).alloc o) ((Prg.Ch.of_grown hgr10).mono (fun i _ h => h))
  have hlt := World.ownsRow.lt hv1
  have hne : ∀ {b n : Nat} {t : TypeId} {f : Nat → Value}, w9.rowIs b t n f → (49 : Nat) ≠ t → ¬ vF.ownBlock = some b := fun h ht e => by
    obtain ⟨cur, hcur⟩ := Prg.own_type hv1 e
    exact ty_ne h hcur ht rfl
  have hP10 := hg.row h.row (hne h.row (by decide))
  have hlen : (fs ++ [g]).length = fs.length + 1 := by simp
  have hFn : ∀ {x : Value} {f : List Ins}, Prg.FnAt w0.heap.size w9 x f → Prg.FnAt w0.heap.size (w10.setCell ⟨P1, 0, none⟩ v10) x f := by
    rintro x f ⟨gb, fc, rfl, h⟩
    have h10 := own_ch h hg (fun k hk e => by
      obtain ⟨c1, hc1⟩ := Prg.own_type h hk
      obtain ⟨c2, hc2⟩ := Prg.own_type hv1 e
      rw [hc1] at hc2
      injection hc2 with hc2
      injection hc2 with _ h2 _
      exact absurd h2 (by decide))
    refine ⟨gb, fc, rfl, own_setO h10 (fun k hk e => ?_) _⟩
    obtain ⟨c1, hc1⟩ := Prg.own_type h10 hk
    exact ty_ne hP10 hc1 (by decide) e
  refine ⟨?_, ?_, ⟨vals ++ [x9], ?_, fun j f hf => ?_⟩, hFn h.fn, h.p⟩
  · exact (Ch.setN (Ch.then (Ch.of_bl (S := fun _ => False) h.bl) hg (fun i hi e => by have := hlt i e; omega)) h.p _).bl (fun _ _ h => h)
  · refine World.rowIs.congr (hP10.set 0 v10) ?_
    repeat refine all_lt ?_ rfl
    exact all_none
  · rw [hlen]
    refine own_setO hown10 (fun k hk e => ?_) _
    obtain ⟨c1, hc1⟩ := Prg.own_type hown10 hk
    exact ty_ne hP10 hc1 (by decide) e
  · have hvl : vals.length = fs.length := by have := hv1.1; omega
    rcases Nat.lt_or_ge j fs.length with hj | hj
    · rw [List.getElem?_append_left hj] at hf
      obtain ⟨x, h2, h3⟩ := hv2 j f hf
      exact ⟨x, by rw [List.getElem?_append_left (by omega)]; exact h2, hFn h3⟩
    · have hj2 := (List.getElem?_eq_some_iff.1 hf).1
      obtain rfl : j = fs.length := by omega
      rw [List.getElem?_append_right (Nat.le_refl _), Nat.sub_self] at hf
      simp at hf
      subst hf
      exact ⟨x9, by rw [List.getElem?_append_right (by omega), hvl, Nat.sub_self]; rfl, hFn hx⟩
theorem trees_len (n d : Nat) (m : Int) : (trees n d m).length = d + 1 := by unfold trees; simp
theorem trees_succ {n d k : Nat} (m : Int) (h1 : 1 ≤ k) (h2 : k ≤ d) : (trees n d m).take (k + 1) = (trees n d m).take k ++ [if k = d then [⟨15, 0, 0, 0⟩] else trF n ((k : Int) + 1) m] := by
  rw [List.take_add_one]
  congr 1
  obtain ⟨q, rfl⟩ : ∃ q, k = q + 1 := ⟨k - 1, by omega⟩
  unfold trees
  rw [List.getElem?_cons_succ, List.getElem?_map, List.getElem?_range (by omega)]
  have e : ((q : Int) + 2) = ((q + 1 : Nat) : Int) + 1 := by omega
  simp only [Option.map_some, Option.toList_some, e]
theorem tr_loopD (w0 : World) (n dd : Nat) (m : Int) (P P1 : Nat) (vf : Value) (Q : Exit → Act → World → Prop) (hn1 : 1 ≤ n) (hn : n ≤ 3) (hd : dd ≤ 3)
    (hQ : ∀ (a' : Act) (w' : World) (vF : Value), TrB a' dd P vf P1 → TrW w0 P1 dd (trees n dd m) vf vF (trF n 1 m) w' → Q (.exit 4) a' w') :
    ∀ (r k : Nat) (a : Act) (W : World) (vF : Value), k + r = dd + 1 → 1 ≤ k → TrC a dd P vf P1 k → TrW w0 P1 dd ((trees n dd m).take k) vf vF (trF n 1 m) W → Code.rounds Try.prog (lpTD Try.f43) Q (r + 1) a W := by
  intro r
  induction r with
  | zero =>
    intro k a W vF hi hk ha hW
    rw [rounds_succ]
    unfold lpTD
    refine seq_then fun K1 g1 => ?_
    refine seq_then fun K2 g2 => ?_
    refine tr_tD dd k P P1 vf W a _ ha fun a1 ha1 h49 => g2 _ _ ?_
    obtain rfl : k = dd + 1 := by omega
    refine tr_cDn W a1 _ (by rw [h49]; simp; omega) ?_
    rw [List.take_of_length_le (by rw [trees_len]; exact Nat.le_refl _)] at hW
    exact hQ a1 W vF ha1.toB hW
  | succ r ih =>
    intro k a W vF hi hk ha hW
    rw [rounds_succ]
    unfold lpTD
    refine seq_then fun K1 g1 => ?_
    refine seq_then fun K2 g2 => ?_
    refine tr_tD dd k P P1 vf W a _ ha fun a1 ha1 h49 => g2 _ _ ?_
    refine tr_cD W a1 _ (by rw [h49]; simp; omega) (g1 _ _ ?_)
    refine seq_then fun K3 g3 => ?_
    refine wp_block ?_
    refine seq_then fun K4 g4 => ?_
    obtain ⟨G, c, hvf, hof⟩ := hW.fn
    have hfl : (trF n 1 m).length = 3 + 3 * n := by
      obtain rfl | rfl | rfl : n = 1 ∨ n = 2 ∨ n = 3 := by omega
      all_goals rfl
    refine tr_r15 dd k P P1 vf G (trF n 1 m).length c (trF n 1 m) W a1 _ ha1 hvf rfl (fun j u hu => by rw [hvf] at hof; exact own_cells hof hu) (by omega) (by omega) fun a2 w2 vg ha2 hb2 ho2 => g4 _ _ ?_
    obtain ⟨A, n', c', hv⟩ := own_slice ho2
    rw [hv] at ho2 ha2
    obtain ⟨G2, rfl, rfl⟩ := own_one ho2 (by omega)
    refine seq_then fun K5 g5 => ?_
    refine seq_then fun K6 g6 => ?_
    refine tr_r16 dd k P P1 vf _ w2 a2 _ ha2 fun a3 ha3 => g6 _ _ ?_
    refine wp_block ?_
    refine wp_loop_rounds ((trF n 1 m).length + 1) ?_
    refine tr_loopE W dd P P1 vf k G2 (trF n 1 m).length c' (trF n 1 m) _ rfl (by omega) (by omega) (by omega) (fun a4 w4 ha4 hb4 ho4 => ?_) (trF n 1 m).length 0 a3 w2 (by omega) ha3 hb2 (by unfold ptc pch; simpa using ho2)
    show K5 a4 w4
    refine g5 _ _ ?_
    rw [pch_trF hn1 hn] at ho4
    refine seq_then fun K7 g7 => ?_
    refine seq_then fun K8 g8 => ?_
    refine tr_r21 dd k P P1 vf _ w4 a4 _ ha4 fun a5 ha5 h74 => g8 _ _ ?_
    have hend : ∀ (a6 : Act) (w6 : World) (v6 : Value) (g : List Ins), g = (if k = dd then [⟨15, 0, 0, 0⟩] else trF n ((k : Int) + 1) m) → TrD a6 dd P vf P1 k v6 → Bl W w6 → Prg.FnAt w0.heap.size w6 v6 g → K7 a6 w6 := by
      intro a6 w6 v6 g hg ha6 hb6 hf6
      refine g7 _ _ ?_
      have hW6 := hW.up hb6
      obtain ⟨vals, hv1, hv2⟩ := hW6.fsr
      have hfk : ((trees n dd m).take k).length = k := by rw [List.length_take, trees_len]; omega
      obtain ⟨g6, c6, hv6, _⟩ := id hf6
      refine tr_r23 dd k P P1 vf v6 w0 ((trees n dd m).take k).length vF vals _ _ c6 w6 a6 _ ha6 hv6 hW6.row hv1 (by omega) hW6.bl.size fun a7 w7 v7 ha7 ho7 hg7 => ?_
      refine g3 _ _ ?_
      refine tr_iD dd k P P1 vf _ a7 _ ha7 (by omega) (by omega) fun a8 ha8 => ?_
      have hn9 := tr_next hW6 hv1 hv2 hf6 ho7 hg7
      rw [hg, ← trees_succ m hk (by omega)] at hn9
      exact ih (k + 1) a8 _ v7 (by omega) (by omega) (by simpa using ha8) hn9
    by_cases hkd : k = dd
    · refine tr_r22 dd k P P1 vf _ w4 a5 _ ha5 (by rw [h74]; simp [hkd]) fun a6 ha6 => ?_
      refine hend a6 _ _ [⟨15, 0, 0, 0⟩] (by rw [if_pos hkd]) ha6 (Bl.alloc hb4 _) ⟨_, _, rfl, ?_⟩
      exact World.ownsRow_lit w4 #[.int .i64 15, .int .i64 0, .int .i64 0, .int .i64 0] 1 (by have := hW.bl.size; have := hb4.size; omega) (by unfold maxLen; omega) rfl
    · refine tr_c21 w4 a5 _ (by rw [h74]; simp; omega) ?_
      refine hend a5 w4 _ _ (by rw [if_neg hkd]) ha5 hb4 ⟨G2, c', ?_, ?_⟩
      · rw [show (trF n ((k : Int) + 1) m).length = (trF n 1 m).length by unfold trF; simp]
      · rw [show (trF n ((k : Int) + 1) m).length = (trF n 1 m).length by unfold trF; simp]
        exact own_base ho4 hW.bl.size
theorem tree_wp (n dd : Nat) (m : Int) (w : World) (a : Act) (Q : Exit → Act → World → Prop) (hn1 : 1 ≤ n) (hn : n ≤ 3) (hd : dd ≤ 3) (hsz : a.tmps.size = 84) (hdf : a.defers = []) (t0 : a.tmps[0]? = some (.int .i64 n)) (t1 : a.tmps[1]? = some (.int .i64 dd)) (t2 : a.tmps[2]? = some (.int .i64 m))
    (hQ : ∀ (a' : Act) (w' : World) (pa : Option Addr) (pc : Nat), a'.tmps.size = 84 → a'.defers = [] → a'.tmps[6]? = some (.pointer (some ⟨w.heap.size, 0, none⟩)) → w'.rowIs w.heap.size 52 4 (four (.slice pa (dd + 1) pc) (.int .i64 0) (.int .i64 dd) (.int .i64 100)) → CodeAt w'.heap.size w' pa (trees n dd m) → Bl w w' → Q .ret a' w') : (bodyOf Try.f43).wp Try.prog Q a w := by
  rw [body43]
  refine seq_then fun K1 g1 => ?_
  refine tr_r0 n dd m w a _ hsz hdf t0 t1 t2 fun a1 ha1 => g1 _ _ ?_
  have hp1 := row4_alloc w (.slice none 0 0) (.int .i64 0) (.int .i64 0) (.int .i64 0) 52
  have hb1 : Bl w (w.alloc (.cells #[.slice none 0 0, .int .i64 0, .int .i64 0, .int .i64 0] 52)) := Bl.alloc (Bl.refl _) _
  generalize hP : w.heap.size = P at *
  generalize w.alloc (.cells #[.slice none 0 0, .int .i64 0, .int .i64 0, .int .i64 0] 52) = w0 at *
  refine seq_then fun K2 g2 => ?_
  refine tr_r1 n dd m P w0 a1 _ ha1 fun a2 ha2 => g2 _ _ ?_
  have ho2 := World.ownsRow_lit (base := w0.heap.size) (e := 48) (size := 4) w0 (icells [⟨1, 1, m, 0⟩, ⟨4, 2, 0, 1⟩]).toArray 2 (Nat.le_refl _) (by unfold maxLen; omega) rfl
  have hb2 : Bl w0 (w0.alloc (.cells (icells [⟨1, 1, m, 0⟩, ⟨4, 2, 0, 1⟩]).toArray 48)) := Bl.alloc (Bl.refl _) _
  generalize w0.alloc (.cells (icells [⟨1, 1, m, 0⟩, ⟨4, 2, 0, 1⟩]).toArray 48) = w2 at *
  refine seq_then fun K3 g3 => ?_
  refine seq_then fun K4 g4 => ?_
  refine tr_r2 n dd m P _ w2 a2 _ ha2 fun a3 ha3 h8 => g4 _ _ ?_
  refine wp_block ?_
  refine wp_loop_rounds (n + 1) ?_
  refine tr_loopA w0 n dd m P _ hn (fun a4 w4 v4 ha4 hb4 ho4 => ?_) n 0 a3 w2 _ (by omega) ha3 (by rw [h8]; rfl) hb2 (by simpa [tAl] using ho2)
  show K3 a4 w4
  refine g3 _ _ ?_
  refine seq_then fun K5 g5 => ?_
  refine seq_then fun K6 g6 => ?_
  refine tr_r6 n dd m P _ w4 a4 _ ha4 fun a5 ha5 h9 => g6 _ _ ?_
  refine wp_block ?_
  refine wp_loop_rounds (n + 1) ?_
  refine tr_loopB w0 n dd m P _ hn (fun a6 w6 v6 ha6 hb6 ho6 => ?_) n 0 a5 w4 _ (by omega) ha5 (by rw [h9]; rfl) hb4 (by simpa [tBl] using ho4)
  show K5 a6 w6
  refine g5 _ _ ?_
  refine seq_then fun K7 g7 => ?_
  refine tr_r10 n dd m P v6 w0 (2 + n + 2 * n) (tAl m n ++ tBl n) w6 a6 _ ha6 hb6 ho6 (by omega) fun a7 w7 v7 ha7 hb7 ho7 => g7 _ _ ?_
  have hf : tAl m n ++ tBl n ++ [⟨15, 0, 0, 0⟩] = trF n 1 m := by unfold tAl tBl trF; simp [List.append_assoc]
  have hfl : (trF n 1 m).length = 2 + n + 2 * n + 1 := by
    obtain rfl | rfl | rfl : n = 1 ∨ n = 2 ∨ n = 3 := by omega
    all_goals rfl
  rw [hf, ← hfl] at ho7
  obtain ⟨A, n', c, hv⟩ := own_slice ho7
  rw [hv] at ho7 ha7
  obtain ⟨G, rfl, rfl⟩ := own_one ho7 (by omega)
  refine seq_then fun K8 g8 => ?_
  refine tr_r11 n dd m P _ _ _ w7 a7 _ ha7 fun a8 ha8 => g8 _ _ ?_
  have hsz7 := hb7.size
  have hr8 := row4_alloc (w7.alloc (.cells #[.slice (some ⟨G, 0, none⟩) (trF n 1 m).length c] 49)) (.slice (some ⟨w7.heap.size, 0, none⟩) 1 1) (.int .i64 0) (.int .i64 dd) (.int .i64 100) 52
  have hs8 : (w7.alloc (.cells #[.slice (some ⟨G, 0, none⟩) (trF n 1 m).length c] 49)).heap.size = w7.heap.size + 1 := by simp
  rw [hs8] at hr8
  have hbA : Bl w7 (w7.alloc (.cells #[.slice (some ⟨G, 0, none⟩) (trF n 1 m).length c] 49)) := Bl.alloc (Bl.refl _) _
  have hoF := World.ownsRow_lit (base := w0.heap.size) (e := 49) (size := 1) w7 #[.slice (some ⟨G, 0, none⟩) (trF n 1 m).length c] 1 hsz7 (by unfold maxLen; omega) rfl
  have hW8 : TrW w0 (w7.heap.size + 1) dd ((trees n dd m).take 1) (.slice (some ⟨G, 0, none⟩) (trF n 1 m).length c) (.slice (some ⟨w7.heap.size, 0, none⟩) 1 1) (trF n 1 m) ((w7.alloc (.cells #[.slice (some ⟨G, 0, none⟩) (trF n 1 m).length c] 49)).alloc (.cells #[.slice (some ⟨w7.heap.size, 0, none⟩) 1 1, .int .i64 0, .int .i64 dd, .int .i64 100] 52)) := by
    have hbB := Bl.alloc hbA (.cells #[.slice (some ⟨w7.heap.size, 0, none⟩) 1 1, .int .i64 0, .int .i64 dd, .int .i64 100] 52)
    have hfn : Prg.FnAt w0.heap.size ((w7.alloc (.cells #[.slice (some ⟨G, 0, none⟩) (trF n 1 m).length c] 49)).alloc (.cells #[.slice (some ⟨w7.heap.size, 0, none⟩) 1 1, .int .i64 0, .int .i64 dd, .int .i64 100] 52)) (.slice (some ⟨G, 0, none⟩) (trF n 1 m).length c) (trF n 1 m) := ⟨G, c, rfl, own_bl ho7 hbB⟩
    refine ⟨Bl.trans hb7 hbB, hr8, ⟨[.slice (some ⟨G, 0, none⟩) (trF n 1 m).length c], ?_, fun j f hf => ?_⟩, hfn, by omega⟩
    · exact own_bl hoF (Bl.alloc (Bl.refl _) _)
    · have e : (trees n dd m).take 1 = [trF n 1 m] := by unfold trees; simp
      rw [e] at hf
      rcases j with _ | j
      · obtain rfl : trF n 1 m = f := by simpa using hf
        exact ⟨_, rfl, hfn⟩
      · simp at hf
  generalize ((w7.alloc (.cells #[.slice (some ⟨G, 0, none⟩) (trF n 1 m).length c] 49)).alloc (.cells #[.slice (some ⟨w7.heap.size, 0, none⟩) 1 1, .int .i64 0, .int .i64 dd, .int .i64 100] 52)) = w8 at *
  refine seq_then fun K9 g9 => ?_
  refine seq_then fun K10 g10 => ?_
  refine tr_r12 dd P _ _ w8 a8 _ ha8 fun a9 ha9 => g10 _ _ ?_
  refine wp_block ?_
  refine wp_loop_rounds (dd + 1) ?_
  refine tr_loopD w0 n dd m P _ _ _ hn1 hn hd (fun a10 w10 vF ha10 hW10 => ?_) dd 1 a9 w8 _ (by omega) (Nat.le_refl _) ha9 hW8
  show K9 a10 w10
  refine g9 _ _ ?_
  refine seq_then fun K11 g11 => ?_
  have hp10 := row_bl hp1 hW10.bl
  obtain ⟨pa, pc, rfl, _⟩ := hW10.fsr.code
  refine tr_r24 dd P _ _ pa _ pc w10 a10 _ ha10 hW10.row hp10 fun a11 w11 s11 d11 t11 hr11 hc11 => g11 _ _ ?_
  rw [trees_len] at hr11
  have hfs := FsRow.later hW10.fsr hc11 (fun k cur e hk he => ty_ne hp10 hk (by rcases he with rfl | rfl <;> decide))
  refine wp_ret (hQ a11 w11 pa pc s11 d11 t11 hr11 (FsRow.code' (pc := pc) hfs) ?_)
  have hbw := Bl.trans hb1 hW10.bl
  exact bl_ch hbw hc11 (fun i hi e => by omega)
set_option maxRecDepth 100000 in
set_option maxHeartbeats 8000000 in
/-- The program of a tree. -/
theorem tree_any (n dd : Nat) (m : Int) (w : World) (hn1 : 1 ≤ n) (hn : n ≤ 3) (hd : dd ≤ 3) : Calls Try.prog 43 #[.int .i64 n, .int .i64 dd, .int .i64 m] w fun e w' => ∃ pa pc, e = .returned (.agg #[.slice pa (dd + 1) pc, .int .i64 0, .int .i64 dd, .int .i64 100]) ∧ CodeAt w'.heap.size w' pa (trees n dd m) ∧ Bl w w' := by
  go_enter Try.func43, Try.ntmps43
  refine tree_wp n dd m w _ _ hn1 hn hd rfl rfl rfl rfl rfl fun a' w' pa pc hs hdf h6 hr hC hb => ?_
  obtain ⟨_, h6'⟩ := get_of h6
  obtain ⟨⟨r0, r1, r2, r3⟩, _⟩ := row4_cells hr
  have hl := hr.lt
  exact bodyPost_ret (v := .agg #[.slice pa (dd + 1) pc, .int .i64 0, .int .i64 dd, .int .i64 100]) (by simp [results, Try.results43, go_sem, hs, h6', r0, r1, r2, r3]) hdf ⟨pa, pc, rfl, hC, hb⟩
end Go.Proofs.Ytonndofbnhnkpaa.Evl
