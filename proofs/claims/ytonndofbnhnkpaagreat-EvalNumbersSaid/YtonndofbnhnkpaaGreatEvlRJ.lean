/- The program's package eval: the pieces of a task's run. The program's package eval: what a step hands on. The program's package eval: a task's run, to its end. The program's package eval: a task's run, from its beginning. -/
import Derived.Test.YtonndofbnhnkpaaGreatEvlJJ
import Derived.Test.YtonndofbnhnkpaaGreatEvlP
import Derived.Test.YtonndofbnhnkpaaGreatEvKJ
set_option linter.unusedVariables false
set_option linter.unusedSimpArgs false
set_option linter.unusedSectionVars false
namespace Go.Proofs.YtonndofbnhnkpaaGreat.Evl
open Go.RowKit Num KeyM KeyW StatW Blk VmA VmG Prg EvM Rf
def inL : Code → Code
  | .block _ (.loop c) => c
  | c => c
def inB : Code → Code
  | .block _ c => c
  | c => c
/-- The loop's round. -/
def rnd (f : Func) : Code := inB (nth 0 (inL (nth 6 (bodyOf f))))
/-- The frame of a task's run. -/
structure RnA (a : Act) (df : List Deferred) (P K F A E : Nat) : Prop where
  sz : a.tmps.size = 72
  dfs : a.defers = df
  t4 : a.tmps[4]? = some (.pointer (some ⟨P, 0, none⟩))
  t5 : a.tmps[5]? = some (.pointer (some ⟨K, 0, none⟩))
  t6 : a.tmps[6]? = some (.pointer (some ⟨F, 0, none⟩))
  t7 : a.tmps[7]? = some (.pointer (some ⟨A, 0, none⟩))
  t8 : a.tmps[8]? = some (.pointer (some ⟨E, 0, none⟩))
structure RnB (a : Act) (df : List Deferred) (P K F A E B : Nat) : Prop extends RnA a df P K F A E where
  t9 : a.tmps[9]? = some (.pointer (some ⟨B, 0, none⟩))
structure RnC (a : Act) (df : List Deferred) (P K F A E B : Nat) (code : Value) (place fuel : Int) : Prop extends RnB a df P K F A E B where
  t10 : a.tmps[10]? = some code
  t11 : a.tmps[11]? = some (.int .i64 place)
  t12 : a.tmps[12]? = some (.int .i64 fuel)
def w5 (w : World) (M : Nat) (key fn arg : Int) : World := ((((w.alloc (.cells #[.pointer (some ⟨M, 0, none⟩)] 55)).alloc (.cells #[.int .i64 key] 3)).alloc (.cells #[.int .i64 fn] 3)).alloc (.cells #[.int .i64 arg] 3)).alloc (.cells #[.int .i64 0, .int .i64 0] 29)
def e15 (M : Nat) (key : Int) : Array Value := #[.pointer (some ⟨M, 0, none⟩), .int .i64 key, .int .i64 0, .int .i64 0, .int .i64 0, .int .i64 0, .int .i64 0, .int .i64 0, .int .i64 0, .int .i64 0, .pointer none, .pointer none, .pointer none, .pointer none, .int .i64 0]
def closeV (P K F A E : Nat) : Deferred := { target := .fn (.func 31) #[.pointer (some ⟨E, 0, none⟩), .pointer (some ⟨K, 0, none⟩), .pointer (some ⟨F, 0, none⟩), .pointer (some ⟨A, 0, none⟩), .pointer (some ⟨P, 0, none⟩)], args := #[] }
set_option maxRecDepth 100000 in
set_option maxHeartbeats 8000000 in
theorem run_r0 (M : Nat) (key fn arg : Int) (w : World) (a : Act) (Q : Exit → Act → World → Prop) (hsz : a.tmps.size = 72) (hdf : a.defers = []) (t0 : a.tmps[0]? = some (.pointer (some ⟨M, 0, none⟩))) (t1 : a.tmps[1]? = some (.int .i64 key)) (t2 : a.tmps[2]? = some (.int .i64 fn)) (t3 : a.tmps[3]? = some (.int .i64 arg))
    (hQ : ∀ a' : Act, RnA a' [] w.heap.size (w.heap.size + 1) (w.heap.size + 2) (w.heap.size + 3) (w.heap.size + 4) → Q .normal a' (w5 w M key fn arg)) : (nth 0 (bodyOf Tryz.f18)).wp Tryz.prog Q a w := by
  simp only [nth, bodyOf, Tryz.f18, Option.getD]
  unfold w5 at hQ
  obtain ⟨_, t0'⟩ := get_of t0
  obtain ⟨_, t1'⟩ := get_of t1
  obtain ⟨_, t2'⟩ := get_of t2
  obtain ⟨_, t3'⟩ := get_of t3
  go_wp2_with fail
  first | exact hQ _ ⟨by simp [hsz], by first | rfl | exact hdf, by simp [Array.getElem?_setIfInBounds, hsz], by simp [Array.getElem?_setIfInBounds, hsz], by simp [Array.getElem?_setIfInBounds, hsz], by simp [Array.getElem?_setIfInBounds, hsz], by simp [Array.getElem?_setIfInBounds, hsz]⟩ | exact ⟨by simp [hsz], by first | rfl | exact hdf, by simp [Array.getElem?_setIfInBounds, hsz], by simp [Array.getElem?_setIfInBounds, hsz], by simp [Array.getElem?_setIfInBounds, hsz], by simp [Array.getElem?_setIfInBounds, hsz], by simp [Array.getElem?_setIfInBounds, hsz]⟩
set_option maxRecDepth 100000 in
set_option maxHeartbeats 8000000 in
theorem run_r1 (M : Nat) (key : Int) (w : World) (P K F A E : Nat) (df : List Deferred) (a : Act) (Q : Exit → Act → World → Prop) (ha : RnA a df P K F A E) (cP : w.cell? ⟨P, 0, none⟩ = some (.pointer (some ⟨M, 0, none⟩))) (cK : w.cell? ⟨K, 0, none⟩ = some (.int .i64 key))
    (hQ : ∀ a' : Act, RnB a' df P K F A E w.heap.size → Q .normal a' (w.alloc (.cells (e15 M key) 87))) : (nth 1 (bodyOf Tryz.f18)).wp Tryz.prog Q a w := by
  simp only [nth, bodyOf, Tryz.f18, Option.getD]
  unfold e15 at hQ
  obtain ⟨hsz, hdf, t4, t5, t6, t7, t8⟩ := ha
  obtain ⟨_, t4'⟩ := get_of t4
  obtain ⟨_, t5'⟩ := get_of t5
  have lP := lt_of_cell cP
  have lK := lt_of_cell cK
  go_wp2_with fail
  first | exact hQ _ ⟨⟨by simp [hsz], by first | rfl | exact hdf, by simp [Array.getElem?_setIfInBounds, t4], by simp [Array.getElem?_setIfInBounds, t5], by simp [Array.getElem?_setIfInBounds, t6], by simp [Array.getElem?_setIfInBounds, t7], by simp [Array.getElem?_setIfInBounds, t8]⟩, by simp [Array.getElem?_setIfInBounds, hsz]⟩ | exact ⟨⟨by simp [hsz], by first | rfl | exact hdf, by simp [Array.getElem?_setIfInBounds, t4], by simp [Array.getElem?_setIfInBounds, t5], by simp [Array.getElem?_setIfInBounds, t6], by simp [Array.getElem?_setIfInBounds, t7], by simp [Array.getElem?_setIfInBounds, t8]⟩, by simp [Array.getElem?_setIfInBounds, hsz]⟩
def idxr2 : List (Nat × Nat) := [(0, 17), (1, 18), (2, 19), (3, 20), (4, 21), (5, 22)]
def Vr2 (B : Nat) (arg : Int) : Nat → Value := fun sl => match sl with
  | 17 => .pointer (some ⟨B, 0, none⟩)
  | 18 => .int .i64 arg
  | 19 => .int .i64 (wrap32 arg)
  | 20 => .pointer (some ⟨B, 0, none⟩)
  | 21 => .pointer (some ⟨B, 2, none⟩)
  | 22 => .pointer (some ⟨B, 2, none⟩)
  | _ => undef
set_option maxRecDepth 100000 in
set_option maxHeartbeats 8000000 in
theorem run_r2 (arg : Int) (f : Nat → Value) (v0 : Value) (w : World) (P K F A E B : Nat) (df : List Deferred) (a : Act) (Q : Exit → Act → World → Prop) (ha : RnB a df P K F A E B) (cA : w.cell? ⟨A, 0, none⟩ = some (.int .i64 arg)) (hr : w.rowIs B 87 15 f) (c2 : w.cell? ⟨B, 2, none⟩ = some v0)
    (hQ : ∀ a' : Act, RnB a' df P K F A E B → Q .normal a' (w.drew.setCell ⟨B, 2, none⟩ (.int .i64 (wrap32 arg)))) : (nth 2 (bodyOf Tryz.f18)).wp Tryz.prog Q a w := by
  simp only [nth, bodyOf, Tryz.f18, Option.getD]
  obtain ⟨⟨hsz, hdf, t4, t5, t6, t7, t8⟩, t9⟩ := ha
  obtain ⟨_, t7'⟩ := get_of t7
  obtain ⟨_, t9'⟩ := get_of t9
  have lA := lt_of_cell cA
  have fr := hr.frozen 2
  have lB := hr.lt
  refine Tab.region_rs (by kernel_rfl) idxr2 72 (Vr2 B arg) 6 (w.drew.setCell ⟨B, 2, none⟩ (.int .i64 (wrap32 arg))) (by kernel_rfl) hsz (by kernel_rfl) (by kernel_rfl) ?_ ?_
  · intro a' hT
    exact hQ a' ⟨⟨hT.sz.trans hsz, hT.dfs.trans hdf, (hT.out 4 (by decide)).trans t4, (hT.out 5 (by decide)).trans t5, (hT.out 6 (by decide)).trans t6, (hT.out 7 (by decide)).trans t7, (hT.out 8 (by decide)).trans t8⟩, (hT.out 9 (by decide)).trans t9⟩
  · intro i' o L a' K' Q' hT hL ho hd hold hcl hK
    have hi' : i' < 7 := (Array.getElem?_eq_some_iff.1 ho).1
    have HT : Hid (∀ q ∈ idxr2, L[q.1]? = some true → a'.tmps[q.2]? = some (Vr2 B arg q.2)) := hT.tab
    have d1 : w.drew.cell? ⟨A, 0, none⟩ = some (.int .i64 arg) := cA
    have d2 : w.drew.cell? ⟨B, 2, none⟩ = some v0 := c2
    have f1 := (World.rowIs.drew hr).frozen 2
    have l1 : A < w.drew.heap.size := lA
    have l2 : B < w.drew.heap.size := lB
    clear hQ hr fr
    obtain rfl | rfl | rfl | rfl | rfl | rfl | rfl : i' = 0 ∨ i' = 1 ∨ i' = 2 ∨ i' = 3 ∨ i' = 4 ∨ i' = 5 ∨ i' = 6 := by omega
    · have s9 : a'.tmps[9]? = some (.pointer (some ⟨B, 0, none⟩)) := (hT.out 9 (by decide)).trans t9
      cases ho
      clear hd HT hT hold hcl
      go_simp
      exact hK
    · have s7 : a'.tmps[7]? = some (.pointer (some ⟨A, 0, none⟩)) := (hT.out 7 (by decide)).trans t7
      cases ho
      clear hd HT hT hold hcl
      go_simp
      exact hK
    · have s18 : a'.tmps[18]? = some (.int .i64 arg) := HT.out (1, 18) (by decide) (by cases ho; exact hd ⟨1, .data⟩ (by simp) rfl)
      cases ho
      clear hd HT hT hold hcl
      go_simp
      go_at_call 30
      refine (Val.wrap_any _ _).mono ?_
      rintro e w9 ⟨rfl, rfl⟩
      go_simp
      exact hK
    · have s17 : a'.tmps[17]? = some (.pointer (some ⟨B, 0, none⟩)) := HT.out (0, 17) (by decide) (by cases ho; exact hd ⟨0, .data⟩ (by simp) rfl)
      cases ho
      clear hd HT hT hold hcl
      go_simp
      exact hK
    · have s20 : a'.tmps[20]? = some (.pointer (some ⟨B, 0, none⟩)) := HT.out (3, 20) (by decide) (by cases ho; exact hd ⟨3, .data⟩ (by simp) rfl)
      cases ho
      clear hd HT hT hold hcl
      go_simp
      exact hK
    · have s21 : a'.tmps[21]? = some (.pointer (some ⟨B, 2, none⟩)) := HT.out (4, 21) (by decide) (by cases ho; exact hd ⟨4, .data⟩ (by simp) rfl)
      cases ho
      clear hd HT hT hold hcl
      go_simp
      exact hK
    · have s22 : a'.tmps[22]? = some (.pointer (some ⟨B, 2, none⟩)) := HT.out (5, 22) (by decide) (by cases ho; exact hd ⟨5, .data⟩ (by simp) rfl)
      have s19 : a'.tmps[19]? = some (.int .i64 (wrap32 arg)) := HT.out (2, 19) (by decide) (by cases ho; exact hd ⟨2, .data⟩ (by simp) rfl)
      cases ho
      clear hd HT hT hold hcl
      go_simp
      exact hK
set_option maxRecDepth 100000 in
set_option maxHeartbeats 8000000 in
theorem run_r3 (w : World) (P K F A E B : Nat) (a : Act) (Q : Exit → Act → World → Prop) (ha : RnB a [] P K F A E B)
    (hQ : ∀ a' : Act, RnB a' [closeV P K F A E] P K F A E B → Q .normal a' w) : (nth 3 (bodyOf Tryz.f18)).wp Tryz.prog Q a w := by
  simp only [nth, bodyOf, Tryz.f18, Option.getD]
  unfold closeV at hQ
  obtain ⟨⟨hsz, hdf, t4, t5, t6, t7, t8⟩, t9⟩ := ha
  obtain ⟨_, t4'⟩ := get_of t4
  obtain ⟨_, t5'⟩ := get_of t5
  obtain ⟨_, t6'⟩ := get_of t6
  obtain ⟨_, t7'⟩ := get_of t7
  obtain ⟨_, t8'⟩ := get_of t8
  go_wp2_with fail
  first | exact hQ _ ⟨⟨by simp [hsz], by first | rfl | exact hdf, by simp [Array.getElem?_setIfInBounds, t4], by simp [Array.getElem?_setIfInBounds, t5], by simp [Array.getElem?_setIfInBounds, t6], by simp [Array.getElem?_setIfInBounds, t7], by simp [Array.getElem?_setIfInBounds, t8]⟩, by simp [Array.getElem?_setIfInBounds, t9]⟩ | exact ⟨⟨by simp [hsz], by first | rfl | exact hdf, by simp [Array.getElem?_setIfInBounds, t4], by simp [Array.getElem?_setIfInBounds, t5], by simp [Array.getElem?_setIfInBounds, t6], by simp [Array.getElem?_setIfInBounds, t7], by simp [Array.getElem?_setIfInBounds, t8]⟩, by simp [Array.getElem?_setIfInBounds, t9]⟩
def idxr4 : List (Nat × Nat) := [(0, 24), (1, 25), (2, 26), (3, 27), (4, 28), (5, 29), (6, 30), (7, 31), (8, 10)]
def Vr4 (M b off n pc k : Nat) (v10 : Value) : Nat → Value := fun sl => match sl with
  | 24 => .pointer (some ⟨M, 0, none⟩)
  | 25 => .pointer (some ⟨M, 0, none⟩)
  | 26 => .pointer (some ⟨M, 0, none⟩)
  | 27 => .pointer (some ⟨M, 0, none⟩)
  | 28 => .slice (some ⟨b, off, none⟩) n pc
  | 29 => .int .i64 (k : Int)
  | 30 => .pointer (some ⟨b, off + k, none⟩)
  | 31 => v10
  | 10 => v10
  | _ => undef
set_option maxRecDepth 100000 in
set_option maxHeartbeats 8000000 in
theorem run_r4 (w : World) (P K F A E B M b off k n pc : Nat) (v10 : Value) (df : List Deferred) (a : Act) (Q : Exit → Act → World → Prop) (ha : RnB a df P K F A E B) (cP : w.cell? ⟨P, 0, none⟩ = some (.pointer (some ⟨M, 0, none⟩))) (cM : w.cell? ⟨M, 0, none⟩ = some (.slice (some ⟨b, off, none⟩) n pc)) (cF : w.cell? ⟨F, 0, none⟩ = some (.int .i64 (k : Int))) (hk : k < n) (cc : w.cell? ⟨b, off + k, none⟩ = some v10)
    (hQ : ∀ a' : Act, RnB a' df P K F A E B → a'.tmps[10]? = some v10 → Q .normal a' w.drew) : (nth 4 (bodyOf Tryz.f18)).wp Tryz.prog Q a w := by
  simp only [nth, bodyOf, Tryz.f18, Option.getD]
  obtain ⟨⟨hsz, hdf, t4, t5, t6, t7, t8⟩, t9⟩ := ha
  obtain ⟨_, t4'⟩ := get_of t4
  obtain ⟨_, t6'⟩ := get_of t6
  have lP := lt_of_cell cP
  have lM := lt_of_cell cM
  have lF := lt_of_cell cF
  have lc := lt_of_cell cc
  simp only at lP lM lF lc
  have k1 : (k : Int) < n := by omega
  have k2 : (0 : Int) ≤ k := by omega
  refine Tab.region_rd (by kernel_rfl) idxr4 72 (Vr4 M b off n pc k v10) (by kernel_rfl) hsz (by kernel_rfl) ?_ ?_
  · intro a' hT
    exact hQ a' ⟨⟨hT.sz.trans hsz, hT.dfs.trans hdf, (hT.out 4 (by decide)).trans t4, (hT.out 5 (by decide)).trans t5, (hT.out 6 (by decide)).trans t6, (hT.out 7 (by decide)).trans t7, (hT.out 8 (by decide)).trans t8⟩, (hT.out 9 (by decide)).trans t9⟩ (hT.tab (8, 10) (by decide) (by simp [Array.getElem?_replicate]))
  · intro i' o L a' K' Q' hT hL ho hd hold hcl hK
    have hi' : i' < 9 := (Array.getElem?_eq_some_iff.1 ho).1
    have HT : Hid (∀ q ∈ idxr4, L[q.1]? = some true → a'.tmps[q.2]? = some (Vr4 M b off n pc k v10 q.2)) := hT.tab
    have d1 : w.drew.cell? ⟨P, 0, none⟩ = some (.pointer (some ⟨M, 0, none⟩)) := cP
    have d2 : w.drew.cell? ⟨M, 0, none⟩ = some (.slice (some ⟨b, off, none⟩) n pc) := cM
    have d3 : w.drew.cell? ⟨F, 0, none⟩ = some (.int .i64 (k : Int)) := cF
    have d4 : w.drew.cell? ⟨b, off + k, none⟩ = some v10 := cc
    have l1 : P < w.drew.heap.size := lP
    have l2 : M < w.drew.heap.size := lM
    have l3 : F < w.drew.heap.size := lF
    have l4 : b < w.drew.heap.size := lc
    clear hQ
    obtain rfl | rfl | rfl | rfl | rfl | rfl | rfl | rfl | rfl : i' = 0 ∨ i' = 1 ∨ i' = 2 ∨ i' = 3 ∨ i' = 4 ∨ i' = 5 ∨ i' = 6 ∨ i' = 7 ∨ i' = 8 := by omega
    · have s4 : a'.tmps[4]? = some (.pointer (some ⟨P, 0, none⟩)) := (hT.out 4 (by decide)).trans t4
      cases ho
      clear hd HT hT hold hcl
      go_simp
      exact hK
    · have s24 : a'.tmps[24]? = some (.pointer (some ⟨M, 0, none⟩)) := HT.out (0, 24) (by decide) (by cases ho; exact hd ⟨0, .data⟩ (by simp) rfl)
      cases ho
      clear hd HT hT hold hcl
      go_simp
      exact hK
    · have s25 : a'.tmps[25]? = some (.pointer (some ⟨M, 0, none⟩)) := HT.out (1, 25) (by decide) (by cases ho; exact hd ⟨1, .data⟩ (by simp) rfl)
      cases ho
      clear hd HT hT hold hcl
      go_simp
      exact hK
    · have s26 : a'.tmps[26]? = some (.pointer (some ⟨M, 0, none⟩)) := HT.out (2, 26) (by decide) (by cases ho; exact hd ⟨2, .data⟩ (by simp) rfl)
      cases ho
      clear hd HT hT hold hcl
      go_simp
      exact hK
    · have s27 : a'.tmps[27]? = some (.pointer (some ⟨M, 0, none⟩)) := HT.out (3, 27) (by decide) (by cases ho; exact hd ⟨3, .data⟩ (by simp) rfl)
      cases ho
      clear hd HT hT hold hcl
      go_simp
      exact hK
    · have s6 : a'.tmps[6]? = some (.pointer (some ⟨F, 0, none⟩)) := (hT.out 6 (by decide)).trans t6
      cases ho
      clear hd HT hT hold hcl
      go_simp
      exact hK
    · have s28 : a'.tmps[28]? = some (.slice (some ⟨b, off, none⟩) n pc) := HT.out (4, 28) (by decide) (by cases ho; exact hd ⟨4, .data⟩ (by simp) rfl)
      have s29 : a'.tmps[29]? = some (.int .i64 (k : Int)) := HT.out (5, 29) (by decide) (by cases ho; exact hd ⟨5, .data⟩ (by simp) rfl)
      cases ho
      clear hd HT hT hold hcl
      go_simp
      exact hK
    · have s30 : a'.tmps[30]? = some (.pointer (some ⟨b, off + k, none⟩)) := HT.out (6, 30) (by decide) (by cases ho; exact hd ⟨6, .data⟩ (by simp) rfl)
      cases ho
      clear hd HT hT hold hcl
      go_simp
      exact hK
    · have s31 : a'.tmps[31]? = some (v10) := HT.out (7, 31) (by decide) (by cases ho; exact hd ⟨7, .data⟩ (by simp) rfl)
      cases ho
      clear hd HT hT hold hcl
      go_simp
      exact hK
def idxr5 : List (Nat × Nat) := [(0, 32), (1, 33), (2, 34), (3, 35), (4, 36), (5, 11), (6, 12)]
def Vr5 (M : Nat) (fuel : Int) : Nat → Value := fun sl => match sl with
  | 32 => .pointer (some ⟨M, 0, none⟩)
  | 33 => .pointer (some ⟨M, 0, none⟩)
  | 34 => .pointer (some ⟨M, 0, none⟩)
  | 35 => .pointer (some ⟨M, 3, none⟩)
  | 36 => .int .i64 fuel
  | 11 => .int .i64 0
  | 12 => .int .i64 fuel
  | _ => undef
set_option maxRecDepth 100000 in
set_option maxHeartbeats 8000000 in
theorem run_r5 (w : World) (P K F A E B M : Nat) (fuel : Int) (v10 : Value) (df : List Deferred) (a : Act) (Q : Exit → Act → World → Prop) (ha : RnB a df P K F A E B) (t10 : a.tmps[10]? = some v10) (cP : w.cell? ⟨P, 0, none⟩ = some (.pointer (some ⟨M, 0, none⟩))) (cM : w.cell? ⟨M, 3, none⟩ = some (.int .i64 fuel))
    (hQ : ∀ a' : Act, RnC a' df P K F A E B v10 0 fuel → Q .normal a' w.drew) : (nth 5 (bodyOf Tryz.f18)).wp Tryz.prog Q a w := by
  simp only [nth, bodyOf, Tryz.f18, Option.getD]
  obtain ⟨⟨hsz, hdf, t4, t5, t6, t7, t8⟩, t9⟩ := ha
  obtain ⟨_, t4'⟩ := get_of t4
  have lP := lt_of_cell cP
  have lM := lt_of_cell cM
  simp only at lP lM
  refine Tab.region_rd (by kernel_rfl) idxr5 72 (Vr5 M fuel) (by kernel_rfl) hsz (by kernel_rfl) ?_ ?_
  · intro a' hT
    exact hQ a' ⟨⟨⟨hT.sz.trans hsz, hT.dfs.trans hdf, (hT.out 4 (by decide)).trans t4, (hT.out 5 (by decide)).trans t5, (hT.out 6 (by decide)).trans t6, (hT.out 7 (by decide)).trans t7, (hT.out 8 (by decide)).trans t8⟩, (hT.out 9 (by decide)).trans t9⟩, (hT.out 10 (by decide)).trans t10, hT.tab (5, 11) (by decide) (by simp [Array.getElem?_replicate]), hT.tab (6, 12) (by decide) (by simp [Array.getElem?_replicate])⟩
  · intro i' o L a' K' Q' hT hL ho hd hold hcl hK
    have hi' : i' < 7 := (Array.getElem?_eq_some_iff.1 ho).1
    have HT : Hid (∀ q ∈ idxr5, L[q.1]? = some true → a'.tmps[q.2]? = some (Vr5 M fuel q.2)) := hT.tab
    have d1 : w.drew.cell? ⟨P, 0, none⟩ = some (.pointer (some ⟨M, 0, none⟩)) := cP
    have d2 : w.drew.cell? ⟨M, 3, none⟩ = some (.int .i64 fuel) := cM
    have l1 : P < w.drew.heap.size := lP
    have l2 : M < w.drew.heap.size := lM
    clear hQ
    obtain rfl | rfl | rfl | rfl | rfl | rfl | rfl : i' = 0 ∨ i' = 1 ∨ i' = 2 ∨ i' = 3 ∨ i' = 4 ∨ i' = 5 ∨ i' = 6 := by omega
    · have s4 : a'.tmps[4]? = some (.pointer (some ⟨P, 0, none⟩)) := (hT.out 4 (by decide)).trans t4
      cases ho
      clear hd HT hT hold hcl
      go_simp
      exact hK
    · have s32 : a'.tmps[32]? = some (.pointer (some ⟨M, 0, none⟩)) := HT.out (0, 32) (by decide) (by cases ho; exact hd ⟨0, .data⟩ (by simp) rfl)
      cases ho
      clear hd HT hT hold hcl
      go_simp
      exact hK
    · have s33 : a'.tmps[33]? = some (.pointer (some ⟨M, 0, none⟩)) := HT.out (1, 33) (by decide) (by cases ho; exact hd ⟨1, .data⟩ (by simp) rfl)
      cases ho
      clear hd HT hT hold hcl
      go_simp
      exact hK
    · have s34 : a'.tmps[34]? = some (.pointer (some ⟨M, 0, none⟩)) := HT.out (2, 34) (by decide) (by cases ho; exact hd ⟨2, .data⟩ (by simp) rfl)
      cases ho
      clear hd HT hT hold hcl
      go_simp
      exact hK
    · have s35 : a'.tmps[35]? = some (.pointer (some ⟨M, 3, none⟩)) := HT.out (3, 35) (by decide) (by cases ho; exact hd ⟨3, .data⟩ (by simp) rfl)
      cases ho
      clear hd HT hT hold hcl
      go_simp
      exact hK
    · cases ho
      clear hd HT hT hold hcl
      go_simp
      exact hK
    · have s36 : a'.tmps[36]? = some (.int .i64 fuel) := HT.out (4, 36) (by decide) (by cases ho; exact hd ⟨4, .data⟩ (by simp) rfl)
      cases ho
      clear hd HT hT hold hcl
      go_simp
      exact hK
def idxr9 : List (Nat × Nat) := [(0, 43), (1, 44), (2, 45), (3, 46), (4, 47), (5, 48), (6, 49), (7, 50), (8, 51), (9, 52)]
def Vr9 (M : Nat) (steps most : Int) : Nat → Value := fun sl => match sl with
  | 43 => .pointer (some ⟨M, 0, none⟩)
  | 44 => .pointer (some ⟨M, 0, none⟩)
  | 45 => .pointer (some ⟨M, 5, none⟩)
  | 46 => .pointer (some ⟨M, 10, none⟩)
  | 47 => .int .i64 steps
  | 48 => .pointer (some ⟨M, 0, none⟩)
  | 49 => .pointer (some ⟨M, 0, none⟩)
  | 50 => .pointer (some ⟨M, 4, none⟩)
  | 51 => .int .i64 most
  | 52 => .bool (decide (most ≤ steps))
  | _ => undef
section
variable (w : World) (P K F A E B : Nat) (v10 : Value) (place fuel : Int) (df : List Deferred) (a : Act) (Q : Exit → Act → World → Prop) (ha : RnC a df P K F A E B v10 place fuel)
include ha
set_option maxRecDepth 100000 in
set_option maxHeartbeats 8000000 in
theorem run_r7 (hQ : ∀ a' : Act, RnC a' df P K F A E B v10 place fuel → a'.tmps[40]? = some (.bool (fuel == 0)) → Q .normal a' w) : (nth 0 (nth 0 (rnd Tryz.f18))).wp Tryz.prog Q a w := by
  simp only [nth, bodyOf, Tryz.f18, Option.getD, rnd, inB, inL]
  obtain ⟨⟨⟨hsz, hdf, t4, t5, t6, t7, t8⟩, t9⟩, t10, t11, t12⟩ := ha
  obtain ⟨_, t12'⟩ := get_of t12
  go_wp2_with fail
  exact hQ _ ⟨⟨⟨by simp [hsz], by first | rfl | exact hdf, by simp [Array.getElem?_setIfInBounds, t4], by simp [Array.getElem?_setIfInBounds, t5], by simp [Array.getElem?_setIfInBounds, t6], by simp [Array.getElem?_setIfInBounds, t7], by simp [Array.getElem?_setIfInBounds, t8]⟩, by simp [Array.getElem?_setIfInBounds, t9]⟩, by simp [Array.getElem?_setIfInBounds, t10], by simp [Array.getElem?_setIfInBounds, t11], by simp [Array.getElem?_setIfInBounds, t12]⟩ (by simp [Array.getElem?_setIfInBounds, hsz])
omit ha in
theorem run_c8 (h : a.tmps[40]? = some (.bool false)) (hQ : Q .normal a w) : (nth 1 (nth 0 (rnd Tryz.f18))).wp Tryz.prog Q a w := by
  simp only [nth, bodyOf, Tryz.f18, Option.getD, rnd, inB, inL]
  refine wp_cond_false (by show a.tmps.getD 40 undef = _; rw [Array.getD_eq_getD_getElem?, h]; rfl) ?_
  go_wp2_with fail
  exact hQ
set_option maxRecDepth 100000 in
set_option maxHeartbeats 8000000 in
theorem run_c8y (h : a.tmps[40]? = some (.bool true)) (hQ : ∀ a' : Act, RnA a' df P K F A E → Q (.panic [{ v := stopV 5 0, recovered := false }]) a' w) : (nth 1 (nth 0 (rnd Tryz.f18))).wp Tryz.prog Q a w := by
  simp only [nth, bodyOf, Tryz.f18, Option.getD, rnd, inB, inL]
  obtain ⟨⟨⟨hsz, hdf, t4, t5, t6, t7, t8⟩, t9⟩, t10, t11, t12⟩ := ha
  obtain ⟨_, t9'⟩ := get_of t9
  refine wp_cond (t := true) (by show a.tmps.getD 40 undef = _; rw [Array.getD_eq_getD_getElem?, h]; rfl) ?_
  simp only [if_true]
  go_wp2_with fail
  refine (stops_any _ _ _).mono ?_
  rintro e w9 ⟨rfl, rfl⟩
  go_wp2_with fail
  first | exact hQ _ ⟨by simp [hsz], by first | rfl | exact hdf, by simp [Array.getElem?_setIfInBounds, t4], by simp [Array.getElem?_setIfInBounds, t5], by simp [Array.getElem?_setIfInBounds, t6], by simp [Array.getElem?_setIfInBounds, t7], by simp [Array.getElem?_setIfInBounds, t8]⟩ | exact ⟨by simp [hsz], by first | rfl | exact hdf, by simp [Array.getElem?_setIfInBounds, t4], by simp [Array.getElem?_setIfInBounds, t5], by simp [Array.getElem?_setIfInBounds, t6], by simp [Array.getElem?_setIfInBounds, t7], by simp [Array.getElem?_setIfInBounds, t8]⟩
set_option maxRecDepth 100000 in
set_option maxHeartbeats 8000000 in
theorem run_r9 (M : Nat) (steps most : Int) (cP : w.cell? ⟨P, 0, none⟩ = some (.pointer (some ⟨M, 0, none⟩))) (cS : w.cell? ⟨M, 10, none⟩ = some (.int .i64 steps)) (cM : w.cell? ⟨M, 4, none⟩ = some (.int .i64 most))
    (hQ : ∀ a' : Act, RnC a' df P K F A E B v10 place fuel → a'.tmps[52]? = some (.bool (decide (most ≤ steps))) → Q .normal a' w.drew) : (nth 0 (nth 1 (rnd Tryz.f18))).wp Tryz.prog Q a w := by
  simp only [nth, bodyOf, Tryz.f18, Option.getD, rnd, inB, inL]
  obtain ⟨⟨⟨hsz, hdf, t4, t5, t6, t7, t8⟩, t9⟩, t10, t11, t12⟩ := ha
  obtain ⟨_, t4'⟩ := get_of t4
  have lP := lt_of_cell cP
  have lM := lt_of_cell cM
  simp only at lP lM
  refine Tab.region_rd (by kernel_rfl) idxr9 72 (Vr9 M steps most) (by kernel_rfl) hsz (by kernel_rfl) ?_ ?_
  · intro a' hT
    exact hQ a' ⟨⟨⟨hT.sz.trans hsz, hT.dfs.trans hdf, (hT.out 4 (by decide)).trans t4, (hT.out 5 (by decide)).trans t5, (hT.out 6 (by decide)).trans t6, (hT.out 7 (by decide)).trans t7, (hT.out 8 (by decide)).trans t8⟩, (hT.out 9 (by decide)).trans t9⟩, (hT.out 10 (by decide)).trans t10, (hT.out 11 (by decide)).trans t11, (hT.out 12 (by decide)).trans t12⟩ (hT.tab (9, 52) (by decide) (by simp [Array.getElem?_replicate]))
  · intro i' o L a' K' Q' hT hL ho hd hold hcl hK
    have hi' : i' < 10 := (Array.getElem?_eq_some_iff.1 ho).1
    have HT : Hid (∀ q ∈ idxr9, L[q.1]? = some true → a'.tmps[q.2]? = some (Vr9 M steps most q.2)) := hT.tab
    have d1 : w.drew.cell? ⟨P, 0, none⟩ = some (.pointer (some ⟨M, 0, none⟩)) := cP
    have d2 : w.drew.cell? ⟨M, 10, none⟩ = some (.int .i64 steps) := cS
    have d3 : w.drew.cell? ⟨M, 4, none⟩ = some (.int .i64 most) := cM
    have l1 : P < w.drew.heap.size := lP
    have l2 : M < w.drew.heap.size := lM
    clear hQ
    obtain rfl | rfl | rfl | rfl | rfl | rfl | rfl | rfl | rfl | rfl : i' = 0 ∨ i' = 1 ∨ i' = 2 ∨ i' = 3 ∨ i' = 4 ∨ i' = 5 ∨ i' = 6 ∨ i' = 7 ∨ i' = 8 ∨ i' = 9 := by omega
    · have s4 : a'.tmps[4]? = some (.pointer (some ⟨P, 0, none⟩)) := (hT.out 4 (by decide)).trans t4
      cases ho
      clear hd HT hT hold hcl
      go_simp
      exact hK
    · have s43 : a'.tmps[43]? = some (.pointer (some ⟨M, 0, none⟩)) := HT.out (0, 43) (by decide) (by cases ho; exact hd ⟨0, .data⟩ (by simp) rfl)
      cases ho
      clear hd HT hT hold hcl
      go_simp
      exact hK
    · have s44 : a'.tmps[44]? = some (.pointer (some ⟨M, 0, none⟩)) := HT.out (1, 44) (by decide) (by cases ho; exact hd ⟨1, .data⟩ (by simp) rfl)
      cases ho
      clear hd HT hT hold hcl
      go_simp
      exact hK
    · have s45 : a'.tmps[45]? = some (.pointer (some ⟨M, 5, none⟩)) := HT.out (2, 45) (by decide) (by cases ho; exact hd ⟨2, .data⟩ (by simp) rfl)
      cases ho
      clear hd HT hT hold hcl
      go_simp
      exact hK
    · have s46 : a'.tmps[46]? = some (.pointer (some ⟨M, 10, none⟩)) := HT.out (3, 46) (by decide) (by cases ho; exact hd ⟨3, .data⟩ (by simp) rfl)
      cases ho
      clear hd HT hT hold hcl
      go_simp
      exact hK
    · have s4 : a'.tmps[4]? = some (.pointer (some ⟨P, 0, none⟩)) := (hT.out 4 (by decide)).trans t4
      cases ho
      clear hd HT hT hold hcl
      go_simp
      exact hK
    · have s48 : a'.tmps[48]? = some (.pointer (some ⟨M, 0, none⟩)) := HT.out (5, 48) (by decide) (by cases ho; exact hd ⟨5, .data⟩ (by simp) rfl)
      cases ho
      clear hd HT hT hold hcl
      go_simp
      exact hK
    · have s49 : a'.tmps[49]? = some (.pointer (some ⟨M, 0, none⟩)) := HT.out (6, 49) (by decide) (by cases ho; exact hd ⟨6, .data⟩ (by simp) rfl)
      cases ho
      clear hd HT hT hold hcl
      go_simp
      exact hK
    · have s50 : a'.tmps[50]? = some (.pointer (some ⟨M, 4, none⟩)) := HT.out (7, 50) (by decide) (by cases ho; exact hd ⟨7, .data⟩ (by simp) rfl)
      cases ho
      clear hd HT hT hold hcl
      go_simp
      exact hK
    · have s47 : a'.tmps[47]? = some (.int .i64 steps) := HT.out (4, 47) (by decide) (by cases ho; exact hd ⟨4, .data⟩ (by simp) rfl)
      have s51 : a'.tmps[51]? = some (.int .i64 most) := HT.out (8, 51) (by decide) (by cases ho; exact hd ⟨8, .data⟩ (by simp) rfl)
      cases ho
      clear hd HT hT hold hcl
      go_simp
      exact hK
omit ha in
theorem run_c10 (h : a.tmps[52]? = some (.bool false)) (hQ : Q .normal a w) : (nth 1 (nth 1 (rnd Tryz.f18))).wp Tryz.prog Q a w := by
  simp only [nth, bodyOf, Tryz.f18, Option.getD, rnd, inB, inL]
  refine wp_cond_false (by show a.tmps.getD 52 undef = _; rw [Array.getD_eq_getD_getElem?, h]; rfl) ?_
  go_wp2_with fail
  exact hQ
set_option maxRecDepth 100000 in
set_option maxHeartbeats 8000000 in
theorem run_c10y (h : a.tmps[52]? = some (.bool true)) (hQ : ∀ a' : Act, RnA a' df P K F A E → Q (.panic [{ v := overV, recovered := false }]) a' w) : (nth 1 (nth 1 (rnd Tryz.f18))).wp Tryz.prog Q a w := by
  simp only [nth, bodyOf, Tryz.f18, Option.getD, rnd, inB, inL]
  unfold overV at hQ
  obtain ⟨⟨⟨hsz, hdf, t4, t5, t6, t7, t8⟩, t9⟩, t10, t11, t12⟩ := ha
  refine wp_cond (t := true) (by show a.tmps.getD 52 undef = _; rw [Array.getD_eq_getD_getElem?, h]; rfl) ?_
  simp only [if_true]
  go_wp2_with fail
  first | exact hQ _ ⟨by simp [hsz], by first | rfl | exact hdf, by simp [Array.getElem?_setIfInBounds, t4], by simp [Array.getElem?_setIfInBounds, t5], by simp [Array.getElem?_setIfInBounds, t6], by simp [Array.getElem?_setIfInBounds, t7], by simp [Array.getElem?_setIfInBounds, t8]⟩ | exact ⟨by simp [hsz], by first | rfl | exact hdf, by simp [Array.getElem?_setIfInBounds, t4], by simp [Array.getElem?_setIfInBounds, t5], by simp [Array.getElem?_setIfInBounds, t6], by simp [Array.getElem?_setIfInBounds, t7], by simp [Array.getElem?_setIfInBounds, t8]⟩
set_option maxRecDepth 100000 in
set_option maxHeartbeats 8000000 in
theorem run_r11 (M : Nat) (steps : Int) (f : Nat → Value) (hr : w.rowIs M 58 14 f) (cP : w.cell? ⟨P, 0, none⟩ = some (.pointer (some ⟨M, 0, none⟩))) (cS : w.cell? ⟨M, 10, none⟩ = some (.int .i64 steps)) (h0 : 0 ≤ steps) (h1 : steps < 1000000)
    (hQ : ∀ a' : Act, RnC a' df P K F A E B v10 place fuel → Q .normal a' (w.setCell ⟨M, 10, none⟩ (.int .i64 (steps + 1)))) : (nth 2 (rnd Tryz.f18)).wp Tryz.prog Q a w := by
  simp only [nth, bodyOf, Tryz.f18, Option.getD, rnd, inB, inL]
  obtain ⟨⟨⟨hsz, hdf, t4, t5, t6, t7, t8⟩, t9⟩, t10, t11, t12⟩ := ha
  obtain ⟨_, t4'⟩ := get_of t4
  have lP := lt_of_cell cP
  have lM := hr.lt
  have fr := hr.frozen 10
  simp only at lP
  clear hr
  go_wp2_with fail
  first | exact hQ _ ⟨⟨⟨by simp [hsz], by first | rfl | exact hdf, by simp [Array.getElem?_setIfInBounds, t4], by simp [Array.getElem?_setIfInBounds, t5], by simp [Array.getElem?_setIfInBounds, t6], by simp [Array.getElem?_setIfInBounds, t7], by simp [Array.getElem?_setIfInBounds, t8]⟩, by simp [Array.getElem?_setIfInBounds, t9]⟩, by simp [Array.getElem?_setIfInBounds, t10], by simp [Array.getElem?_setIfInBounds, t11], by simp [Array.getElem?_setIfInBounds, t12]⟩ | exact ⟨⟨⟨by simp [hsz], by first | rfl | exact hdf, by simp [Array.getElem?_setIfInBounds, t4], by simp [Array.getElem?_setIfInBounds, t5], by simp [Array.getElem?_setIfInBounds, t6], by simp [Array.getElem?_setIfInBounds, t7], by simp [Array.getElem?_setIfInBounds, t8]⟩, by simp [Array.getElem?_setIfInBounds, t9]⟩, by simp [Array.getElem?_setIfInBounds, t10], by simp [Array.getElem?_setIfInBounds, t11], by simp [Array.getElem?_setIfInBounds, t12]⟩
set_option maxRecDepth 100000 in
set_option maxHeartbeats 8000000 in
theorem run_r6 (h0 : 0 < fuel) (h1 : fuel ≤ 1000000) (hQ : ∀ a' : Act, RnC a' df P K F A E B v10 place (fuel - 1) → Q .normal a' w) : (nth 1 (inL (nth 6 (bodyOf Tryz.f18)))).wp Tryz.prog Q a w := by
  simp only [nth, bodyOf, Tryz.f18, Option.getD, rnd, inB, inL]
  obtain ⟨⟨⟨hsz, hdf, t4, t5, t6, t7, t8⟩, t9⟩, t10, t11, t12⟩ := ha
  obtain ⟨_, t12'⟩ := get_of t12
  go_wp2_with fail
  first | exact hQ _ ⟨⟨⟨by simp [hsz], by first | rfl | exact hdf, by simp [Array.getElem?_setIfInBounds, t4], by simp [Array.getElem?_setIfInBounds, t5], by simp [Array.getElem?_setIfInBounds, t6], by simp [Array.getElem?_setIfInBounds, t7], by simp [Array.getElem?_setIfInBounds, t8]⟩, by simp [Array.getElem?_setIfInBounds, t9]⟩, by simp [Array.getElem?_setIfInBounds, t10], by simp [Array.getElem?_setIfInBounds, t11], by simp [Array.getElem?_setIfInBounds, hsz]⟩ | exact ⟨⟨⟨by simp [hsz], by first | rfl | exact hdf, by simp [Array.getElem?_setIfInBounds, t4], by simp [Array.getElem?_setIfInBounds, t5], by simp [Array.getElem?_setIfInBounds, t6], by simp [Array.getElem?_setIfInBounds, t7], by simp [Array.getElem?_setIfInBounds, t8]⟩, by simp [Array.getElem?_setIfInBounds, t9]⟩, by simp [Array.getElem?_setIfInBounds, t10], by simp [Array.getElem?_setIfInBounds, t11], by simp [Array.getElem?_setIfInBounds, hsz]⟩
end
set_option maxRecDepth 100000 in
set_option maxHeartbeats 8000000 in
theorem run_r12 (w : World) (P K F A E B b off p n fc : Nat) (x : Ins) (fuel : Int) (df : List Deferred) (a : Act) (Q : Exit → Act → World → Prop) (ha : RnC a df P K F A E B (.slice (some ⟨b, off, none⟩) n fc) (p : Int) fuel) (hp : p < n) (hp1 : p ≤ 1000000)
    (c0 : w.cell? ⟨b, off + p * 4, none⟩ = some (.int .i64 x.op)) (c1 : w.cell? ⟨b, off + p * 4 + 1, none⟩ = some (.int .i64 x.a)) (c2 : w.cell? ⟨b, off + p * 4 + 2, none⟩ = some (.int .i64 x.b)) (c3 : w.cell? ⟨b, off + p * 4 + 3, none⟩ = some (.int .i64 x.c))
    (hC : Calls Tryz.prog 33 #[.pointer (some ⟨B, 0, none⟩), .agg #[.int .i64 x.op, .int .i64 x.a, .int .i64 x.b, .int .i64 x.c], .int .i64 ((p : Int) + 1)] w fun e w' => (∃ v, e = .returned (.int .i64 v) ∧ ∀ a' : Act, RnC a' df P K F A E B (.slice (some ⟨b, off, none⟩) n fc) v fuel → Q .normal a' w') ∨ (∃ l, e = .panicked l ∧ ∀ a' : Act, RnA a' df P K F A E → Q (.panic l) a' w')) : (nth 3 (rnd Tryz.f18)).wp Tryz.prog Q a w := by
  simp only [nth, bodyOf, Tryz.f18, Option.getD, rnd, inB, inL]
  obtain ⟨⟨⟨hsz, hdf, t4, t5, t6, t7, t8⟩, t9⟩, t10, t11, t12⟩ := ha
  obtain ⟨_, t9'⟩ := get_of t9
  obtain ⟨_, t10'⟩ := get_of t10
  obtain ⟨_, t11'⟩ := get_of t11
  have lb := lt_of_cell c0
  simp only at lb
  have k1 : (p : Int) < n := by omega
  have k2 : (0 : Int) ≤ p := by omega
  go_wp2_with fail
  refine hC.mono ?_
  rintro e w9 (⟨v, rfl, hv⟩ | ⟨l, rfl, hl⟩)
  · go_wp2_with fail
    first | exact hv _ ⟨⟨⟨by simp [hsz], by first | rfl | exact hdf, by simp [Array.getElem?_setIfInBounds, t4], by simp [Array.getElem?_setIfInBounds, t5], by simp [Array.getElem?_setIfInBounds, t6], by simp [Array.getElem?_setIfInBounds, t7], by simp [Array.getElem?_setIfInBounds, t8]⟩, by simp [Array.getElem?_setIfInBounds, t9]⟩, by simp [Array.getElem?_setIfInBounds, t10], by simp [Array.getElem?_setIfInBounds, hsz], by simp [Array.getElem?_setIfInBounds, t12]⟩ | exact ⟨⟨⟨by simp [hsz], by first | rfl | exact hdf, by simp [Array.getElem?_setIfInBounds, t4], by simp [Array.getElem?_setIfInBounds, t5], by simp [Array.getElem?_setIfInBounds, t6], by simp [Array.getElem?_setIfInBounds, t7], by simp [Array.getElem?_setIfInBounds, t8]⟩, by simp [Array.getElem?_setIfInBounds, t9]⟩, by simp [Array.getElem?_setIfInBounds, t10], by simp [Array.getElem?_setIfInBounds, hsz], by simp [Array.getElem?_setIfInBounds, t12]⟩
  · go_wp2_with fail
    first | exact hl _ ⟨by simp [hsz], by first | rfl | exact hdf, by simp [Array.getElem?_setIfInBounds, t4], by simp [Array.getElem?_setIfInBounds, t5], by simp [Array.getElem?_setIfInBounds, t6], by simp [Array.getElem?_setIfInBounds, t7], by simp [Array.getElem?_setIfInBounds, t8]⟩ | exact ⟨by simp [hsz], by first | rfl | exact hdf, by simp [Array.getElem?_setIfInBounds, t4], by simp [Array.getElem?_setIfInBounds, t5], by simp [Array.getElem?_setIfInBounds, t6], by simp [Array.getElem?_setIfInBounds, t7], by simp [Array.getElem?_setIfInBounds, t8]⟩
end Go.Proofs.YtonndofbnhnkpaaGreat.Evl
namespace Go.Proofs.YtonndofbnhnkpaaGreat.Evl
open Go.RowKit Num KeyM KeyW StatW Blk VmA VmG Prg EvM Rf
theorem evLoop_done {fs : List (List Ins)} {depth fuel0 most : Int} : ∀ {n : Nat} {t : RT} {S : RS} {r : RT × RS}, evLoop fs depth fuel0 most n t S = some r → t.how ≠ 0 ∨ S.over = true → r = (t, S)
  | 0, _, _, _, h, _ => by simp [evLoop] at h
  | n + 1, t, S, r, h, ho => by
    unfold evLoop at h
    rw [if_pos ho] at h
    cases h; rfl
/-- What ran ahead of a task's child, and behind it. -/
theorem pre_kid {fs : List (List Ins)} {depth fuel0 most : Int} (hdp : depth ≤ 5) {n : Nat} {t : RT} {S S2 : RS} {u : RT} {b arg : Int} (hc : evLoop fs depth fuel0 most n (rt0 b arg (child t.key (t.forks + 1)) fuel0) S = some (u, S2)) (hk : chk t.key = true) (hf0 : 0 ≤ t.forks) (h6 : t.forks < 1000) (h5 : dep t.key < 5)
    (hp : ∀ x ∈ S.ran, x.key ≠ t.key ∧ x.key < bnd t.key t.forks) (arg2 : Int) :
    (∀ x ∈ S.ran, x.key ≠ child t.key (t.forks + 1) ∧ x.key < bnd (child t.key (t.forks + 1)) 0) ∧ ∀ x ∈ (finish u S2 arg2).ran, x.key ≠ t.key ∧ x.key < bnd t.key (t.forks + 1) := by
  have hb := born (n := t.forks + 1) hk (by omega) (by omega) (by omega)
  have hbt : bnd t.key t.forks = child t.key (t.forks + 1) := by unfold bnd child; rw [if_neg (by omega)]
  have hg0 := bnd_gt (key := child t.key (t.forks + 1)) (f := 0) (Int.le_refl _)
  obtain ⟨g1, g2, g3, g4⟩ := evLoop_keys hdp hc hb.chk (Int.le_refl _) (by show (0 : Int) ≤ 1000; decide)
  have hbc := bnd_child (g := u.forks) hk hf0 h6 h5 g3
  change u.key = child t.key (t.forks + 1) at g1
  have hlt := hb.lt
  have hg2 := bnd_gt (key := child t.key (t.forks + 1)) (f := u.forks) (by change (0 : Int) ≤ u.forks at g2; exact g2)
  have hall : ∀ x ∈ S2.ran, x.key ≠ t.key ∧ x.key < bnd t.key (t.forks + 1) := fun x hx => by
    rcases g4 x hx with e | ⟨e1, e2⟩
    · have := hp x e
      rw [hbt] at this
      exact ⟨this.1, by omega⟩
    · change child t.key (t.forks + 1) < x.key at e1
      change x.key < bnd (child t.key (t.forks + 1)) u.forks at e2
      exact ⟨by omega, by omega⟩
  refine ⟨fun x hx => ?_, fun x hx => ?_⟩
  · have := (hp x hx).2
    rw [hbt] at this
    exact ⟨by omega, by omega⟩
  · unfold finish at hx
    split at hx
    · exact hall x hx
    · rcases put_mem hx with rfl | hx
      · exact ⟨by show u.key ≠ t.key; rw [g1]; omega, by show u.key < bnd t.key (t.forks + 1); rw [g1]; omega⟩
      · exact hall x hx
structure EvC (c : Mc) : Prop where
  pv : PV c.fs c.futs c.depth c.fuel
  most0 : 0 ≤ c.most
  most1 : c.most ≤ 20000
def PreK (t : RT) (S : RS) : Prop := ∀ x ∈ S.ran, x.key ≠ t.key ∧ x.key < bnd t.key t.forks
def RunSays (c : Mc) (n : Nat) : Prop := ∀ (k fn : Nat) (arg key : Int) (S : RS) (u : RT) (S2 : RS), evLoop c.fs c.depth c.fuel c.most n (rt0 fn arg key c.fuel) S = some (u, S2) → fn < c.fs.length → chk key = true → SOk k c.most S → S.over = false → PreK (rt0 fn arg key c.fuel) S →
  ∀ w, IsM c w S → Calls Tryz.prog 18 #[.pointer (some ⟨c.M, 0, none⟩), .int .i64 key, .int .i64 fn, .int .i64 arg] w fun e w' => RunPost c w u.how u.val (finish u S2 arg) e w'
/-- A task under way. -/
structure LInv (c : Mc) (k : Nat) (key : Int) (fnn : Nat) (t : RT) (S : RS) : Prop where
  rok : ROk c.fs c.futs t
  vok : VOk t
  sok : SOk k c.most S
  how : t.how = 0
  over : S.over = false
  fuel : t.fuel ≤ 500
  key : t.key = key
  fn : t.fn = fnn
  forks : t.forks ≤ 1000
  pre : PreK t S
theorem sok_forks {k : Nat} {most : Int} {S : RS} (h : SOk k most S) : 0 ≤ S.forks ∧ S.forks ≤ most ∧ 0 ≤ S.steps := by
  obtain ⟨h1, h2, h3⟩ := h
  omega
/-- A step that is none of a fork's. -/
theorem next_one (c : Mc) (hcf : EvC c) {k : Nat} {key : Int} {fnn : Nat} {t : RT} {S : RS} (h : LInv c k key fnn t S) (hf0 : 0 < t.fuel) (hm : ¬ c.most ≤ S.steps) {f : List Ins} (hf : c.fs[fnn]? = some f) {p : Nat} (hp : t.place = p) {x : Ins} (hx : Here c.fs c.futs f p x) (h9 : x.op ≠ 9) :
    StpSays c { t with fuel := t.fuel - 1, place := t.place + 1 } { S with steps := S.steps + 1 } x (oneM { t with fuel := t.fuel - 1, place := t.place + 1 } { S with steps := S.steps + 1 } x) ∧
    ((oneM { t with fuel := t.fuel - 1, place := t.place + 1 } { S with steps := S.steps + 1 } x).1.how = 0 → LInv c k key fnn (oneM { t with fuel := t.fuel - 1, place := t.place + 1 } { S with steps := S.steps + 1 } x).1 (oneM { t with fuel := t.fuel - 1, place := t.place + 1 } { S with steps := S.steps + 1 } x).2) ∧
    (oneM { t with fuel := t.fuel - 1, place := t.place + 1 } { S with steps := S.steps + 1 } x).1.fuel = t.fuel - 1 := by
  have hv0 : t.val = 0 := h.vok.1 (by rw [h.how]; decide)
  obtain ⟨g1, g2, g3⟩ := rok_next (S := { S with steps := S.steps + 1 }) hcf.pv h.rok hf0 (h.fn) hf hp hx
  obtain ⟨s, _⟩ := one_stay { t with fuel := t.fuel - 1, place := t.place + 1 } { S with steps := S.steps + 1 } x
  obtain ⟨e1, e2, e3, e4⟩ := one_S { t with fuel := t.fuel - 1, place := t.place + 1 } { S with steps := S.steps + 1 } x
  have hvk : VOk (oneM { t with fuel := t.fuel - 1, place := t.place + 1 } { S with steps := S.steps + 1 } x).1 := vok_one (t := { t with fuel := t.fuel - 1, place := t.place + 1 }) ⟨h.vok.1, h.vok.2⟩ h.how
  refine ⟨StepSays.stp (step_any c { t with fuel := t.fuel - 1, place := t.place + 1 } { S with steps := S.steps + 1 } x f.length hx.2.2.1 h9 h.how hv0 h.vok.2) (e4.trans h.over), fun h0 => ?_, g2⟩
  refine ⟨g1, hvk, sok_one (sok_step h.sok hm), h0, e4.trans h.over, by rw [g2]; have := h.fuel; omega, g3.trans h.key, s.fn.trans h.fn, by rw [s.forks]; exact h.forks, ?_⟩
  intro y hy
  rw [e1] at hy
  rw [s.key, s.forks]
  exact h.pre y hy
/-- A fork. -/
theorem next_fork (c : Mc) (hcf : EvC c) {n k : Nat} {key : Int} {fnn : Nat} {t : RT} {S : RS} (ih : RunSays c n) (h : LInv c k key fnn t S) (hf0 : 0 < t.fuel) (hm : ¬ c.most ≤ S.steps) {f : List Ins} (hf : c.fs[fnn]? = some f) {p : Nat} (hp : t.place = p) {x : Ins} (hx : Here c.fs c.futs f p x) (h9 : x.op = 9)
    {res : RT × RS} (hev : (if c.depth ≤ dep t.key then evLoop c.fs c.depth c.fuel c.most n ({ t with fuel := t.fuel - 1, place := t.place + 1, how := 6 }) { S with steps := S.steps + 1 }
           else if 1000 ≤ t.forks then evLoop c.fs c.depth c.fuel c.most n ({ t with fuel := t.fuel - 1, place := t.place + 1, how := 9 }) { S with steps := S.steps + 1 }
           else match evLoop c.fs c.depth c.fuel c.most n (rt0 x.b (t.reg x.c) (child t.key (t.forks + 1)) c.fuel) { S with steps := S.steps + 1, forks := S.forks + 1 } with
             | none => none
             | some (u, S2) => evLoop c.fs c.depth c.fuel c.most n { t with fuel := t.fuel - 1, place := t.place + 1, forks := t.forks + 1, has := EvM.upd t.has x.a.toNat true, hh := EvM.upd t.hh x.a.toNat u.how, hv := EvM.upd t.hv x.a.toNat u.val } (finish u S2 (t.reg x.c))) = some res) :
    ∃ r : RT × RS, StpSays c { t with fuel := t.fuel - 1, place := t.place + 1 } { S with steps := S.steps + 1 } x r ∧ evLoop c.fs c.depth c.fuel c.most n r.1 r.2 = some res ∧ (r.1.how = 0 → r.2.over = false → LInv c k key fnn r.1 r.2) ∧ r.1.fuel = t.fuel - 1 := by
  have hv0 : t.val = 0 := h.vok.1 (by rw [h.how]; decide)
  have hpv := hcf.pv
  obtain ⟨hx1, hx2, hx3, hx4⟩ := hx
  obtain ⟨hok, -, -, hfn, -, -⟩ := hx3
  obtain ⟨op, xa, xb, xc⟩ := x
  simp only at h9 hfn
  subst h9
  unfold InsOk at hok
  simp only at hok
  obtain ⟨ha, hb, hc⟩ : Rg xa 4 ∧ Rg xb 12 ∧ Rg xc 8 := by
    rcases hok with ⟨e, _⟩ | ⟨e, _⟩ | ⟨e, _⟩ | ⟨e, _⟩ | ⟨_, ha, hb, hc⟩ | ⟨e, _⟩ | ⟨e, _⟩ | ⟨e, _⟩ | ⟨e, _⟩ | ⟨e, _⟩ | ⟨e, _⟩ <;> first | exact ⟨ha, hb, hc⟩ | (exfalso; omega)
  obtain ⟨a, rfl, ha⟩ := nat_of ha
  obtain ⟨b, rfl, hb⟩ := nat_of hb
  obtain ⟨d, rfl, hd⟩ := nat_of hc
  simp only [Int.toNat_natCast, RT.reg] at hev
  obtain ⟨hs1, hs2, hs3⟩ := sok_forks h.sok
  have hpl : p + 1 < f.length := by
    rcases hx4 with g | g | g
    · exact g
    · simp only at g; omega
    · simp only at g; omega
  by_cases h5 : c.depth ≤ dep t.key
  · rw [if_pos h5] at hev
    refine ⟨({ t with fuel := t.fuel - 1, place := t.place + 1, how := 6 }, { S with steps := S.steps + 1 }), ?_, hev, fun e => (by change (6 : Int) = 0 at e; cases e), rfl⟩
    exact step_fork c _ _ a b d _ rfl fun w B H hM hE hK => fork_too c { t with fuel := t.fuel - 1, place := t.place + 1 } { S with steps := S.steps + 1 } a b d w B H hM hE hv0 h.over 6 (Or.inl ⟨h5, rfl⟩)
  rw [if_neg h5] at hev
  by_cases h6 : 1000 ≤ t.forks
  · rw [if_pos h6] at hev
    refine ⟨({ t with fuel := t.fuel - 1, place := t.place + 1, how := 9 }, { S with steps := S.steps + 1 }), ?_, hev, fun e => (by change (9 : Int) = 0 at e; cases e), rfl⟩
    exact step_fork c _ _ a b d _ rfl fun w B H hM hE hK => fork_too c { t with fuel := t.fuel - 1, place := t.place + 1 } { S with steps := S.steps + 1 } a b d w B H hM hE hv0 h.over 9 (Or.inr ⟨h5, h6, rfl⟩)
  rw [if_neg h6] at hev
  cases hk : evLoop c.fs c.depth c.fuel c.most n (rt0 b (t.regs d) (child t.key (t.forks + 1)) c.fuel) { S with steps := S.steps + 1, forks := S.forks + 1 } with
  | none => rw [hk] at hev; cases hev
  | some q =>
    obtain ⟨u, S2⟩ := q
    rw [hk] at hev
    simp only at hev
    have hd5 : dep t.key < 5 := by have := hpv.dep1; omega
    have hbn := born (n := t.forks + 1) h.rok.key (by have := h.rok.forks; omega) (by omega) hd5
    obtain ⟨p1, p2⟩ := pre_kid hpv.dep1 hk h.rok.key h.rok.forks (by omega) hd5 h.pre (t.regs d)
    have hfl := hfn rfl
    refine ⟨({ t with fuel := t.fuel - 1, place := t.place + 1, forks := t.forks + 1, has := EvM.upd t.has a true, hh := EvM.upd t.hh a u.how, hv := EvM.upd t.hv a u.val }, finish u S2 (t.regs d)), ?_, hev, fun h0 ho => ?_, rfl⟩
    · refine step_fork c _ _ a b d _ rfl fun w B H hM hE hK => ?_
      refine fork_kid c { t with fuel := t.fuel - 1, place := t.place + 1 } { S with steps := S.steps + 1 } (finish u S2 (t.regs d)) a b d u.how u.val w B H hM hE hK h.how h5 hd5 h6 h.rok.forks hs1 (by show S.forks < 100000; have := hcf.most1; omega) (by omega) (by omega) h.rok.key fun w hM => ?_
      exact ih (k + 1) b (t.regs d) (child t.key (t.forks + 1)) _ u S2 hk (by omega) hbn.chk (sok_fork h.sok hm) h.over p1 w hM
    · have ho2 : S2.over = false := by
        cases e : S2.over
        · rfl
        · have e2 : finish u S2 (t.regs d) = S2 := by unfold finish; rw [e]; rfl
          change (finish u S2 (t.regs d)).over = false at ho
          rw [e2, e] at ho; cases ho
      have hu : u.how ≠ 0 := by
        rcases evLoop_ends hk with e | e
        · exact e
        · change S2.over = true at e; rw [ho2] at e; cases e
      refine ⟨⟨h.rok.key, by show 0 ≤ t.forks + 1; have := h.rok.forks; omega, by show 0 ≤ t.fuel - 1; omega, fun _ => ⟨fnn, p + 1, f, h.fn, hf, by show t.place + 1 = _; omega, hpl⟩⟩, ⟨fun _ => hv0, fun j hj => ?_⟩, sok_finish (evLoop_sok hk (sok_fork h.sok hm)), h.how, ho, by show t.fuel - 1 ≤ 500; have := h.fuel; omega, h.key, h.fn, by show t.forks + 1 ≤ 1000; omega, p2⟩
      change (if j = a then true else t.has j) = true at hj
      show (if j = a then u.how else t.hh j) ≠ 0
      by_cases e : j = a
      · rw [if_pos e]; exact hu
      · rw [if_neg e]; rw [if_neg e] at hj; exact h.vok.2 j hj
/-- Any step of a task under way: what it hands on. -/
theorem next_any (c : Mc) (hcf : EvC c) {n k : Nat} {key : Int} {fnn : Nat} {t : RT} {S : RS} (ih : RunSays c n) (h : LInv c k key fnn t S) {res : RT × RS} (hev : evLoop c.fs c.depth c.fuel c.most (n + 1) t S = some res) (hf0 : t.fuel ≠ 0) (hm : ¬ c.most ≤ S.steps) {f : List Ins} (hf : c.fs[fnn]? = some f) :
    ∃ (p : Nat) (x : Ins) (r : RT × RS), t.place = p ∧ f[p]? = some x ∧ p ≤ 40 ∧ StpSays c { t with fuel := t.fuel - 1, place := t.place + 1 } { S with steps := S.steps + 1 } x r ∧ evLoop c.fs c.depth c.fuel c.most n r.1 r.2 = some res ∧ (r.1.how = 0 → r.2.over = false → LInv c k key fnn r.1 r.2) ∧ r.1.fuel = t.fuel - 1 := by
  have hfp : 0 < t.fuel := by have := h.rok.fuel; omega
  obtain ⟨n', p, f', g1, g2, g3, g4⟩ := h.rok.place h.how
  obtain rfl : n' = fnn := by have := h.fn; omega
  obtain rfl : f' = f := by rw [g2] at hf; injection hf
  obtain ⟨x, hx⟩ := ins_here hcf.pv g2 g4
  have hia := insAt_of g1 g2 g3 hx.1
  unfold evLoop at hev
  rw [if_neg (by rw [h.how, h.over]; simp), if_neg hf0, if_neg hm, hia] at hev
  simp only at hev
  by_cases h9 : x.op = 9
  · rw [if_pos h9] at hev
    obtain ⟨r, r1, r2, r3, r4⟩ := next_fork c hcf ih h hfp hm g2 g3 hx h9 hev
    exact ⟨p, x, r, g3, hx.1, hx.2.1, r1, r2, r3, r4⟩
  · rw [if_neg h9] at hev
    obtain ⟨r1, r2, r3⟩ := next_one c hcf h hfp hm g2 g3 hx h9
    exact ⟨p, x, _, g3, hx.1, hx.2.1, r1, hev, fun h0 _ => r2 h0, r3⟩
end Go.Proofs.YtonndofbnhnkpaaGreat.Evl
namespace Go.Proofs.YtonndofbnhnkpaaGreat.Evl
open Go.RowKit Num KeyM KeyW StatW Blk VmA VmG Prg EvM Rf
/-- The loop's body. -/
def lpOf (f : Func) : Code := .seq (.block 1 (.seq (.seq (nth 0 (nth 0 (rnd f))) (nth 1 (nth 0 (rnd f)))) (.seq (.seq (nth 0 (nth 1 (rnd f))) (nth 1 (nth 1 (rnd f)))) (.seq (nth 2 (rnd f)) (nth 3 (rnd f)))))) (nth 1 (inL (nth 6 (bodyOf f))))
theorem body71 : bodyOf Tryz.f18 = .seq (nth 0 (bodyOf Tryz.f18)) (.seq (nth 1 (bodyOf Tryz.f18)) (.seq (nth 2 (bodyOf Tryz.f18)) (.seq (nth 3 (bodyOf Tryz.f18)) (.seq (nth 4 (bodyOf Tryz.f18)) (.seq (nth 5 (bodyOf Tryz.f18)) (.block 0 (.loop (lpOf Tryz.f18)))))))) := by kernel_rfl
/-- A function's instructions in memory, below block K. -/
def FnHere (K : Nat) (w : World) (fa : Option Addr) (f : List Ins) : Prop := ∀ (j : Nat) (x : Ins), f[j]? = some x → ∃ b' off', fa = some ⟨b', off', none⟩ ∧ b' < K ∧ w.cell? ⟨b', off' + j * 4, none⟩ = some (.int .i64 x.op) ∧ w.cell? ⟨b', off' + j * 4 + 1, none⟩ = some (.int .i64 x.a) ∧
  w.cell? ⟨b', off' + j * 4 + 2, none⟩ = some (.int .i64 x.b) ∧ w.cell? ⟨b', off' + j * 4 + 3, none⟩ = some (.int .i64 x.c)
theorem FnHere.later {K : Nat} {S : Nat → Prop} {w w' : World} {fa : Option Addr} {f : List Ins} (h : FnHere K w fa f) (hc : Ch S w w') (hs : ∀ i, i < K → ¬ S i) : FnHere K w' fa f := fun j x hx => by
  obtain ⟨b', off', g1, g2, g3, g4, g5, g6⟩ := h j x hx
  exact ⟨b', off', g1, g2, hc.cell g3 (hs _ g2), hc.cell g4 (hs _ g2), hc.cell g5 (hs _ g2), hc.cell g6 (hs _ g2)⟩
theorem mvs_lt {c : Mc} {w : World} {S : RS} (h : IsM c w S) : ∀ k, Mvs c k → k < w.heap.size := by
  obtain ⟨h1, h2, h3, h4, ⟨es, clk, h5, h6⟩, h7⟩ := h
  rintro k (rfl | rfl | rfl | rfl)
  · exact h1.lt
  · rcases Nat.lt_or_ge c.R w.heap.size with g | g
    · exact g
    · rw [Array.getElem?_eq_none g] at h5; cases h5
  · exact h2.lt
  · exact h3.lt
theorem mvs_far {c : Mc} {w : World} {S : RS} (h : IsM c w S) : ∀ k, Mvs c k → c.K ≤ k := by
  obtain ⟨f1, f2, f3, f4⟩ := h.far
  rintro k (rfl | rfl | rfl | rfl) <;> assumption
/-- The world while a task is under way: its own blocks lie at N and behind. -/
structure Wn (c : Mc) (w0 w : World) (S : RS) (N : Nat) (key fn arg : Int) : Prop where
  m : IsM c w S
  ch : Ch (Mvs c) w0 w
  p : w.cell? ⟨N, 0, none⟩ = some (.pointer (some ⟨c.M, 0, none⟩))
  k : w.cell? ⟨N + 1, 0, none⟩ = some (.int .i64 key)
  f : w.cell? ⟨N + 2, 0, none⟩ = some (.int .i64 fn)
  a : w.cell? ⟨N + 3, 0, none⟩ = some (.int .i64 arg)
  e : w.rowIs (N + 4) 29 2 (two (.int .i64 0) (.int .i64 0))
theorem Wn.later {c : Mc} {w0 w w' : World} {S S' : RS} {N : Nat} {key fn arg : Int} (h : Wn c w0 w S N key fn arg) (hN : w0.heap.size ≤ N) (hlt : ∀ k, Mvs c k → k < N) (hm : IsM c w' S') (hc : Ch (fun k => Mvs c k ∨ k = N + 5) w w') : Wn c w0 w' S' N key fn arg := by
  have no : ∀ j, j < 5 → ¬ (Mvs c (N + j) ∨ N + j = N + 5) := fun j hj e => by
    rcases e with e | e
    · have := hlt _ e; omega
    · omega
  refine ⟨hm, h.ch.then hc (fun i hi e => e.elim id (fun e => by omega)), hc.cell h.p (no 0 (by decide)), hc.cell h.k (no 1 (by decide)), hc.cell h.f (no 2 (by decide)), hc.cell h.a (no 3 (by decide)), hc.row h.e (no 4 (by decide))⟩
theorem Wn.bl {c : Mc} {w0 w w' : World} {S : RS} {N : Nat} {key fn arg : Int} (h : Wn c w0 w S N key fn arg) (hb : Bl w w') : Wn c w0 w' S N key fn arg :=
  have hc : Ch (fun _ => False) w w' := Ch.of_bl hb
  ⟨h.m.bl hb, h.ch.trans (Ch.of_bl hb), hc.cell h.p id, hc.cell h.k id, hc.cell h.f id, hc.cell h.a id, row_bl h.e hb⟩
abbrev RdA (a : Act) (N : Nat) : Prop := RnA a [closeV N (N + 1) (N + 2) (N + 3) (N + 4)] N (N + 1) (N + 2) (N + 3) (N + 4)
abbrev RdC (a : Act) (N : Nat) (code : Value) (place fuel : Int) : Prop := RnC a [closeV N (N + 1) (N + 2) (N + 3) (N + 4)] N (N + 1) (N + 2) (N + 3) (N + 4) (N + 5) code place fuel
theorem run_loop (c : Mc) (hcf : EvC c) (n0 : Nat) (ih : ∀ m, m < n0 → RunSays c m) (w0 : World) (k N : Nat) (key arg : Int) (fnn : Nat) (f : List Ins) (hf : c.fs[fnn]? = some f) (fa : Option Addr) (fc : Nat) (u : RT) (S2 : RS) (Q : Exit → Act → World → Prop)
    (hN : w0.heap.size ≤ N) (hlt : ∀ k, Mvs c k → k < N) (hKN : c.K ≤ N)
    (hstop : ∀ (a' : Act) (w' : World), RdA a' N → S2.over = false → Wn c w0 w' S2 N key fnn arg → Q (.panic [{ v := stopV u.how u.val, recovered := false }]) a' w')
    (hover : ∀ (a' : Act) (w' : World) (l : List PanicEntry), RdA a' N → S2.over = true → NoG l → Wn c w0 w' S2 N key fnn arg → Q (.panic ({ v := overV, recovered := false } :: l)) a' w') :
    ∀ (n : Nat) (t : RT) (S : RS) (a : Act) (w : World), n ≤ n0 → evLoop c.fs c.depth c.fuel c.most n t S = some (u, S2) → LInv c k key fnn t S → RdC a N (.slice fa f.length fc) t.place t.fuel → Wn c w0 w S N key fnn arg → FnHere c.K w fa f → (∃ H, IsE c w (N + 5) t H) → Code.rounds Tryz.prog (lpOf Tryz.f18) Q n a w := by
  intro n
  induction n with
  | zero => intro t S a w _ h; simp [evLoop] at h
  | succ n ihn =>
    intro t S a w hn hev hI ha hW hF hE
    obtain ⟨H, hE⟩ := hE
    have hv0 : t.val = 0 := hI.vok.1 (by rw [hI.how]; decide)
    rw [rounds_succ]
    unfold lpOf
    refine seq_then fun K1 g1 => ?_
    refine wp_block ?_
    refine seq_then fun K2 g2 => ?_
    refine seq_then fun K3 g3 => ?_
    refine run_r7 w _ _ _ _ _ _ _ _ _ _ a _ ha fun a1 ha1 h40 => g3 _ _ ?_
    by_cases hf0 : t.fuel = 0
    · refine run_c8y w _ _ _ _ _ _ _ _ _ _ a1 _ ha1 (by rw [h40, hf0]; rfl) fun a2 ha2 => ?_
      have e : (u, S2) = (t.ends 5, S) := by
        unfold evLoop at hev
        rw [if_neg (by rw [hI.how, hI.over]; simp), if_pos hf0] at hev
        injection hev with hev
        exact hev.symm
      injection e with e1 e2
      subst e1 e2
      have := hstop a2 w ha2 hI.over hW
      change Q (.panic [{ v := stopV 5 t.val, recovered := false }]) a2 w at this
      rw [hv0] at this
      exact this
    refine run_c8 w a1 _ (by rw [h40]; simp [hf0]) (g2 _ _ ?_)
    refine seq_then fun K4 g4 => ?_
    refine seq_then fun K5 g5 => ?_
    refine run_r9 w _ _ _ _ _ _ _ _ _ _ a1 _ ha1 c.M S.steps c.most hW.p (hW.m.row.cell (i := 10) (by omega)) (hW.m.row.cell (i := 4) (by omega)) fun a2 ha2 h52 => g5 _ _ ?_
    have hb : Bl w w.drew := Bl.drew (Bl.refl _)
    have hW1 := hW.bl hb
    by_cases hm : c.most ≤ S.steps
    · refine run_c10y w.drew _ _ _ _ _ _ _ _ _ _ a2 _ ha2 (by rw [h52]; simp [hm]) fun a3 ha3 => ?_
      have e : (u, S2) = (t, { S with over := true }) := by
        unfold evLoop at hev
        rw [if_neg (by rw [hI.how, hI.over]; simp), if_neg hf0, if_pos hm] at hev
        injection hev with hev
        exact hev.symm
      injection e with e1 e2
      subst e1 e2
      exact hover a3 w.drew [] ha3 rfl (fun p hp => by cases hp) ⟨⟨hW1.m.row, hW1.m.fut, hW1.m.was, hW1.m.code, hW1.m.map, hW1.m.far⟩, hW1.ch, hW1.p, hW1.k, hW1.f, hW1.a, hW1.e⟩
    refine run_c10 w.drew a2 _ (by rw [h52]; simp [hm]) (g4 _ _ ?_)
    obtain ⟨hs1, hs2, hs3⟩ := sok_forks hI.sok
    refine seq_then fun K6 g6 => ?_
    refine run_r11 w.drew _ _ _ _ _ _ _ _ _ _ a2 _ ha2 c.M S.steps _ hW1.m.row hW1.p (hW1.m.row.cell (i := 10) (by omega)) hs3 (by have := hcf.most1; omega) fun a3 ha3 => g6 _ _ ?_
    have hc2 : Ch (Mvs c) w.drew (w.drew.setCell ⟨c.M, 10, none⟩ (.int .i64 (S.steps + 1))) := (Ch.refl _ _).set (Or.inl (Or.inl rfl)) _
    have hM2 := isM_steps hW1.m (S.steps + 1)
    have hE2 := (hE.bl hb).on hW1.m hc2
    have hW2 := hW1.later hN hlt hM2 (hc2.mono fun _ _ e => Or.inl e)
    have hfar := mvs_far hW1.m
    have hF2 := (hF.later (S := Mvs c) (Ch.of_bl hb) (fun i hi e => by have := hfar i e; omega)).later hc2 (fun i hi e => by have := hfar i e; omega)
    generalize w.drew.setCell ⟨c.M, 10, none⟩ (.int .i64 (S.steps + 1)) = w2 at *
    obtain ⟨p, x, r, hp, hx, hp40, hS, hev2, hI2, hfu⟩ := next_any c hcf (ih n (by omega)) hI hev hf0 hm hf
    obtain ⟨b', off', hfa, hbK, d0, d1, d2, d3⟩ := hF2 p x hx
    subst hfa
    rw [hp] at ha3
    refine run_r12 w2 _ _ _ _ _ _ b' off' p f.length fc x t.fuel _ a3 _ ha3 (List.getElem?_eq_some_iff.1 hx).1 (by omega) d0 d1 d2 d3 ?_
    have hC := hS w2 (N + 5) H hM2 ⟨hE2.row, hE2.hands⟩ (by omega)
    simp only [hp] at hC
    refine hC.mono fun e w3 hp3 => ?_
    have hW3 := hW2.later hN hlt hp3.m hp3.ch
    have hF3 := hF2.later hp3.ch (fun i hi e => by
      rcases e with e | e
      · have := hfar i e; omega
      · omega)
    cases ho : r.2.over
    · by_cases h0 : r.1.how = 0
      · obtain ⟨he, H', hE3⟩ := hp3.ok h0 ho
        refine Or.inl ⟨r.1.place, he, fun a4 ha4 => g1 _ _ ?_⟩
        refine run_r6 w3 _ _ _ _ _ _ _ _ _ _ a4 _ ha4 (by have := hI.rok.fuel; omega) (by have := hI.fuel; omega) fun a5 ha5 => ?_
        rw [← hfu] at ha5
        exact ihn r.1 r.2 a5 w3 (by omega) hev2 (hI2 h0 ho) ha5 hW3 hF3 ⟨H', hE3⟩
      · have hd := evLoop_done hev2 (Or.inl h0)
        injection hd with hd1 hd2
        subst hd1 hd2
        exact Or.inr ⟨_, hp3.bad h0 ho, fun a4 ha4 => hstop a4 w3 ha4 ho hW3⟩
    · have hd := evLoop_done hev2 (Or.inr ho)
      injection hd with hd1 hd2
      subst hd1 hd2
      obtain ⟨l, hl, he⟩ := hp3.over ho
      exact Or.inr ⟨_, he, fun a4 ha4 => hover a4 w3 l ha4 ho hl hW3⟩
end Go.Proofs.YtonndofbnhnkpaaGreat.Evl
namespace Go.Proofs.YtonndofbnhnkpaaGreat.Evl
open Go.RowKit Num KeyM KeyW StatW Blk VmA VmG Prg EvM Rf
theorem box1 (w : World) (v : Value) (t : TypeId) : (w.alloc (.cells #[v] t)).rowIs w.heap.size t 1 (fun _ => v) := World.rowIs_alloc w #[v] t _ (fun i hi => by
  have hi : i < 1 := hi
  obtain rfl : i = 0 := by omega
  rfl)
theorem w5_size (w : World) (M : Nat) (key fn arg : Int) : (w5 w M key fn arg).heap.size = w.heap.size + 5 := by unfold w5; simp
theorem w5_wn {c : Mc} {w : World} {S : RS} (h : IsM c w S) (key fn arg : Int) : Wn c w (w5 w c.M key fn arg) S w.heap.size key fn arg := by
  have hb : Bl w (w5 w c.M key fn arg) := (((((Bl.refl w).alloc _).alloc _).alloc _).alloc _).alloc _
  have r0 := box1 w (.pointer (some ⟨c.M, 0, none⟩)) 55
  have r1 := box1 (w.alloc (.cells #[.pointer (some ⟨c.M, 0, none⟩)] 55)) (.int .i64 key) 3
  have r2 := box1 ((w.alloc (.cells #[.pointer (some ⟨c.M, 0, none⟩)] 55)).alloc (.cells #[.int .i64 key] 3)) (.int .i64 fn) 3
  have r3 := box1 (((w.alloc (.cells #[.pointer (some ⟨c.M, 0, none⟩)] 55)).alloc (.cells #[.int .i64 key] 3)).alloc (.cells #[.int .i64 fn] 3)) (.int .i64 arg) 3
  have r4 := World.rowIs_alloc ((((w.alloc (.cells #[.pointer (some ⟨c.M, 0, none⟩)] 55)).alloc (.cells #[.int .i64 key] 3)).alloc (.cells #[.int .i64 fn] 3)).alloc (.cells #[.int .i64 arg] 3)) #[.int .i64 0, .int .i64 0] 29 (two (.int .i64 0) (.int .i64 0)) (fun i hi => by
    have hi : i < 2 := hi
    (obtain rfl | rfl : i = 0 ∨ i = 1 := (by omega)) <;> rfl)
  have hs : ∀ (w : World) (o : Obj), (w.alloc o).heap.size = w.heap.size + 1 := fun w o => by simp
  simp only [hs] at r1 r2 r3 r4
  unfold w5
  exact ⟨h.bl hb, Ch.of_bl hb, ((((r0.alloc _).alloc _).alloc _).alloc _).cell (i := 0) (by decide), (((r1.alloc _).alloc _).alloc _).cell (i := 0) (by decide), ((r2.alloc _).alloc _).cell (i := 0) (by decide), (r3.alloc _).cell (i := 0) (by decide), r4⟩
theorem isE_new {c : Mc} (w : World) (fn arg key fuel : Int) (H : Nat → Nat) : IsE c ((w.alloc (.cells (e15 c.M key) 87)).drew.setCell ⟨w.heap.size, 2, none⟩ (.int .i64 (wrap32 arg))) w.heap.size (rt0 fn arg key fuel) H := by
  have h0 : IsE c (w.alloc (.cells (e15 c.M key) 87)).drew w.heap.size { rt0 fn arg key fuel with regs := fun _ => 0 } H :=
    ⟨World.rowIs.drew (World.rowIs_alloc w (e15 c.M key) 87 _ (by
      show ∀ i, i < 15 → _
      repeat refine all_lt ?_ rfl
      exact all_none)), fun i _ h => by cases h⟩
  exact h0.setReg 0 (by decide) (wrap32 arg)
theorem run_wp (c : Mc) (hcf : EvC c) (n : Nat) (ih : ∀ m, m < n → RunSays c m) (k fn : Nat) (arg key : Int) (S : RS) (u : RT) (S2 : RS) (hev : evLoop c.fs c.depth c.fuel c.most n (rt0 fn arg key c.fuel) S = some (u, S2)) (hfn : fn < c.fs.length) (hkey : chk key = true) (hsok : SOk k c.most S) (ho : S.over = false) (hpre : PreK (rt0 fn arg key c.fuel) S)
    (w : World) (hM : IsM c w S) (a : Act) (Q : Exit → Act → World → Prop) (hsz : a.tmps.size = 72) (hdf : a.defers = []) (t0 : a.tmps[0]? = some (.pointer (some ⟨c.M, 0, none⟩))) (t1 : a.tmps[1]? = some (.int .i64 key)) (t2 : a.tmps[2]? = some (.int .i64 fn)) (t3 : a.tmps[3]? = some (.int .i64 arg))
    (hstop : ∀ (a' : Act) (w' : World), RdA a' w.heap.size → S2.over = false → Wn c w w' S2 w.heap.size key fn arg → Q (.panic [{ v := stopV u.how u.val, recovered := false }]) a' w')
    (hover : ∀ (a' : Act) (w' : World) (l : List PanicEntry), RdA a' w.heap.size → S2.over = true → NoG l → Wn c w w' S2 w.heap.size key fn arg → Q (.panic ({ v := overV, recovered := false } :: l)) a' w') : (bodyOf Tryz.f18).wp Tryz.prog Q a w := by
  have hlt := mvs_lt hM
  have hfar := mvs_far hM
  have hKN : c.K ≤ w.heap.size := by have := hM.row.lt; have := hM.far.1; omega
  have hW := w5_wn hM key fn arg
  have hsz5 := w5_size w c.M key fn arg
  rw [body71]
  refine seq_then fun K1 g1 => ?_
  refine run_r0 c.M key fn arg w a _ hsz hdf t0 t1 t2 t3 fun a1 ha1 => g1 _ _ ?_
  generalize w5 w c.M key fn arg = w1 at *
  refine seq_then fun K2 g2 => ?_
  refine run_r1 c.M key w1 _ _ _ _ _ _ a1 _ ha1 hW.p hW.k fun a2 ha2 => g2 _ _ ?_
  have hE := isE_new (c := c) w1 fn arg key c.fuel (fun _ => 0)
  have hb2 : Bl w1 (w1.alloc (.cells (e15 c.M key) 87)) := (Bl.refl _).alloc _
  have hW2 := hW.bl hb2
  have hr2 := World.rowIs_alloc w1 (e15 c.M key) 87 (fun i => (e15 c.M key)[i]?.getD undef) (fun i hi => by rw [Array.getElem?_eq_getElem hi]; rfl)
  refine seq_then fun K3 g3 => ?_
  refine run_r2 arg _ (.int .i64 0) _ _ _ _ _ _ _ _ a2 _ ha2 hW2.a hr2 (hr2.cell (i := 2) (by show 2 < 15; decide)) fun a3 ha3 => g3 _ _ ?_
  have hW3 : Wn c w ((w1.alloc (.cells (e15 c.M key) 87)).drew.setCell ⟨w1.heap.size, 2, none⟩ (.int .i64 (wrap32 arg))) S w.heap.size key fn arg := by
    have hb3 : Bl (w1.alloc (.cells (e15 c.M key) 87)) (w1.alloc (.cells (e15 c.M key) 87)).drew := Bl.drew (Bl.refl _)
    have hW3 := hW2.bl hb3
    have hr3 : (w1.alloc (.cells (e15 c.M key) 87)).drew.rowIs w1.heap.size 87 15 _ := World.rowIs.drew hr2
    refine hW3.later (Nat.le_refl _) hlt (hW3.m.on hr3 (by decide) (by decide) (by decide) (by omega) ((Ch.refl _ _).setB _)) ?_
    exact (Ch.refl _ _).set (Or.inl (Or.inr hsz5)) _
  rw [hsz5] at ha3 hE hW3
  rw [hsz5]
  generalize (w1.alloc (.cells (e15 c.M key) 87)).drew.setCell ⟨w.heap.size + 5, 2, none⟩ (.int .i64 (wrap32 arg)) = w3 at *
  refine seq_then fun K4 g4 => ?_
  refine run_r3 w3 _ _ _ _ _ _ a3 _ ha3 fun a4 ha4 => g4 _ _ ?_
  obtain ⟨f, hf⟩ : ∃ f, c.fs[fn]? = some f := ⟨_, List.getElem?_eq_getElem hfn⟩
  obtain ⟨b, off, hpa, hbK, fa, fc, d0, hd⟩ := hW3.m.code fn f hf
  have cM : w3.cell? ⟨c.M, 0, none⟩ = some (.slice c.pa c.fs.length c.pc) := hW3.m.row.cell (i := 0) (by omega)
  rw [hpa] at cM
  refine seq_then fun K5 g5 => ?_
  refine run_r4 w3 _ _ _ _ _ _ c.M b off fn c.fs.length c.pc _ _ a4 _ ha4 hW3.p cM hW3.f hfn d0 fun a5 ha5 h10 => g5 _ _ ?_
  have hb4 : Bl w3 w3.drew := Bl.drew (Bl.refl _)
  have hW4 := hW3.bl hb4
  refine seq_then fun K6 g6 => ?_
  refine run_r5 w3.drew _ _ _ _ _ _ c.M c.fuel _ _ a5 _ ha5 h10 hW4.p (hW4.m.row.cell (i := 3) (by omega)) fun a6 ha6 => g6 _ _ ?_
  have hb5 : Bl w3 w3.drew.drew := Bl.drew (Bl.drew (Bl.refl _))
  refine wp_block ?_
  refine wp_loop_rounds n ?_
  have hF : FnHere c.K w3 fa f := hd
  have hpv := hcf.pv
  refine run_loop c hcf n ih w k w.heap.size key arg fn f hf fa fc u S2 (Exit.inBlock 0 Q) (Nat.le_refl _) hlt hKN (fun a' w' h1 h2 h3 => hstop a' w' h1 h2 h3) (fun a' w' l h1 h2 h3 h4 => hover a' w' l h1 h2 h3 h4) n (rt0 fn arg key c.fuel) S a6 w3.drew.drew (Nat.le_refl _) hev ?_ ha6 (hW3.bl hb5) (hF.later (S := Mvs c) (Ch.of_bl hb5) (fun i hi e => by have := hfar i e; omega)) ⟨_, hE.bl hb5⟩
  exact ⟨rok_new hpv rfl hfn hkey, vok_new _ _ _ _, hsok, rfl, ho, hpv.fuel1, rfl, rfl, by show (0 : Int) ≤ 1000; decide, hpre⟩
theorem res71 (a : Act) (w : World) (E : Nat) (how val : Int) (hsz : a.tmps.size = 72) (t8 : a.tmps[8]? = some (.pointer (some ⟨E, 0, none⟩))) (hE : w.rowIs E 29 2 (two (.int .i64 how) (.int .i64 val))) : (results Tryz.f18 a.tmps).run Tryz.prog w = .ok (.agg #[.int .i64 how, .int .i64 val]) w := by
  obtain ⟨_, t8'⟩ := get_of t8
  have c0 : w.cell? ⟨E, 0, none⟩ = some (.int .i64 how) := hE.cell (i := 0) (by omega)
  have c1 : w.cell? ⟨E, 1, none⟩ = some (.int .i64 val) := hE.cell (i := 1) (by omega)
  have lE := hE.lt
  simp [results, Tryz.results18, go_sem, hsz, t8', c0, c1, lE]
set_option maxRecDepth 100000 in
set_option maxHeartbeats 8000000 in
theorem run_step (c : Mc) (hcf : EvC c) (n : Nat) (ih : ∀ m, m < n → RunSays c m) : RunSays c n := by
  intro k fn arg key S u S2 hev hfn hkey hsok ho hpre w hM
  have hfar := mvs_far hM
  have hlt := mvs_lt hM
  have hpv := hcf.pv
  have hKN : c.K ≤ w.heap.size := by have := hM.row.lt; have := hM.far.1; omega
  go_enter_defers Tryz.func18, Tryz.ntmps18
  refine run_wp c hcf n ih k fn arg key S u S2 hev hfn hkey hsok ho hpre w hM _ _ rfl rfl rfl rfl rfl rfl (fun a' w' ha ho2 hW => ?_) (fun a' w' l ha ho2 hl hW => ?_)
  · show Leaves Tryz.prog Tryz.f18 a'.tmps _ a'.defers (.panicking _) w'
    rw [ha.dfs]
    unfold closeV
    obtain ⟨es, clk, hR, hIs⟩ := hW.m.map
    have hcM : w'.cell? ⟨c.M, 13, none⟩ = some (.map (some c.R)) := hW.m.row.cell (i := 13) (by omega)
    have hMN : c.M < w.heap.size := hlt _ (Or.inl rfl)
    have hfr := fresh hpv.dep1 hev hkey (Int.le_refl _) (by show (0 : Int) ≤ 1000; decide) (fun x hx => (hpre x hx).1)
    have huk : u.key = key ∧ u.fn = fn := evLoop_keep hev
    refine leaves_cons (by simp) rfl ((catch_stop (w.heap.size + 4) (w.heap.size + 1) (w.heap.size + 2) (w.heap.size + 3) w.heap.size c.M c.R u.how u.val key fn arg [] es clk _ w' hW.e hW.k hW.f hW.a hW.p hcM hR (mapIs_fresh hIs (by rw [← huk.1]; exact hfr)) ⟨by omega, by omega, by omega, by omega, by omega⟩).mono fun e u' w'' hp => ?_)
    obtain ⟨rfl, rfl, hE, hR2, hC⟩ := hp
    refine ⟨_, res71 a' w'' (w.heap.size + 4) u.how u.val ha.sz ha.t8 hE, ?_⟩
    have hfin : finish u S2 arg = { S2 with ran := EvM.put S2.ran ⟨key, fn, wrap32 arg, u.how, u.val⟩ } := by unfold finish; rw [ho2, huk.1, huk.2]; rfl
    have hm2 : MapIs (es.push ⟨.int .i64 key, .agg #[.int .i64 key, .int .i64 fn, .int .i64 (wrap32 arg), .int .i64 u.how, .int .i64 u.val], clk⟩) (clk + 1) (EvM.put S2.ran ⟨key, fn, wrap32 arg, u.how, u.val⟩) := mapIs_push hIs ⟨key, fn, wrap32 arg, u.how, u.val⟩
    have hM2 : IsM c w'' { S2 with ran := EvM.put S2.ran ⟨key, fn, wrap32 arg, u.how, u.val⟩ } := hW.m.put hW.e (by omega) hC hR2 hm2
    rw [hfin]
    exact ⟨fun _ => rfl, fun h => (by change S2.over = true at h; rw [ho2] at h; cases h), hM2, hW.ch.then hC (fun i hi e => by
      rcases e with e | e
      · omega
      · exact Or.inr (Or.inl e))⟩
  · show Leaves Tryz.prog Tryz.f18 a'.tmps _ a'.defers (.panicking _) w'
    rw [ha.dfs]
    unfold closeV
    refine leaves_cons (by simp) rfl ((catch_over (w.heap.size + 4) (w.heap.size + 1) (w.heap.size + 2) (w.heap.size + 3) w.heap.size l w').mono fun e u' w'' hp => ?_)
    obtain ⟨rfl, rfl, hb⟩ := hp
    have hfin : finish u S2 arg = S2 := by unfold finish; rw [ho2]; rfl
    rw [hfin]
    refine ⟨fun h => (by rw [ho2] at h; cases h), fun _ => ⟨{ v := overV, recovered := true } :: l, ?_, rfl⟩, hW.m.bl hb, hW.ch.trans (Ch.of_bl hb)⟩
    intro p hp
    rcases List.mem_cons.1 hp with rfl | hp
    · rfl
    · exact hl p hp
/-- A task's run, whatever the evaluator's fuel. -/
theorem run_says (c : Mc) (hcf : EvC c) (n : Nat) : RunSays c n := by
  induction n using Nat.strongRecOn with
  | _ n ih => exact run_step c hcf n ih
end Go.Proofs.YtonndofbnhnkpaaGreat.Evl
