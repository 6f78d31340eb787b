/- The law of trees: the pieces of its walk. The program's package eval: a program that may not run. The law of trees: what must come. The law of trees: plain Lean, and the whole. -/
import Derived.Test.YtonndofbnhnkpaaTreJ
import Derived.Test.YtonndofbnhnkpaaChkP
set_option linter.unusedVariables false
set_option linter.unusedSimpArgs false
set_option linter.unusedSectionVars false
namespace Go.Proofs.Ytonndofbnhnkpaa.Evl
open Go.RowKit Num KeyM KeyW StatW Blk VmA VmG Prg EvM Rf PutA CodA
def etL (f : Func) : Code := inK (nth 1 (nth 5 (bodyOf f)))
def etI (f : Func) : Code := inK (nth 1 (etL f))
structure EtA (a : Act) (w : Int) (d : Int) (m : Int) (x : Int) : Prop where
  sz : a.tmps.size = 103
  dfs : a.defers = []
  t9 : a.tmps[9]? = some (.int .i64 w)
  t10 : a.tmps[10]? = some (.int .i64 d)
  t11 : a.tmps[11]? = some (.int .i64 m)
  t12 : a.tmps[12]? = some (.int .i64 x)
structure EtB (a : Act) (w : Int) (d : Int) (m : Int) (x : Int) (Rb : Nat) (er : Int) : Prop where
  sz : a.tmps.size = 103
  dfs : a.defers = []
  t9 : a.tmps[9]? = some (.int .i64 w)
  t10 : a.tmps[10]? = some (.int .i64 d)
  t11 : a.tmps[11]? = some (.int .i64 m)
  t12 : a.tmps[12]? = some (.int .i64 x)
  t13 : a.tmps[13]? = some (.pointer (some ⟨Rb, 0, none⟩))
  t14 : a.tmps[14]? = some (.int .i64 er)
structure EtC (a : Act) (w : Int) (d : Int) (m : Int) (Rb : Nat) (er : Int) (S : Int) (T : Int) (X : Int) (N : Int) : Prop where
  sz : a.tmps.size = 103
  dfs : a.defers = []
  t9 : a.tmps[9]? = some (.int .i64 w)
  t10 : a.tmps[10]? = some (.int .i64 d)
  t11 : a.tmps[11]? = some (.int .i64 m)
  t13 : a.tmps[13]? = some (.pointer (some ⟨Rb, 0, none⟩))
  t14 : a.tmps[14]? = some (.int .i64 er)
  t15 : a.tmps[15]? = some (.int .i64 S)
  t16 : a.tmps[16]? = some (.int .i64 T)
  t17 : a.tmps[17]? = some (.int .i64 X)
  t18 : a.tmps[18]? = some (.int .i64 N)
structure EtD (a : Act) (w : Int) (d : Int) (m : Int) (Rb : Nat) (er : Int) (S : Int) (T : Int) (X : Int) (N : Int) (i : Int) : Prop where
  sz : a.tmps.size = 103
  dfs : a.defers = []
  t9 : a.tmps[9]? = some (.int .i64 w)
  t10 : a.tmps[10]? = some (.int .i64 d)
  t11 : a.tmps[11]? = some (.int .i64 m)
  t13 : a.tmps[13]? = some (.pointer (some ⟨Rb, 0, none⟩))
  t14 : a.tmps[14]? = some (.int .i64 er)
  t15 : a.tmps[15]? = some (.int .i64 S)
  t16 : a.tmps[16]? = some (.int .i64 T)
  t17 : a.tmps[17]? = some (.int .i64 X)
  t18 : a.tmps[18]? = some (.int .i64 N)
  t19 : a.tmps[19]? = some (.int .i64 i)
set_option maxRecDepth 100000 in
set_option maxHeartbeats 8000000 in
theorem et_r0 (v0 v1 v2 v3 : Value) (W : World) (a : Act) (Q : Exit → Act → World → Prop) (hsz : a.tmps.size = 103) (hdf : a.defers = []) (t0 : a.tmps[0]? = some v0) (t1 : a.tmps[1]? = some v1) (t2 : a.tmps[2]? = some v2) (t3 : a.tmps[3]? = some v3)
    (hQ : ∀ a' : Act, a'.tmps.size = 103 → a'.defers = [] → a'.tmps[0]? = some v0 → a'.tmps[1]? = some v1 → a'.tmps[2]? = some v2 → a'.tmps[3]? = some v3 → Q .normal a' W) : (nth 0 (bodyOf Try.f10)).wp Try.prog Q a W := by
  simp only [nth, bodyOf, Try.f10, Option.getD, inK]
  have HQ := Lib.hid hQ
  clear hQ
  go_wp2_with fail
  exact HQ.out _ (by simp [hsz]) (by first | rfl | exact hdf) (by simp [Array.getElem?_setIfInBounds, t0]) (by simp [Array.getElem?_setIfInBounds, t1]) (by simp [Array.getElem?_setIfInBounds, t2]) (by simp [Array.getElem?_setIfInBounds, t3])
set_option maxRecDepth 100000 in
set_option maxHeartbeats 8000000 in
theorem et_r1 (wide deep mul arg : Int) (W : World) (a : Act) (Q : Exit → Act → World → Prop) (hsz : a.tmps.size = 103) (hdf : a.defers = []) (t0 : a.tmps[0]? = some (.int .i64 wide)) (t1 : a.tmps[1]? = some (.int .i64 deep)) (t2 : a.tmps[2]? = some (.int .i64 mul)) (t3 : a.tmps[3]? = some (.int .i64 arg))
    (hQ : ∀ a' : Act, EtA a' (1 + wide % 3) (deep % 4) (mul % 3) (arg % 100) → Q .normal a' W) : (nth 1 (bodyOf Try.f10)).wp Try.prog Q a W := by
  simp only [nth, bodyOf, Try.f10, Option.getD, inK]
  obtain ⟨_, t0'⟩ := get_of t0
  obtain ⟨_, t1'⟩ := get_of t1
  obtain ⟨_, t2'⟩ := get_of t2
  obtain ⟨_, t3'⟩ := get_of t3
  have m0 := Int.emod_nonneg wide (b := 3) (by decide)
  have m1 := Int.emod_lt_of_pos wide (b := 3) (by decide)
  have HQ := Lib.hid hQ
  clear hQ
  go_wp2_with (first | (go_at_call 26; (first | (with_reducible refine (Val.place_any wide 3 W (by decide) (by decide)).mono ?_) | (with_reducible refine (Val.place_any deep 4 W (by decide) (by decide)).mono ?_) | (with_reducible refine (Val.place_any mul 3 W (by decide) (by decide)).mono ?_) | (with_reducible refine (Val.place_any arg 100 W (by decide) (by decide)).mono ?_)); rintro e w1 ⟨rfl, rfl⟩))
  exact HQ.out _ ⟨by simp [hsz], by first | rfl | exact hdf, by simp [Array.getElem?_setIfInBounds, hsz], by simp [Array.getElem?_setIfInBounds, hsz], by simp [Array.getElem?_setIfInBounds, hsz], by simp [Array.getElem?_setIfInBounds, hsz]⟩
set_option maxRecDepth 100000 in
set_option maxHeartbeats 8000000 in
theorem et_r2 (w : Int) (d : Int) (m : Int) (x : Int) (er : Int) (how val steps forks : Int) (over : Bool) (Y : Nat → World → World → Prop) (Z : Option Addr → Nat → Nat → World → Prop) (pn : Nat) (W : World) (a : Act) (Q : Exit → Act → World → Prop) (ha : EtA a w d m x) (hT : Calls Try.prog 43 #[.int .i64 w, .int .i64 d, .int .i64 m] W fun e w' => ∃ pa pc, e = .returned (.agg #[.slice pa pn pc, .int .i64 0, .int .i64 d, .int .i64 100]) ∧ Z pa pn pc w')
    (hE : ∀ pa pc w', Z pa pn pc w' → Calls Try.prog 42 #[.agg #[.slice pa pn pc, .int .i64 0, .int .i64 d, .int .i64 100], .int .i64 x, .int .i64 5000] w' fun e w'' => ∃ (ra fa wa : Option Addr) (rn rc fn fc wn wc : Nat), e = .returned (.tuple #[resAgg how val (.slice ra rn rc) (.slice fa fn fc) (.slice wa wn wc) steps forks over, .int .i64 er]) ∧ Y rn w' w'')
    (hQ : ∀ (a' : Act) (w' w'' : World) (ra fa wa : Option Addr) (rn rc fn fc wn wc : Nat), EtB a' w d m x w''.heap.size er → Y rn w' w'' → (∃ pa pc, Z pa pn pc w') → Q .normal a' (w''.alloc (.cells #[.int .i64 how, .int .i64 val, .slice ra rn rc, .slice fa fn fc, .slice wa wn wc, .int .i64 steps, .int .i64 forks, .bool over] 81))) : (nth 2 (bodyOf Try.f10)).wp Try.prog Q a W := by
  simp only [nth, bodyOf, Try.f10, Option.getD, inK]
  obtain ⟨hsz, hdf, t9, t10, t11, t12⟩ := ha
  obtain ⟨_, t9'⟩ := get_of t9
  obtain ⟨_, t10'⟩ := get_of t10
  obtain ⟨_, t11'⟩ := get_of t11
  obtain ⟨_, t12'⟩ := get_of t12
  unfold resAgg at hE
  have HT := Lib.hid hT
  have HE := Lib.hid hE
  clear hT hE
  have HQ := Lib.hid hQ
  clear hQ
  go_wp2_with fail
  refine HT.out.mono ?_
  rintro e w1 ⟨pa, pc, rfl, hz⟩
  have hE1 := HE.out pa pc w1 hz
  have HZ := Lib.hid hz
  clear hz
  go_wp2_with fail
  refine hE1.mono ?_
  rintro e w2 ⟨ra, fa, wa, rn, rc, fn, fc, wn, wc, rfl, hy⟩
  have HY := Lib.hid hy
  clear hy hE1
  go_wp2_with fail
  exact HQ.out _ w1 w2 ra fa wa rn rc fn fc wn wc ⟨by simp [hsz], by first | rfl | exact hdf, by simp [Array.getElem?_setIfInBounds, t9], by simp [Array.getElem?_setIfInBounds, t10], by simp [Array.getElem?_setIfInBounds, t11], by simp [Array.getElem?_setIfInBounds, t12], by simp [Array.getElem?_setIfInBounds, hsz], by simp [Array.getElem?_setIfInBounds, hsz]⟩ HY.out ⟨pa, pc, HZ.out⟩
set_option maxRecDepth 100000 in
set_option maxHeartbeats 8000000 in
theorem et_r3 (w d m x er : Int) (Rb : Nat) (W : World) (a : Act) (Q : Exit → Act → World → Prop) (ha : EtB a w d m x Rb er)
    (hQ : ∀ a' : Act, EtB a' w d m x Rb er → a'.tmps[15]? = some (.int .i64 x) → a'.tmps[16]? = some (.int .i64 1) → Q .normal a' W) : (nth 3 (bodyOf Try.f10)).wp Try.prog Q a W := by
  simp only [nth, bodyOf, Try.f10, Option.getD, inK]
  obtain ⟨hsz, hdf, t9, t10, t11, t12, t13, t14⟩ := ha
  obtain ⟨_, t12'⟩ := get_of t12
  have HQ := Lib.hid hQ
  clear hQ
  go_wp2_with fail
  exact HQ.out _ ⟨by simp [hsz], by first | rfl | exact hdf, by simp [Array.getElem?_setIfInBounds, t9], by simp [Array.getElem?_setIfInBounds, t10], by simp [Array.getElem?_setIfInBounds, t11], by simp [Array.getElem?_setIfInBounds, t12], by simp [Array.getElem?_setIfInBounds, t13], by simp [Array.getElem?_setIfInBounds, t14]⟩ (by simp [Array.getElem?_setIfInBounds, hsz]) (by simp [Array.getElem?_setIfInBounds, hsz])
set_option maxRecDepth 100000 in
set_option maxHeartbeats 8000000 in
theorem et_r4 (w d m x er : Int) (Rb : Nat) (W : World) (a : Act) (Q : Exit → Act → World → Prop) (ha : EtB a w d m x Rb er) (t15 : a.tmps[15]? = some (.int .i64 x)) (t16 : a.tmps[16]? = some (.int .i64 1))
    (hQ : ∀ a' : Act, EtC a' w d m Rb er x 1 x 1 → Q .normal a' W) : (nth 4 (bodyOf Try.f10)).wp Try.prog Q a W := by
  simp only [nth, bodyOf, Try.f10, Option.getD, inK]
  obtain ⟨hsz, hdf, t9, t10, t11, t12, t13, t14⟩ := ha
  obtain ⟨_, t12'⟩ := get_of t12
  have HQ := Lib.hid hQ
  clear hQ
  go_wp2_with fail
  exact HQ.out _ ⟨by simp [hsz], by first | rfl | exact hdf, by simp [Array.getElem?_setIfInBounds, t9], by simp [Array.getElem?_setIfInBounds, t10], by simp [Array.getElem?_setIfInBounds, t11], by simp [Array.getElem?_setIfInBounds, t13], by simp [Array.getElem?_setIfInBounds, t14], by simp [Array.getElem?_setIfInBounds, t15], by simp [Array.getElem?_setIfInBounds, t16], by simp [Array.getElem?_setIfInBounds, hsz], by simp [Array.getElem?_setIfInBounds, hsz]⟩
set_option maxRecDepth 100000 in
set_option maxHeartbeats 8000000 in
theorem et_r5 (w : Int) (d : Int) (m : Int) (Rb : Nat) (er : Int) (S : Int) (T : Int) (X : Int) (N : Int)  (W : World) (a : Act) (Q : Exit → Act → World → Prop) (ha : EtC a w d m Rb er S T X N) 
    (hQ : ∀ a' : Act, EtD a' w d m Rb er S T X N 0 → Q .normal a' W) : (nth 0 (nth 5 (bodyOf Try.f10))).wp Try.prog Q a W := by
  simp only [nth, bodyOf, Try.f10, Option.getD, inK]
  obtain ⟨hsz, hdf, t9, t10, t11, t13, t14, t15, t16, t17, t18⟩ := ha
  have HQ := Lib.hid hQ
  clear hQ
  go_wp2_with fail
  exact HQ.out _ ⟨by simp [hsz], by first | rfl | exact hdf, by simp [Array.getElem?_setIfInBounds, t9], by simp [Array.getElem?_setIfInBounds, t10], by simp [Array.getElem?_setIfInBounds, t11], by simp [Array.getElem?_setIfInBounds, t13], by simp [Array.getElem?_setIfInBounds, t14], by simp [Array.getElem?_setIfInBounds, t15], by simp [Array.getElem?_setIfInBounds, t16], by simp [Array.getElem?_setIfInBounds, t17], by simp [Array.getElem?_setIfInBounds, t18], by simp [Array.getElem?_setIfInBounds, hsz]⟩
set_option maxRecDepth 100000 in
set_option maxHeartbeats 8000000 in
theorem et_t (w : Int) (d : Int) (m : Int) (Rb : Nat) (er : Int) (S : Int) (T : Int) (X : Int) (N : Int) (i : Int)  (W : World) (a : Act) (Q : Exit → Act → World → Prop) (ha : EtD a w d m Rb er S T X N i) 
    (hQ : ∀ a' : Act, EtD a' w d m Rb er S T X N i → a'.tmps[42]? = some (.bool (decide (i < d))) → Q .normal a' W) : (nth 0 (nth 0 (etL Try.f10))).wp Try.prog Q a W := by
  simp only [nth, bodyOf, Try.f10, Option.getD, inK, etL]
  obtain ⟨hsz, hdf, t9, t10, t11, t13, t14, t15, t16, t17, t18, t19⟩ := ha
  obtain ⟨_, t10'⟩ := get_of t10
  obtain ⟨_, t19'⟩ := get_of t19
  have HQ := Lib.hid hQ
  clear hQ
  go_wp2_with fail
  exact HQ.out _ ⟨by simp [hsz], by first | rfl | exact hdf, by simp [Array.getElem?_setIfInBounds, t9], by simp [Array.getElem?_setIfInBounds, t10], by simp [Array.getElem?_setIfInBounds, t11], by simp [Array.getElem?_setIfInBounds, t13], by simp [Array.getElem?_setIfInBounds, t14], by simp [Array.getElem?_setIfInBounds, t15], by simp [Array.getElem?_setIfInBounds, t16], by simp [Array.getElem?_setIfInBounds, t17], by simp [Array.getElem?_setIfInBounds, t18], by simp [Array.getElem?_setIfInBounds, t19]⟩ (by simp [Array.getElem?_setIfInBounds, hsz])
theorem et_c (W : World) (a : Act) (Q : Exit → Act → World → Prop) (h : a.tmps[42]? = some (.bool true)) (hQ : Q .normal a W) : (nth 1 (nth 0 (etL Try.f10))).wp Try.prog Q a W := by
  simp only [nth, bodyOf, Try.f10, Option.getD, inK, etL]
  refine wp_cond (t := true) (by show a.tmps.getD 42 undef = _; rw [Array.getD_eq_getD_getElem?, h]; rfl) ?_
  simp only [if_true]
  go_wp2_with fail
  exact hQ
theorem et_cn (W : World) (a : Act) (Q : Exit → Act → World → Prop) (h : a.tmps[42]? = some (.bool false)) (hQ : Q (.exit 0) a W) : (nth 1 (nth 0 (etL Try.f10))).wp Try.prog Q a W := by
  simp only [nth, bodyOf, Try.f10, Option.getD, inK, etL]
  refine wp_cond_false (by show a.tmps.getD 42 undef = _; rw [Array.getD_eq_getD_getElem?, h]; rfl) ?_
  go_wp2_with fail
  exact hQ
set_option maxRecDepth 100000 in
set_option maxHeartbeats 8000000 in
theorem et_i (w : Int) (d : Int) (m : Int) (Rb : Nat) (er : Int) (S : Int) (T : Int) (X : Int) (N : Int) (i : Int)  (W : World) (a : Act) (Q : Exit → Act → World → Prop) (ha : EtD a w d m Rb er S T X N i) (h0 : 0 ≤ i) (h1 : i ≤ 100)
    (hQ : ∀ a' : Act, EtD a' w d m Rb er S T X N (i + 1) → Q .normal a' W) : (nth 2 (etL Try.f10)).wp Try.prog Q a W := by
  simp only [nth, bodyOf, Try.f10, Option.getD, inK, etL]
  obtain ⟨hsz, hdf, t9, t10, t11, t13, t14, t15, t16, t17, t18, t19⟩ := ha
  obtain ⟨_, t19'⟩ := get_of t19
  have HQ := Lib.hid hQ
  clear hQ
  go_wp2_with fail
  exact HQ.out _ ⟨by simp [hsz], by first | rfl | exact hdf, by simp [Array.getElem?_setIfInBounds, t9], by simp [Array.getElem?_setIfInBounds, t10], by simp [Array.getElem?_setIfInBounds, t11], by simp [Array.getElem?_setIfInBounds, t13], by simp [Array.getElem?_setIfInBounds, t14], by simp [Array.getElem?_setIfInBounds, t15], by simp [Array.getElem?_setIfInBounds, t16], by simp [Array.getElem?_setIfInBounds, t17], by simp [Array.getElem?_setIfInBounds, t18], by simp [Array.getElem?_setIfInBounds, hsz]⟩
set_option maxRecDepth 100000 in
set_option maxHeartbeats 8000000 in
theorem et_r8 (w : Int) (d : Int) (m : Int) (Rb : Nat) (er : Int) (S : Int) (T : Int) (X : Int) (N : Int) (i : Int)  (W : World) (a : Act) (Q : Exit → Act → World → Prop) (ha : EtD a w d m Rb er S T X N i) (h0 : 0 ≤ X * m) (h1 : X * m ≤ 1000000) (h2 : 0 ≤ N * w) (h3 : N * w ≤ 1000000)
    (hQ : ∀ a' : Act, EtD a' w d m Rb er S T (X * m) (N * w) i → Q .normal a' W) : (nth 0 (etI Try.f10)).wp Try.prog Q a W := by
  simp only [nth, bodyOf, Try.f10, Option.getD, inK, etL, etI]
  obtain ⟨hsz, hdf, t9, t10, t11, t13, t14, t15, t16, t17, t18, t19⟩ := ha
  obtain ⟨_, t9'⟩ := get_of t9
  obtain ⟨_, t11'⟩ := get_of t11
  obtain ⟨_, t17'⟩ := get_of t17
  obtain ⟨_, t18'⟩ := get_of t18
  have e1 : IntKind.i64.wrap (X * m) = X * m := by rw [IntKind.wrap_i64]; omega
  have e2 : IntKind.i64.wrap (N * w) = N * w := by rw [IntKind.wrap_i64]; omega
  have HQ := Lib.hid hQ
  clear hQ
  go_wp2_with fail
  exact HQ.out _ ⟨by simp [hsz], by first | rfl | exact hdf, by simp [Array.getElem?_setIfInBounds, t9], by simp [Array.getElem?_setIfInBounds, t10], by simp [Array.getElem?_setIfInBounds, t11], by simp [Array.getElem?_setIfInBounds, t13], by simp [Array.getElem?_setIfInBounds, t14], by simp [Array.getElem?_setIfInBounds, t15], by simp [Array.getElem?_setIfInBounds, t16], by simp [Array.getElem?_setIfInBounds, hsz], by simp [Array.getElem?_setIfInBounds, hsz], by simp [Array.getElem?_setIfInBounds, t19]⟩
set_option maxRecDepth 100000 in
set_option maxHeartbeats 8000000 in
theorem et_r9 (w : Int) (d : Int) (m : Int) (Rb : Nat) (er : Int) (S : Int) (T : Int) (X : Int) (N : Int) (i : Int)  (W : World) (a : Act) (Q : Exit → Act → World → Prop) (ha : EtD a w d m Rb er S T X N i) (h0 : 0 ≤ N * X) (h1 : N * X ≤ 1000000) (h2 : 0 ≤ S) (h3 : S ≤ 1000000) (h4 : 0 ≤ T) (h5 : T ≤ 1000000) (h6 : 0 ≤ N) (h7 : N ≤ 1000000)
    (hQ : ∀ a' : Act, EtD a' w d m Rb er (S + N * X) (T + N) X N i → Q .normal a' W) : (nth 1 (etI Try.f10)).wp Try.prog Q a W := by
  simp only [nth, bodyOf, Try.f10, Option.getD, inK, etL, etI]
  obtain ⟨hsz, hdf, t9, t10, t11, t13, t14, t15, t16, t17, t18, t19⟩ := ha
  obtain ⟨_, t15'⟩ := get_of t15
  obtain ⟨_, t16'⟩ := get_of t16
  obtain ⟨_, t17'⟩ := get_of t17
  obtain ⟨_, t18'⟩ := get_of t18
  have e1 : IntKind.i64.wrap (N * X) = N * X := by rw [IntKind.wrap_i64]; omega
  have e2 : IntKind.i64.wrap (S + N * X) = S + N * X := by rw [IntKind.wrap_i64]; omega
  have e3 : IntKind.i64.wrap (T + N) = T + N := by rw [IntKind.wrap_i64]; omega
  have HQ := Lib.hid hQ
  clear hQ
  go_wp2_with fail
  exact HQ.out _ ⟨by simp [hsz], by first | rfl | exact hdf, by simp [Array.getElem?_setIfInBounds, t9], by simp [Array.getElem?_setIfInBounds, t10], by simp [Array.getElem?_setIfInBounds, t11], by simp [Array.getElem?_setIfInBounds, t13], by simp [Array.getElem?_setIfInBounds, t14], by simp [Array.getElem?_setIfInBounds, hsz], by simp [Array.getElem?_setIfInBounds, hsz], by simp [Array.getElem?_setIfInBounds, t17], by simp [Array.getElem?_setIfInBounds, t18], by simp [Array.getElem?_setIfInBounds, t19]⟩
set_option maxRecDepth 100000 in
set_option maxHeartbeats 8000000 in
theorem et_r10 (w : Int) (d : Int) (m : Int) (Rb : Nat) (er : Int) (S : Int) (T : Int) (X : Int) (N : Int) (i : Int)  (W : World) (a : Act) (Q : Exit → Act → World → Prop) (ha : EtD a w d m Rb er S T X N i) 
    (hQ : ∀ a' : Act, EtD a' w d m Rb er S T X N i → a'.tmps[60]? = some (.bool (d == 0)) → Q .normal a' W) : (nth 0 (nth 6 (bodyOf Try.f10))).wp Try.prog Q a W := by
  simp only [nth, bodyOf, Try.f10, Option.getD, inK]
  obtain ⟨hsz, hdf, t9, t10, t11, t13, t14, t15, t16, t17, t18, t19⟩ := ha
  obtain ⟨_, t10'⟩ := get_of t10
  have HQ := Lib.hid hQ
  clear hQ
  go_wp2_with fail
  exact HQ.out _ ⟨by simp [hsz], by first | rfl | exact hdf, by simp [Array.getElem?_setIfInBounds, t9], by simp [Array.getElem?_setIfInBounds, t10], by simp [Array.getElem?_setIfInBounds, t11], by simp [Array.getElem?_setIfInBounds, t13], by simp [Array.getElem?_setIfInBounds, t14], by simp [Array.getElem?_setIfInBounds, t15], by simp [Array.getElem?_setIfInBounds, t16], by simp [Array.getElem?_setIfInBounds, t17], by simp [Array.getElem?_setIfInBounds, t18], by simp [Array.getElem?_setIfInBounds, t19]⟩ (by simp [Array.getElem?_setIfInBounds, hsz])
theorem et_c10 (W : World) (a : Act) (Q : Exit → Act → World → Prop) (h : a.tmps[60]? = some (.bool false)) (hQ : Q .normal a W) : (nth 1 (nth 6 (bodyOf Try.f10))).wp Try.prog Q a W := by
  simp only [nth, bodyOf, Try.f10, Option.getD, inK]
  refine wp_cond_false (by show a.tmps.getD 60 undef = _; rw [Array.getD_eq_getD_getElem?, h]; rfl) ?_
  go_wp2_with fail
  exact hQ
set_option maxRecDepth 100000 in
set_option maxHeartbeats 8000000 in
theorem et_c10y (w : Int) (d : Int) (m : Int) (Rb : Nat) (er : Int) (S : Int) (T : Int) (X : Int) (N : Int) (i : Int)  (W : World) (a : Act) (Q : Exit → Act → World → Prop) (ha : EtD a w d m Rb er S T X N i) (h : a.tmps[60]? = some (.bool true)) (he : er = 5)
    (hQ : ∀ (a' : Act) (w' : World), a'.tmps.size = 103 → a'.defers = [] → a'.tmps[8]? = some (.bool true) → Bl W w' → Q .ret a' w') : (nth 1 (nth 6 (bodyOf Try.f10))).wp Try.prog Q a W := by
  simp only [nth, bodyOf, Try.f10, Option.getD, inK]
  obtain ⟨hsz, hdf, t9, t10, t11, t13, t14, t15, t16, t17, t18, t19⟩ := ha
  obtain ⟨_, t14'⟩ := get_of t14
  subst he
  have HQ := Lib.hid hQ
  clear hQ
  refine wp_cond (t := true) (by show a.tmps.getD 60 undef = _; rw [Array.getD_eq_getD_getElem?, h]; rfl) ?_
  simp only [if_true]
  go_wp2_with (first | (go_at_call 44; refine (awake44 _).mono ?_; rintro e w9 ⟨rfl, hb9⟩))
  exact HQ.out _ _ (by simp [hsz]) (by first | rfl | exact hdf) (by simp [Array.getElem?_setIfInBounds, hsz]) hb9
set_option maxRecDepth 100000 in
set_option maxHeartbeats 8000000 in
theorem et_r12 (w : Int) (d : Int) (m : Int) (Rb : Nat) (er : Int) (S : Int) (T : Int) (X : Int) (N : Int) (i : Int) (A : Option Addr) (rn rc : Nat) (W : World) (a : Act) (Q : Exit → Act → World → Prop) (ha : EtD a w d m Rb er S T X N i) (he : er = 0) (c0 : W.cell? ⟨Rb, 0, none⟩ = some (.int .i64 1)) (c1 : W.cell? ⟨Rb, 1, none⟩ = some (.int .i64 S)) (c2 : W.cell? ⟨Rb, 2, none⟩ = some (.slice A rn rc)) (c6 : W.cell? ⟨Rb, 6, none⟩ = some (.int .i64 (T - 1))) (c7 : W.cell? ⟨Rb, 7, none⟩ = some (.bool false)) (hn : (rn : Int) = T) (hT0 : 0 ≤ T) (hT1 : T ≤ 1000000)
    (hQ : ∀ (a' : Act) (w' : World), a'.tmps.size = 103 → a'.defers = [] → a'.tmps[8]? = some (.bool true) → Bl W w' → Q .normal a' w') : (nth 7 (bodyOf Try.f10)).wp Try.prog Q a W := by
  simp only [nth, bodyOf, Try.f10, Option.getD, inK]
  obtain ⟨hsz, hdf, t9, t10, t11, t13, t14, t15, t16, t17, t18, t19⟩ := ha
  obtain ⟨_, t13'⟩ := get_of t13
  obtain ⟨_, t14'⟩ := get_of t14
  obtain ⟨_, t15'⟩ := get_of t15
  obtain ⟨_, t16'⟩ := get_of t16
  subst he
  have lR := lt_of_cell c0
  simp only at lR
  have e1 : IntKind.i64.wrap (T - 1) = T - 1 := by rw [IntKind.wrap_i64]; omega
  have HQ := Lib.hid hQ
  clear hQ
  go_wp2_with (first | (go_at_call 44; refine (awake44 _).mono ?_; rintro e w9 ⟨rfl, hb9⟩))
  exact HQ.out _ _ (by simp [hsz]) (by first | rfl | exact hdf) (by simp [Array.getElem?_setIfInBounds, hsz]) hb9
end Go.Proofs.Ytonndofbnhnkpaa.Evl
set_option linter.unusedVariables false
set_option linter.unusedSimpArgs false
set_option linter.unusedSectionVars false
namespace Go.Proofs.Ytonndofbnhnkpaa.Evl
open Go.RowKit Num KeyM KeyW StatW Blk VmA VmG Prg EvM Rf PutA CodA
set_option maxRecDepth 100000 in
set_option maxHeartbeats 8000000 in
theorem ev_c2y (arg most er : Int) (w : World) (Pb Rb Eb : Nat) (a : Act) (Q : Exit → Act → World → Prop) (ha : RxA a [] Pb Rb Eb arg most) (t8 : a.tmps[8]? = some (.int .i64 er)) (h : a.tmps[15]? = some (.bool true))
    (hr : w.rowIs Rb 81 8 (resV 0 0 (.slice none 0 0) (.slice none 0 0) (.slice none 0 0) 0 0 false)) (he : w.rowIs Eb 82 1 (fun _ => .int .i64 0)) (hne : Rb ≠ Eb)
    (hQ : ∀ (a' : Act) (w' : World), RxA a' [] Pb Rb Eb arg most → w'.rowIs Rb 81 8 (resV 0 0 (.slice none 0 0) (.slice none 0 0) (.slice none 0 0) 0 0 false) → w'.rowIs Eb 82 1 (fun _ => .int .i64 er) → Ch (fun k => k = Rb ∨ k = Eb) w w' → Q .ret a' w') : (nth 2 (nth 1 (bodyOf Try.f42))).wp Try.prog Q a w := by
  simp only [nth, bodyOf, Try.f42, Option.getD]
  obtain ⟨hsz, hdf, t1, t2, t3, t6, t7⟩ := ha
  obtain ⟨_, t8'⟩ := get_of t8
  obtain ⟨_, t6'⟩ := get_of t6
  obtain ⟨_, t7'⟩ := get_of t7
  have f0 := hr.frozen 0
  have f1 := hr.frozen 1
  have f2 := hr.frozen 2
  have f3 := hr.frozen 3
  have f4 := hr.frozen 4
  have f5 := hr.frozen 5
  have f6 := hr.frozen 6
  have f7 := hr.frozen 7
  have fe := he.frozen 0
  have d0 : w.cell? ⟨Rb, 0, none⟩ = some _ := hr.cell (i := 0) (by omega)
  have d1 : w.cell? ⟨Rb, 1, none⟩ = some _ := hr.cell (i := 1) (by omega)
  have d2 : w.cell? ⟨Rb, 2, none⟩ = some _ := hr.cell (i := 2) (by omega)
  have d3 : w.cell? ⟨Rb, 3, none⟩ = some _ := hr.cell (i := 3) (by omega)
  have d4 : w.cell? ⟨Rb, 4, none⟩ = some _ := hr.cell (i := 4) (by omega)
  have d5 : w.cell? ⟨Rb, 5, none⟩ = some _ := hr.cell (i := 5) (by omega)
  have d6 : w.cell? ⟨Rb, 6, none⟩ = some _ := hr.cell (i := 6) (by omega)
  have d7 : w.cell? ⟨Rb, 7, none⟩ = some _ := hr.cell (i := 7) (by omega)
  have de : w.cell? ⟨Eb, 0, none⟩ = some _ := he.cell (i := 0) (by omega)
  have lR := hr.lt
  have lE := he.lt
  have HR := Lib.hid hr
  have HE := Lib.hid he
  have HQ := Lib.hid hQ
  clear hQ hr he
  refine wp_cond (t := true) (by show a.tmps.getD 15 undef = _; rw [Array.getD_eq_getD_getElem?, h]; rfl) ?_
  simp only [if_true]
  go_wp2_with fail
  refine HQ.out _ _ ⟨by simp [hsz], by first | rfl | exact hdf, by simp [Array.getElem?_setIfInBounds, t1], by simp [Array.getElem?_setIfInBounds, t2], by simp [Array.getElem?_setIfInBounds, t3], by simp [Array.getElem?_setIfInBounds, t6], by simp [Array.getElem?_setIfInBounds, t7]⟩ ?_ ?_ ?_
  · refine row_setO ?_ hne _
    refine World.rowIs.congr ((((((((HR.out.set 0 _).set 1 _).set 2 _).set 3 _).set 4 _).set 5 _).set 6 _).set 7 _) ?_
    repeat refine all_lt ?_ rfl
    exact all_none
  · refine World.rowIs.congr (World.rowIs.set (f := fun _ => .int .i64 0) ?_ 0 _) ?_
    · repeat (first | with_reducible exact HE.out | with_reducible refine row_setO ?_ hne.symm _)
    · repeat refine all_lt ?_ rfl
      exact all_none
  · repeat (first | with_reducible exact Ch.refl _ _ | refine Ch.set ?_ (by first | exact Or.inl (Or.inl rfl) | exact Or.inl (Or.inr rfl)) _)
theorem res42e (a : Act) (w : World) (Rb Eb : Nat) (er : Int) (hsz : a.tmps.size = 80) (t6 : a.tmps[6]? = some (.pointer (some ⟨Rb, 0, none⟩))) (t7 : a.tmps[7]? = some (.pointer (some ⟨Eb, 0, none⟩)))
    (hr : w.rowIs Rb 81 8 (resV 0 0 (.slice none 0 0) (.slice none 0 0) (.slice none 0 0) 0 0 false)) (he : w.rowIs Eb 82 1 (fun _ => .int .i64 er)) :
    (results Try.f42 a.tmps).run Try.prog w = .ok (.tuple #[.agg #[.int .i64 0, .int .i64 0, .slice none 0 0, .slice none 0 0, .slice none 0 0, .int .i64 0, .int .i64 0, .bool false], .int .i64 er]) w := by
  obtain ⟨_, t6'⟩ := get_of t6
  obtain ⟨_, t7'⟩ := get_of t7
  have c0 : w.cell? ⟨Rb, 0, none⟩ = some (.int .i64 0) := hr.cell (i := 0) (by omega)
  have c1 : w.cell? ⟨Rb, 1, none⟩ = some (.int .i64 0) := hr.cell (i := 1) (by omega)
  have c2 : w.cell? ⟨Rb, 2, none⟩ = some (.slice none 0 0) := hr.cell (i := 2) (by omega)
  have c3 : w.cell? ⟨Rb, 3, none⟩ = some (.slice none 0 0) := hr.cell (i := 3) (by omega)
  have c4 : w.cell? ⟨Rb, 4, none⟩ = some (.slice none 0 0) := hr.cell (i := 4) (by omega)
  have c5 : w.cell? ⟨Rb, 5, none⟩ = some (.int .i64 0) := hr.cell (i := 5) (by omega)
  have c6 : w.cell? ⟨Rb, 6, none⟩ = some (.int .i64 0) := hr.cell (i := 6) (by omega)
  have c7 : w.cell? ⟨Rb, 7, none⟩ = some (.bool false) := hr.cell (i := 7) (by omega)
  have e0 : w.cell? ⟨Eb, 0, none⟩ = some (.int .i64 er) := he.cell (i := 0) (by omega)
  simp [results, Try.results42, go_sem, hsz, t6', t7', c0, c1, c2, c3, c4, c5, c6, c7, e0]
theorem ev_no_wp (pa : Option Addr) (n pc : Nat) (futs depth fuel arg most er : Int) (w : World) (a : Act) (Q : Exit → Act → World → Prop) (h0 : er ≠ 0)
    (hck : ∀ w', Bl w w' → Calls Try.prog 69 #[.agg #[.slice pa n pc, .int .i64 futs, .int .i64 depth, .int .i64 fuel]] w' fun e w'' => e = .returned (.int .i64 er) ∧ Bl w' w'')
    (hsz : a.tmps.size = 80) (hdf : a.defers = []) (t0 : a.tmps[0]? = some (.agg #[.slice pa n pc, .int .i64 futs, .int .i64 depth, .int .i64 fuel])) (t1 : a.tmps[1]? = some (.int .i64 arg)) (t2 : a.tmps[2]? = some (.int .i64 most))
    (hQ : ∀ (a' : Act) (w' : World), RxA a' [] w.heap.size (w.heap.size + 1) (w.heap.size + 2) arg most → w'.rowIs (w.heap.size + 1) 81 8 (resV 0 0 (.slice none 0 0) (.slice none 0 0) (.slice none 0 0) 0 0 false) → w'.rowIs (w.heap.size + 2) 82 1 (fun _ => .int .i64 er) → Bl w w' → Q .ret a' w') : (bodyOf Try.f42).wp Try.prog Q a w := by
  obtain ⟨p0, p1, p2, p3, p4⟩ := x3_rows w pa n pc futs depth fuel
  rw [body42]
  refine seq_then fun K1 g1 => ?_
  refine ev_r0 pa n pc futs depth fuel arg most w a _ hsz hdf t0 t1 t2 fun a1 ha1 => g1 _ _ ?_
  generalize x3 w pa n pc futs depth fuel = w1 at *
  refine seq_then fun K2 g2 => ?_
  refine seq_then fun K3 g3 => ?_
  refine ev_r1 pa n pc futs depth fuel arg most er w1 _ _ _ a1 _ ha1 p0 (hck w1 p3) fun a2 w2 ha2 h8 hb2 => g3 _ _ ?_
  refine seq_then fun K4 g4 => ?_
  refine ev_r2 arg most er w2 _ _ _ a2 _ ha2 h8 fun a3 ha3 h8' h15 => g4 _ _ ?_
  refine ev_c2y arg most er w2 _ _ _ a3 _ ha3 h8' (by rw [h15]; simpa using h0) (row_bl p1 hb2) (row_bl p2 hb2) (by omega) fun a4 w4 ha4 hr4 he4 hc4 => ?_
  exact hQ a4 w4 ha4 hr4 he4 (bl_ch (Bl.trans p3 hb2) hc4 (fun i hi e => by omega))
set_option maxRecDepth 100000 in
set_option maxHeartbeats 8000000 in
/-- A program that may not run. -/
theorem eval_no (pa : Option Addr) (n pc : Nat) (futs depth fuel arg most er : Int) (w : World) (h0 : er ≠ 0)
    (hck : ∀ w', Bl w w' → Calls Try.prog 69 #[.agg #[.slice pa n pc, .int .i64 futs, .int .i64 depth, .int .i64 fuel]] w' fun e w'' => e = .returned (.int .i64 er) ∧ Bl w' w'') :
    Calls Try.prog 42 #[.agg #[.slice pa n pc, .int .i64 futs, .int .i64 depth, .int .i64 fuel], .int .i64 arg, .int .i64 most] w fun e w' => e = .returned (.tuple #[resAgg 0 0 (.slice none 0 0) (.slice none 0 0) (.slice none 0 0) 0 0 false, .int .i64 er]) ∧ Bl w w' := by
  go_enter_defers Try.func42, Try.ntmps42
  refine ev_no_wp pa n pc futs depth fuel arg most er w _ _ h0 hck rfl rfl rfl rfl rfl fun a' w' ha hr he hb => ?_
  show Leaves Try.prog Try.f42 a'.tmps _ a'.defers .returning w'
  rw [ha.dfs]
  exact leaves_nil (res42e a' w' _ _ er ha.sz ha.t6 ha.t7 hr he) ⟨rfl, hb⟩
end Go.Proofs.Ytonndofbnhnkpaa.Evl
set_option linter.unusedVariables false
set_option linter.unusedSimpArgs false
set_option linter.unusedSectionVars false
namespace Go.Proofs.Ytonndofbnhnkpaa.Evl
open Go.RowKit Num KeyM KeyW StatW Blk VmA VmG Prg EvM Rf PutA CodA
theorem trF_ok {n : Nat} {b m : Int} {nf : Int} (h1 : 1 ≤ n) (h3 : n ≤ 3) (hb0 : 0 ≤ b) (hb : b < nf) (hb11 : b ≤ 11) (hm0 : 0 ≤ m) (hm2 : m ≤ 2) :
    1 ≤ (trF n b m).length ∧ (trF n b m).length ≤ 40 ∧ (∀ x ∈ trF n b m, InsIn nf 0 (trF n b m).length x) ∧ ∃ x, (trF n b m)[(trF n b m).length - 1]? = some x ∧ (x.op = 7 ∨ x.op = 15) := by
  obtain rfl | rfl | rfl : n = 1 ∨ n = 2 ∨ n = 3 := by omega
  · have e : trF 1 b m = [⟨1, 1, m, 0⟩, ⟨4, 2, 0, 1⟩, ⟨9, 0, b, 2⟩, ⟨10, 3, 0, 0⟩, ⟨2, 0, 0, 3⟩, ⟨15, 0, 0, 0⟩] := rfl
    rw [e]
    refine ⟨by simp, by simp, ?_, ⟨15, 0, 0, 0⟩, rfl, Or.inr rfl⟩
    intro x hx
    simp only [List.mem_cons, List.not_mem_nil, or_false] at hx
    rcases hx with rfl | rfl | rfl | rfl | rfl | rfl
    all_goals
      simp [InsIn, InsOk, Rg]
    all_goals omega
  · have e : trF 2 b m = [⟨1, 1, m, 0⟩, ⟨4, 2, 0, 1⟩, ⟨9, 0, b, 2⟩, ⟨9, 1, b, 2⟩, ⟨10, 3, 0, 0⟩, ⟨2, 0, 0, 3⟩, ⟨10, 3, 1, 0⟩, ⟨2, 0, 0, 3⟩, ⟨15, 0, 0, 0⟩] := rfl
    rw [e]
    refine ⟨by simp, by simp, ?_, ⟨15, 0, 0, 0⟩, rfl, Or.inr rfl⟩
    intro x hx
    simp only [List.mem_cons, List.not_mem_nil, or_false] at hx
    rcases hx with rfl | rfl | rfl | rfl | rfl | rfl | rfl | rfl | rfl
    all_goals
      simp [InsIn, InsOk, Rg]
    all_goals omega
  · have e : trF 3 b m = [⟨1, 1, m, 0⟩, ⟨4, 2, 0, 1⟩, ⟨9, 0, b, 2⟩, ⟨9, 1, b, 2⟩, ⟨9, 2, b, 2⟩, ⟨10, 3, 0, 0⟩, ⟨2, 0, 0, 3⟩, ⟨10, 3, 1, 0⟩, ⟨2, 0, 0, 3⟩, ⟨10, 3, 2, 0⟩, ⟨2, 0, 0, 3⟩, ⟨15, 0, 0, 0⟩] := rfl
    rw [e]
    refine ⟨by simp, by simp, ?_, ⟨15, 0, 0, 0⟩, rfl, Or.inr rfl⟩
    intro x hx
    simp only [List.mem_cons, List.not_mem_nil, or_false] at hx
    rcases hx with rfl | rfl | rfl | rfl | rfl | rfl | rfl | rfl | rfl | rfl | rfl | rfl
    all_goals
      simp [InsIn, InsOk, Rg]
    all_goals omega
theorem tr_pv {n d : Nat} {m : Int} (h1 : 1 ≤ n) (h3 : n ≤ 3) (hd1 : 1 ≤ d) (hd3 : d ≤ 3) (hm0 : 0 ≤ m) (hm2 : m ≤ 2) : PV (trees n d m) 0 d 100 := by
  have hl := trees_len n d m
  refine ⟨by omega, by omega, by decide, by decide, by omega, by omega, by decide, by decide, fun f hf => ?_⟩
  rw [hl]
  unfold trees at hf
  rcases List.mem_cons.1 hf with rfl | hf
  · exact trF_ok h1 h3 (by decide) (by omega) (by decide) hm0 hm2
  · obtain ⟨k, hk, rfl⟩ := List.mem_map.1 hf
    have hk := List.mem_range.1 hk
    split
    · refine ⟨by simp, by simp, fun x hx => ?_, ⟨15, 0, 0, 0⟩, rfl, Or.inr rfl⟩
      obtain rfl := List.mem_singleton.1 hx
      simp [InsIn, InsOk, Rg]
    · exact trF_ok h1 h3 (by omega) (by omega) (by omega) hm0 hm2
theorem tr_pu {n : Nat} {m : Int} (h1 : 1 ≤ n) (h3 : n ≤ 3) (hm0 : 0 ≤ m) (hm2 : m ≤ 2) : PU [trF n 1 m] 0 0 100 := by
  refine ⟨by simp, by simp, by decide, by decide, by decide, by decide, by decide, by decide, fun f hf => ?_⟩
  obtain rfl := List.mem_singleton.1 hf
  obtain ⟨a1, a2, a3, _⟩ := trF_ok (nf := 2) h1 h3 (b := 1) (by decide) (by decide) (by decide) hm0 hm2
  exact ⟨a1, a2, fun x hx => ⟨(a3 x hx).1, trivial⟩, trivial⟩
theorem code_bl2 {w w' : World} {A : Option Addr} {fs : List (List Ins)} (hC : CodeAt w.heap.size w A fs) (hb : Bl w w') : CodeAt w'.heap.size w' A fs :=
  Prg.CodeAt.mono (CodeAt.later (S := fun _ => False) hC (Ch.of_bl hb) (fun _ _ h => h)) hb.size
/-- The numbers of the law. -/
def wX (x m : Int) : Nat → Int
  | 0 => x
  | i + 1 => wX x m i * m
def wN (n : Nat) : Nat → Int
  | 0 => 1
  | i + 1 => wN n i * n
def wS (n : Nat) (x m : Int) : Nat → Int
  | 0 => x
  | i + 1 => wS n x m i + wN n (i + 1) * wX x m (i + 1)
def wT (n : Nat) : Nat → Int
  | 0 => 1
  | i + 1 => wT n i + wN n (i + 1)
structure WBnd (n : Nat) (x m : Int) (i : Nat) : Prop where
  x0 : 0 ≤ wX x m i
  x1 : wX x m i ≤ 1000000
  n0 : 0 ≤ wN n i
  n1 : wN n i ≤ 1000000
  s0 : 0 ≤ wS n x m i
  s1 : wS n x m i ≤ 1000000
  t0 : 0 ≤ wT n i
  t1 : wT n i ≤ 1000000
  p0 : 0 ≤ wN n i * wX x m i
  p1 : wN n i * wX x m i ≤ 1000000
theorem w_bnd {n i : Nat} {x m : Int} (h1 : 1 ≤ n) (h3 : n ≤ 3) (hm0 : 0 ≤ m) (hm2 : m ≤ 2) (hx0 : 0 ≤ x) (hx1 : x ≤ 99) (hi : i ≤ 3) : WBnd n x m i := by
  obtain rfl | rfl | rfl : m = 0 ∨ m = 1 ∨ m = 2 := by omega
  all_goals
    obtain rfl | rfl | rfl : n = 1 ∨ n = 2 ∨ n = 3 := by omega
    all_goals
      obtain rfl | rfl | rfl | rfl : i = 0 ∨ i = 1 ∨ i = 2 ∨ i = 3 := by omega
      all_goals
        refine ⟨?_, ?_, ?_, ?_, ?_, ?_, ?_, ?_, ?_, ?_⟩
        all_goals
          simp [wX, wN, wS, wT]
        all_goals omega
theorem addN_in {c : Int} (hc0 : 0 ≤ c) : ∀ (n : Nat) (r : Int), 0 ≤ r → r + n * c ≤ 1000000 → addN c n r = r + n * c
  | 0, r, _, _ => by simp [addN]
  | n + 1, r, hr, h => by
    unfold addN
    have hnc : ((n + 1 : Nat) : Int) * c = n * c + c := by rw [Int.natCast_add, Int.add_mul]; simp
    have hn0 : 0 ≤ (n : Int) * c := Int.mul_nonneg (by omega) hc0
    have e : Num.add r c = r + c := by rw [add_eq, w32_in _ (by omega) (by omega)]
    rw [e, addN_in hc0 n (r + c) (by omega) (by omega), hnc]; omega
theorem tvI_in {n : Nat} {m x : Int} (d : Nat) (hx0 : 0 ≤ x) (hx1 : x ≤ 1000000) (hm0 : 0 ≤ x * m) (hm1 : x * m ≤ 1000000) {c : Int} (hc : tvI n m d (x * m) = c) (hc0 : 0 ≤ c) (h : x + n * c ≤ 1000000) : tvI n m (d + 1) x = x + n * c := by
  unfold tvI
  have e1 : wrap32 x = x := w32_in _ (by omega) (by omega)
  have e2 : Num.mul x m = x * m := by rw [mul_eq, w32_in _ (by omega) (by omega)]
  rw [e1, e2, hc]
  exact addN_in hc0 n x hx0 h
theorem tv0 {n : Nat} {m x : Int} (hx0 : 0 ≤ x) (hx1 : x ≤ 1000000) : tvI n m 0 x = x := by unfold tvI; exact w32_in _ (by omega) (by omega)
theorem tv_all {n d : Nat} {x m : Int} (h1 : 1 ≤ n) (h3 : n ≤ 3) (hm0 : 0 ≤ m) (hm2 : m ≤ 2) (hx0 : 0 ≤ x) (hx1 : x ≤ 99) (hd1 : 1 ≤ d) (hd3 : d ≤ 3) : tvI n m d x = wS n x m d ∧ wT n d = (trN n d : Int) + 1 := by
  obtain rfl | rfl | rfl : d = 1 ∨ d = 2 ∨ d = 3 := by omega
  · obtain rfl | rfl | rfl : m = 0 ∨ m = 1 ∨ m = 2 := by omega
    all_goals
      obtain rfl | rfl | rfl : n = 1 ∨ n = 2 ∨ n = 3 := by omega
      all_goals
        refine ⟨?_, by simp [wT, wN, trN]⟩
        rw [tvI_in 0 hx0 (by omega) (by omega) (by omega) (tv0 (by omega) (by omega)) (by omega) (by omega)]
        simp [wS, wN, wX]
        try omega
  · obtain rfl | rfl | rfl : m = 0 ∨ m = 1 ∨ m = 2 := by omega
    all_goals
      obtain rfl | rfl | rfl : n = 1 ∨ n = 2 ∨ n = 3 := by omega
      all_goals
        refine ⟨?_, by simp [wT, wN, trN]⟩
        rw [tvI_in 1 hx0 (by omega) (by omega) (by omega) (tvI_in 0 (by omega) (by omega) (by omega) (by omega) (tv0 (by omega) (by omega)) (by omega) (by omega)) (by omega) (by omega)]
        simp [wS, wN, wX]
        try omega
  · obtain rfl | rfl | rfl : m = 0 ∨ m = 1 ∨ m = 2 := by omega
    all_goals
      obtain rfl | rfl | rfl : n = 1 ∨ n = 2 ∨ n = 3 := by omega
      all_goals
        refine ⟨?_, by simp [wT, wN, trN]⟩
        rw [tvI_in 2 hx0 (by omega) (by omega) (by omega) (tvI_in 1 (by omega) (by omega) (by omega) (by omega) (tvI_in 0 (by omega) (by omega) (by omega) (by omega) (tv0 (by omega) (by omega)) (by omega) (by omega)) (by omega) (by omega)) (by omega) (by omega)]
        simp [wS, wN, wX]
        try omega
theorem tr_ev {n d : Nat} (m a : Int) (h1 : 1 ≤ n) (h3 : n ≤ 3) (hd1 : 1 ≤ d) (hd3 : d ≤ 3) : TreE n d m a := by
  obtain rfl | rfl | rfl : n = 1 ∨ n = 2 ∨ n = 3 := by omega
  all_goals obtain rfl | rfl | rfl : d = 1 ∨ d = 2 ∨ d = 3 := by omega
  · exact tr_11 m a
  · exact tr_12 m a
  · exact tr_13 m a
  · exact tr_21 m a
  · exact tr_22 m a
  · exact tr_23 m a
  · exact tr_31 m a
  · exact tr_32 m a
  · exact tr_33 m a
def lpEt (f : Func) : Code := .seq (.seq (nth 0 (nth 0 (etL f))) (nth 1 (nth 0 (etL f)))) (.seq (.block 1 (.seq (nth 0 (etI f)) (nth 1 (etI f)))) (nth 2 (etL f)))
theorem body10 : bodyOf Try.f10 = .seq (nth 0 (bodyOf Try.f10)) (.seq (nth 1 (bodyOf Try.f10)) (.seq (nth 2 (bodyOf Try.f10)) (.seq (nth 3 (bodyOf Try.f10)) (.seq (nth 4 (bodyOf Try.f10)) (.seq (.seq (nth 0 (nth 5 (bodyOf Try.f10))) (.block 0 (.loop (lpEt Try.f10)))) (.seq (.seq (nth 0 (nth 6 (bodyOf Try.f10))) (nth 1 (nth 6 (bodyOf Try.f10)))) (.seq (nth 7 (bodyOf Try.f10)) .ret))))))) := by kernel_rfl
theorem et_loop (n dd : Nat) (m x er : Int) (Rb : Nat) (W : World) (Q : Exit → Act → World → Prop) (hb : ∀ i, i ≤ dd → WBnd n x m i) (hd : dd ≤ 3)
    (hQ : ∀ a' : Act, EtD a' n dd m Rb er (wS n x m dd) (wT n dd) (wX x m dd) (wN n dd) dd → Q (.exit 0) a' W) :
    ∀ (r i : Nat) (a : Act), i + r = dd → EtD a n dd m Rb er (wS n x m i) (wT n i) (wX x m i) (wN n i) i → Code.rounds Try.prog (lpEt Try.f10) Q (r + 1) a W := by
  intro r
  induction r with
  | zero =>
    intro i a hi ha
    rw [rounds_succ]
    unfold lpEt
    refine seq_then fun K1 g1 => ?_
    refine seq_then fun K2 g2 => ?_
    refine et_t n dd m Rb er _ _ _ _ i W a _ ha fun a1 ha1 h42 => g2 _ _ ?_
    obtain rfl : i = dd := by omega
    refine et_cn W a1 _ (by rw [h42]; simp) ?_
    exact hQ a1 ha1
  | succ r ih =>
    intro i a hi ha
    rw [rounds_succ]
    unfold lpEt
    refine seq_then fun K1 g1 => ?_
    refine seq_then fun K2 g2 => ?_
    refine et_t n dd m Rb er _ _ _ _ i W a _ ha fun a1 ha1 h42 => g2 _ _ ?_
    refine et_c W a1 _ (by rw [h42]; simp; omega) (g1 _ _ ?_)
    refine seq_then fun K3 g3 => ?_
    refine wp_block ?_
    refine seq_then fun K4 g4 => ?_
    have b0 := hb i (by omega)
    have b1 := hb (i + 1) (by omega)
    refine et_r8 n dd m Rb er _ _ _ _ i W a1 _ ha1 b1.x0 b1.x1 b1.n0 b1.n1 fun a2 ha2 => g4 _ _ ?_
    refine et_r9 n dd m Rb er _ _ _ _ i W a2 _ ha2 b1.p0 b1.p1 b0.s0 b0.s1 b0.t0 b0.t1 b1.n0 b1.n1 fun a3 ha3 => g3 _ _ ?_
    refine et_i n dd m Rb er _ _ _ _ i W a3 _ ha3 (by omega) (by omega) fun a4 ha4 => ?_
    exact ih (i + 1) a4 (by omega) ha4
theorem trees_wp (wide deep mul arg : Int) (w : World) (a : Act) (Q : Exit → Act → World → Prop) (hsz : a.tmps.size = 103) (hdf : a.defers = []) (t0 : a.tmps[0]? = some (.int .i64 wide)) (t1 : a.tmps[1]? = some (.int .i64 deep)) (t2 : a.tmps[2]? = some (.int .i64 mul)) (t3 : a.tmps[3]? = some (.int .i64 arg))
    (hQ : ∀ (a' : Act) (w' : World), a'.tmps.size = 103 → a'.defers = [] → a'.tmps[8]? = some (.bool true) → Bl w w' → Q .ret a' w') : (bodyOf Try.f10).wp Try.prog Q a w := by
  rw [body10]
  refine seq_then fun K1 g1 => ?_
  refine et_r0 _ _ _ _ w a _ hsz hdf t0 t1 t2 t3 fun a1 s1 d1 p0 p1 p2 p3 => g1 _ _ ?_
  refine seq_then fun K2 g2 => ?_
  refine et_r1 wide deep mul arg w a1 _ s1 d1 p0 p1 p2 p3 fun a2 ha2 => g2 _ _ ?_
  have m0 := Int.emod_nonneg wide (b := 3) (by decide)
  have m1 := Int.emod_lt_of_pos wide (b := 3) (by decide)
  have m2 := Int.emod_nonneg deep (b := 4) (by decide)
  have m3 := Int.emod_lt_of_pos deep (b := 4) (by decide)
  have m4 := Int.emod_nonneg mul (b := 3) (by decide)
  have m5 := Int.emod_lt_of_pos mul (b := 3) (by decide)
  have m6 := Int.emod_nonneg arg (b := 100) (by decide)
  have m7 := Int.emod_lt_of_pos arg (b := 100) (by decide)
  obtain ⟨n, hn⟩ : ∃ n : Nat, 1 + wide % 3 = n := ⟨(1 + wide % 3).toNat, by omega⟩
  obtain ⟨dd, hd⟩ : ∃ dd : Nat, deep % 4 = dd := ⟨(deep % 4).toNat, by omega⟩
  rw [hn, hd] at ha2
  generalize mul % 3 = m at *
  generalize arg % 100 = x at *
  have hn1 : 1 ≤ n := by omega
  have hn3 : n ≤ 3 := by omega
  have hd3 : dd ≤ 3 := by omega
  have hb : ∀ i, i ≤ dd → WBnd n x m i := fun i hi => w_bnd hn1 hn3 m4 (by omega) m6 (by omega) (by omega)
  have hT := tree_any n dd m w hn1 hn3 hd3
  clear hn hd m0 m1 m2 m3 t0 t1 t2 t3 p0 p1 p2 p3
  refine seq_then fun K3 g3 => ?_
  have hend : ∀ (er how val steps forks : Int) (over : Bool) (Y : Nat → World → World → Prop),
      (∀ pa pc w', CodeAt w'.heap.size w' pa (trees n dd m) → Calls Try.prog 42 #[.agg #[.slice pa (dd + 1) pc, .int .i64 0, .int .i64 dd, .int .i64 100], .int .i64 x, .int .i64 5000] w' fun e w'' => ∃ (ra fa wa : Option Addr) (rn rc fn fc wn wc : Nat), e = .returned (.tuple #[resAgg how val (.slice ra rn rc) (.slice fa fn fc) (.slice wa wn wc) steps forks over, .int .i64 er]) ∧ Y rn w' w'') →
      (∀ rn w' w'', Y rn w' w'' → Bl w' w'' ∧ ((dd = 0 ∧ er = 5) ∨ (dd ≠ 0 ∧ er = 0 ∧ how = 1 ∧ val = wS n x m dd ∧ over = false ∧ forks = wT n dd - 1 ∧ (rn : Int) = wT n dd))) →
      (nth 2 (bodyOf Try.f10)).wp Try.prog (Exit.then K3 Q) a2 w := by
    intro er how val steps forks over Y hE hY
    refine et_r2 n dd m x er how val steps forks over Y (fun pa pn pc w' => CodeAt w'.heap.size w' pa (trees n dd m) ∧ Bl w w') (dd + 1) w a2 _ ha2 (hT.mono fun e w' h => by
      obtain ⟨pa, pc, he, h1, h2⟩ := h
      exact ⟨pa, pc, he, h1, h2⟩) (fun pa pc w' hZ => hE pa pc w' hZ.1) (fun a3 w3 w4 ra fa wa rn rc fn fc wn wc ha3 hy hZ => g3 _ _ ?_)
    obtain ⟨_, _, _, hb3⟩ := hZ
    obtain ⟨hb4, hor⟩ := hY rn w3 w4 hy
    have hh := heap_alloc_new w4 (.cells #[.int .i64 how, .int .i64 val, .slice ra rn rc, .slice fa fn fc, .slice wa wn wc, .int .i64 steps, .int .i64 forks, .bool over] 81)
    have hB := Bl.alloc (Bl.trans hb3 hb4) (.cells #[.int .i64 how, .int .i64 val, .slice ra rn rc, .slice fa fn fc, .slice wa wn wc, .int .i64 steps, .int .i64 forks, .bool over] 81)
    have c0 := cell_of_row _ _ 0 _ 81 _ hh
    have c1 := cell_of_row _ _ 1 _ 81 _ hh
    have c2 := cell_of_row _ _ 2 _ 81 _ hh
    have c6 := cell_of_row _ _ 6 _ 81 _ hh
    have c7 := cell_of_row _ _ 7 _ 81 _ hh
    clear hh
    generalize w4.alloc (.cells #[.int .i64 how, .int .i64 val, .slice ra rn rc, .slice fa fn fc, .slice wa wn wc, .int .i64 steps, .int .i64 forks, .bool over] 81) = w5 at *
    generalize w4.heap.size = Rb at *
    refine seq_then fun K4 g4 => ?_
    refine et_r3 n dd m x er Rb w5 a3 _ ha3 fun a4 ha4 h15 h16 => g4 _ _ ?_
    refine seq_then fun K5 g5 => ?_
    refine et_r4 n dd m x er Rb w5 a4 _ ha4 h15 h16 fun a5 ha5 => g5 _ _ ?_
    refine seq_then fun K6 g6 => ?_
    refine seq_then fun K7 g7 => ?_
    refine et_r5 n dd m Rb er _ _ _ _ w5 a5 _ ha5 fun a6 ha6 => g7 _ _ ?_
    refine wp_block ?_
    refine wp_loop_rounds (dd + 1) ?_
    refine et_loop n dd m x er Rb w5 _ hb hd3 (fun a7 ha7 => ?_) dd 0 a6 (by omega) ha6
    show K6 a7 w5
    refine g6 _ _ ?_
    refine seq_then fun K8 g8 => ?_
    refine seq_then fun K9 g9 => ?_
    refine et_r10 n dd m Rb er _ _ _ _ _ w5 a7 _ ha7 fun a8 ha8 h60 => g9 _ _ ?_
    rcases hor with ⟨e1, e2⟩ | ⟨e1, e2, e3, e4, e5, e6, e7⟩
    · exact et_c10y n dd m Rb er _ _ _ _ _ w5 a8 _ ha8 (by rw [h60]; simp [e1]) e2 fun a9 w9 s9 d9 p9 b9 => hQ a9 w9 s9 d9 p9 (Bl.trans hB b9)
    · refine et_c10 w5 a8 _ (by rw [h60]; simpa using e1) (g8 _ _ ?_)
      refine seq_then fun K10 g10 => ?_
      refine et_r12 n dd m Rb er _ _ _ _ _ ra rn rc w5 a8 _ ha8 e2 (c0.trans (by rw [e3]; rfl)) (c1.trans (by rw [e4]; rfl)) c2 (c6.trans (by rw [e6]; rfl)) (c7.trans (by rw [e5]; rfl)) e7 (hb dd (Nat.le_refl _)).t0 (hb dd (Nat.le_refl _)).t1 fun a9 w9 s9 d9 p9 b9 => g10 _ _ ?_
      exact wp_ret (hQ a9 w9 s9 d9 p9 (Bl.trans hB b9))
  by_cases h0 : dd = 0
  · subst h0
    refine hend 5 0 0 0 0 false (fun _ w' w'' => Bl w' w'') (fun pa pc w' hC => ?_) (fun rn w' w'' h => ⟨h, Or.inl ⟨rfl, rfl⟩⟩)
    have e0 : trees n 0 m = [trF n 1 m] := by unfold trees; simp
    rw [e0] at hC
    obtain ⟨a1, a2', a3, a4⟩ := trF_ok (nf := 2) (b := 1) hn1 hn3 (by decide) (by decide) (by decide) m4 (show m ≤ 2 by omega)
    have hbad : ∃ x ∈ trF n 1 m, (!Chk.forkR 1 x) = true := by
      refine ⟨⟨9, 0, 1, 2⟩, ?_, rfl⟩
      obtain rfl | rfl | rfl : n = 1 ∨ n = 2 ∨ n = 3 := by omega
      all_goals simp [trF, List.range, List.range.loop]
    refine (eval_no pa 1 pc 0 0 100 x 5000 5 w' (by decide) fun w2 hw2 => Chk.check_no pa pc 0 0 100 (trF n 1 m) w2 (tr_pu hn1 hn3 m4 (by omega)) (code_bl2 hC hw2) a4 (fun y hy => ⟨(a3 y hy).2.1, (a3 y hy).2.2.1⟩) hbad).mono fun e w2 h => ?_
    exact ⟨none, none, none, 0, 0, 0, 0, 0, 0, h.1, h.2⟩
  · obtain ⟨N, u, S2, hev, e1, e2, e3, e4, e5⟩ := tr_ev m x hn1 hn3 (show 1 ≤ dd by omega) hd3
    obtain ⟨v1, v2⟩ := tv_all hn1 hn3 m4 (show m ≤ 2 by omega) m6 (show x ≤ 99 by omega) (show 1 ≤ dd by omega) hd3
    have hlen : (finish u S2 x).ran.length = trN n dd + 1 := by
      unfold finish
      rw [if_neg (by rw [e3]; decide)]
      show (EvM.put _ _).length = _
      rw [put_len, e4]
    refine hend 0 u.how u.val S2.steps S2.forks false (fun rn w' w'' => rn = trN n dd + 1 ∧ Bl w' w'') (fun pa pc w' hC => ?_) (fun rn w' w'' h => ⟨h.2, Or.inr ⟨h0, rfl, e1, by rw [e2, v1], rfl, by rw [e5, v2]; omega, by rw [h.1, v2]; simp⟩⟩)
    have hE := eval_any pa pc 0 dd 100 x 5000 (trees n dd m) w' (tr_pv hn1 hn3 (by omega) hd3 m4 (by omega)) hC (by decide) (by decide) N u S2 hev e3
    unfold progV at hE
    rw [trees_len] at hE
    refine hE.mono fun e w2 h => ?_
    obtain ⟨FB, WB, ra, rn, rc, he, ho, _, _, _, _, hb2⟩ := h
    obtain ⟨g', _, hrn⟩ := own_one ho (by rw [hlen]; omega)
    exact ⟨ra, _, _, rn, rc, _, _, _, _, he, hrn.trans hlen, hb2⟩
set_option maxRecDepth 100000 in
set_option maxHeartbeats 8000000 in
theorem trees_any (wide deep mul arg : Int) (w : World) (h1 : (Lit.int .i64 wide).wf = true) (h2 : (Lit.int .i64 deep).wf = true) (h3 : (Lit.int .i64 mul).wf = true) (h4 : (Lit.int .i64 arg).wf = true) : Calls Try.prog 10 #[.int .i64 wide, .int .i64 deep, .int .i64 mul, .int .i64 arg] w fun e w' => e = .returned (.bool true) ∧ Bl w w' := by
  go_enter Try.func10, Try.ntmps10
  refine trees_wp wide deep mul arg w _ _ rfl rfl rfl rfl rfl rfl fun a' w' hs hd h8 hb => ?_
  obtain ⟨_, h8'⟩ := get_of h8
  exact bodyPost_ret (v := .bool true) (by simp [results, Try.results10, go_sem, hs, h8']) hd ⟨rfl, hb⟩
end Go.Proofs.Ytonndofbnhnkpaa.Evl
