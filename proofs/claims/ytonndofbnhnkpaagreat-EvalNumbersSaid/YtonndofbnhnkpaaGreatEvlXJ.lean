/- The program's package eval: the pieces of a program's run. The program's package eval: the pieces of a program's run: what ran, by its keys. The program's package eval: a program's run. The program's package eval: what comes of a program. The laws of eval: the example; programs of one or two functions in memory. -/
import Derived.Test.YtonndofbnhnkpaaGreatEvlRJ
import Derived.Test.YtonndofbnhnkpaaGreatSky
import Derived.Test.YtonndofbnhnkpaaGreatMapO
set_option linter.unusedVariables false
set_option linter.unusedSimpArgs false
set_option linter.unusedSectionVars false
namespace Go.Proofs.YtonndofbnhnkpaaGreat.Evl
open Go.RowKit Num KeyM KeyW StatW Blk VmA VmG Prg EvM Rf
theorem info4e : (Tryz.prog.info? 4).map (fun i => (i.zero, i.size, i.bytes)) = some (some (.bool false), 1, 1) := by kernel_rfl
/-- The frame of a program's run. -/
structure RxA (a : Act) (df : List Deferred) (Pb Rb Eb : Nat) (arg most : Int) : Prop where
  sz : a.tmps.size = 80
  dfs : a.defers = df
  t1 : a.tmps[1]? = some (.int .i64 arg)
  t2 : a.tmps[2]? = some (.int .i64 most)
  t3 : a.tmps[3]? = some (.pointer (some ⟨Pb, 0, none⟩))
  t6 : a.tmps[6]? = some (.pointer (some ⟨Rb, 0, none⟩))
  t7 : a.tmps[7]? = some (.pointer (some ⟨Eb, 0, none⟩))
structure RxB (a : Act) (df : List Deferred) (Pb Rb Eb : Nat) (arg most : Int) (M : Nat) : Prop extends RxA a df Pb Rb Eb arg most where
  t9 : a.tmps[9]? = some (.pointer (some ⟨M, 0, none⟩))
def c8z : Array Value := #[.int .i64 0, .int .i64 0, .slice none 0 0, .slice none 0 0, .slice none 0 0, .int .i64 0, .int .i64 0, .bool false]
def x3 (w : World) (pa : Option Addr) (n pc : Nat) (futs depth fuel : Int) : World := ((w.alloc (.cells #[.slice pa n pc, .int .i64 futs, .int .i64 depth, .int .i64 fuel] 24)).alloc (.cells c8z 34)).alloc (.cells #[.int .i64 0] 35)
def m14 (pa : Option Addr) (n pc : Nat) (futs depth fuel most : Int) (R : Nat) : Array Value := #[.slice pa n pc, .int .i64 futs, .int .i64 depth, .int .i64 fuel, .int .i64 most, .int .i64 0, .int .i64 0, .slice none 0 0, .slice none 0 0, .slice none 0 0, .int .i64 0, .int .i64 0, .bool false, .map (some R)]
def closeR (Rb Eb : Nat) : Deferred := { target := .fn (.func 17) #[.pointer (some ⟨Rb, 0, none⟩), .pointer (some ⟨Eb, 0, none⟩)], args := #[] }
set_option maxRecDepth 100000 in
set_option maxHeartbeats 8000000 in
theorem ev_r0 (pa : Option Addr) (n pc : Nat) (futs depth fuel arg most : Int) (w : World) (a : Act) (Q : Exit → Act → World → Prop) (hsz : a.tmps.size = 80) (hdf : a.defers = []) (t0 : a.tmps[0]? = some (.agg #[.slice pa n pc, .int .i64 futs, .int .i64 depth, .int .i64 fuel])) (t1 : a.tmps[1]? = some (.int .i64 arg)) (t2 : a.tmps[2]? = some (.int .i64 most))
    (hQ : ∀ a' : Act, RxA a' [] w.heap.size (w.heap.size + 1) (w.heap.size + 2) arg most → Q .normal a' (x3 w pa n pc futs depth fuel)) : (nth 0 (bodyOf Tryz.f8)).wp Tryz.prog Q a w := by
  simp only [nth, bodyOf, Tryz.f8, Option.getD]
  unfold x3 c8z at hQ
  obtain ⟨_, t0'⟩ := get_of t0
  go_wp2_with fail
  first | exact hQ _ ⟨by simp [hsz], by first | rfl | exact hdf, by simp [Array.getElem?_setIfInBounds, t1], by simp [Array.getElem?_setIfInBounds, t2], by simp [Array.getElem?_setIfInBounds, hsz], by simp [Array.getElem?_setIfInBounds, hsz], by simp [Array.getElem?_setIfInBounds, hsz]⟩ | exact ⟨by simp [hsz], by first | rfl | exact hdf, by simp [Array.getElem?_setIfInBounds, t1], by simp [Array.getElem?_setIfInBounds, t2], by simp [Array.getElem?_setIfInBounds, hsz], by simp [Array.getElem?_setIfInBounds, hsz], by simp [Array.getElem?_setIfInBounds, hsz]⟩
set_option maxRecDepth 100000 in
set_option maxHeartbeats 8000000 in
theorem ev_r1 (pa : Option Addr) (n pc : Nat) (futs depth fuel arg most er : Int) (w : World) (Pb Rb Eb : Nat) (a : Act) (Q : Exit → Act → World → Prop) (ha : RxA a [] Pb Rb Eb arg most) (hp : w.rowIs Pb 24 4 (four (.slice pa n pc) (.int .i64 futs) (.int .i64 depth) (.int .i64 fuel)))
    (hck : Calls Tryz.prog 16 #[.agg #[.slice pa n pc, .int .i64 futs, .int .i64 depth, .int .i64 fuel]] w fun e w' => e = .returned (.int .i64 er) ∧ Bl w w')
    (hQ : ∀ (a' : Act) (w' : World), RxA a' [] Pb Rb Eb arg most → a'.tmps[8]? = some (.int .i64 er) → Bl w w' → Q .normal a' w') : (nth 0 (nth 1 (bodyOf Tryz.f8))).wp Tryz.prog Q a w := by
  simp only [nth, bodyOf, Tryz.f8, Option.getD]
  obtain ⟨hsz, hdf, t1, t2, t3, t6, t7⟩ := ha
  obtain ⟨_, t3'⟩ := get_of t3
  obtain ⟨⟨x0, x1, x2, x3⟩, _⟩ := row4_cells hp
  have lP := hp.lt
  have HQ := Lib.hid hQ
  have HCK := Lib.hid hck
  clear hp hQ hck
  go_wp2_with fail
  refine HCK.out.mono ?_
  rintro e w9 ⟨rfl, hb⟩
  have HB := Lib.hid hb
  clear hb x0 x1 x2 x3
  go_wp2_with fail
  exact HQ.out _ _ ⟨by simp [hsz], by first | rfl | exact hdf, by simp [Array.getElem?_setIfInBounds, t1], by simp [Array.getElem?_setIfInBounds, t2], by simp [Array.getElem?_setIfInBounds, t3], by simp [Array.getElem?_setIfInBounds, t6], by simp [Array.getElem?_setIfInBounds, t7]⟩ (by simp [Array.getElem?_setIfInBounds, hsz]) HB.out
set_option maxRecDepth 100000 in
set_option maxHeartbeats 8000000 in
theorem ev_r2 (arg most er : Int) (w : World) (Pb Rb Eb : Nat) (a : Act) (Q : Exit → Act → World → Prop) (ha : RxA a [] Pb Rb Eb arg most) (t8 : a.tmps[8]? = some (.int .i64 er))
    (hQ : ∀ (a' : Act), RxA a' [] Pb Rb Eb arg most → a'.tmps[8]? = some (.int .i64 er) → a'.tmps[15]? = some (.bool (er != 0)) → Q .normal a' w) : (nth 1 (nth 1 (bodyOf Tryz.f8))).wp Tryz.prog Q a w := by
  simp only [nth, bodyOf, Tryz.f8, Option.getD]
  obtain ⟨hsz, hdf, t1, t2, t3, t6, t7⟩ := ha
  obtain ⟨_, t8'⟩ := get_of t8
  go_wp2_with fail
  exact hQ _ ⟨by simp [hsz], by first | rfl | exact hdf, by simp [Array.getElem?_setIfInBounds, t1], by simp [Array.getElem?_setIfInBounds, t2], by simp [Array.getElem?_setIfInBounds, t3], by simp [Array.getElem?_setIfInBounds, t6], by simp [Array.getElem?_setIfInBounds, t7]⟩ (by simp [Array.getElem?_setIfInBounds, t8]) (by simp [Array.getElem?_setIfInBounds, hsz])
theorem ev_c2 (a : Act) (w : World) (Q : Exit → Act → World → Prop) (h : a.tmps[15]? = some (.bool false)) (hQ : Q .normal a w) : (nth 2 (nth 1 (bodyOf Tryz.f8))).wp Tryz.prog Q a w := by
  simp only [nth, bodyOf, Tryz.f8, Option.getD]
  refine wp_cond_false (by show a.tmps.getD 15 undef = _; rw [Array.getD_eq_getD_getElem?, h]; rfl) ?_
  go_wp2_with fail
  exact hQ
set_option maxRecDepth 100000 in
set_option maxHeartbeats 8000000 in
theorem ev_r4 (pa : Option Addr) (n pc : Nat) (futs depth fuel arg most : Int) (w : World) (Pb Rb Eb : Nat) (a : Act) (Q : Exit → Act → World → Prop) (ha : RxA a [] Pb Rb Eb arg most) (hp : w.rowIs Pb 24 4 (four (.slice pa n pc) (.int .i64 futs) (.int .i64 depth) (.int .i64 fuel))) (h0 : 0 ≤ most) (h1 : most ≤ 20000)
    (hQ : ∀ a' : Act, RxB a' [] Pb Rb Eb arg most (w.heap.size + 1) → Q .normal a' ((w.alloc (.map #[] 0)).alloc (.cells (m14 pa n pc futs depth fuel most w.heap.size) 58))) : (nth 2 (bodyOf Tryz.f8)).wp Tryz.prog Q a w := by
  simp only [nth, bodyOf, Tryz.f8, Option.getD]
  unfold m14 at hQ
  have hmm := run_makeMap (P := Tryz.prog) 56 w
  have hmx : max 0 (min most 20000) = most := by omega
  obtain ⟨hsz, hdf, t1, t2, t3, t6, t7⟩ := ha
  obtain ⟨_, t2'⟩ := get_of t2
  obtain ⟨_, t3'⟩ := get_of t3
  obtain ⟨⟨x0, x1, x2, x3⟩, _⟩ := row4_cells hp
  have lP := hp.lt
  have HQ := Lib.hid hQ
  clear hp hQ h0 h1
  go_wp2_with fail
  exact HQ.out _ ⟨⟨by simp [hsz], by first | rfl | exact hdf, by simp [Array.getElem?_setIfInBounds, t1], by simp [Array.getElem?_setIfInBounds, t2], by simp [Array.getElem?_setIfInBounds, t3], by simp [Array.getElem?_setIfInBounds, t6], by simp [Array.getElem?_setIfInBounds, t7]⟩, by simp [Array.getElem?_setIfInBounds, hsz]⟩
set_option maxRecDepth 100000 in
set_option maxHeartbeats 8000000 in
theorem ev_r6 (arg most : Int) (w : World) (Pb Rb Eb M : Nat) (a : Act) (Q : Exit → Act → World → Prop) (ha : RxB a [] Pb Rb Eb arg most M)
    (hQ : ∀ a' : Act, RxB a' [closeR Rb Eb] Pb Rb Eb arg most M → Q .normal a' w) : (nth 4 (bodyOf Tryz.f8)).wp Tryz.prog Q a w := by
  simp only [nth, bodyOf, Tryz.f8, Option.getD]
  unfold closeR at hQ
  obtain ⟨⟨hsz, hdf, t1, t2, t3, t6, t7⟩, t9⟩ := ha
  obtain ⟨_, t6'⟩ := get_of t6
  obtain ⟨_, t7'⟩ := get_of t7
  go_wp2_with fail
  first | exact hQ _ ⟨⟨by simp [hsz], by first | rfl | exact hdf, by simp [Array.getElem?_setIfInBounds, t1], by simp [Array.getElem?_setIfInBounds, t2], by simp [Array.getElem?_setIfInBounds, t3], by simp [Array.getElem?_setIfInBounds, t6], by simp [Array.getElem?_setIfInBounds, t7]⟩, by simp [Array.getElem?_setIfInBounds, t9]⟩ | exact ⟨⟨by simp [hsz], by first | rfl | exact hdf, by simp [Array.getElem?_setIfInBounds, t1], by simp [Array.getElem?_setIfInBounds, t2], by simp [Array.getElem?_setIfInBounds, t3], by simp [Array.getElem?_setIfInBounds, t6], by simp [Array.getElem?_setIfInBounds, t7]⟩, by simp [Array.getElem?_setIfInBounds, t9]⟩
def idxx5 : List (Nat × Nat) := [(0, 25), (1, 26), (2, 27), (3, 28), (4, 29), (5, 30), (6, 31), (7, 32), (8, 33), (9, 34), (10, 35), (12, 36), (13, 37), (14, 38)]
def Vx5 (M Pb futs : Nat) : Nat → Value := fun sl => match sl with
  | 25 => .pointer (some ⟨M, 0, none⟩)
  | 26 => .pointer (some ⟨M, 0, none⟩)
  | 27 => .pointer (some ⟨Pb, 1, none⟩)
  | 28 => .int .i64 (futs : Int)
  | 29 => undef
  | 30 => .pointer (some ⟨Pb, 1, none⟩)
  | 31 => .int .i64 (futs : Int)
  | 32 => undef
  | 33 => .pointer (some ⟨M, 0, none⟩)
  | 34 => .pointer (some ⟨M, 5, none⟩)
  | 35 => .pointer (some ⟨M, 8, none⟩)
  | 36 => .pointer (some ⟨M, 0, none⟩)
  | 37 => .pointer (some ⟨M, 5, none⟩)
  | 38 => .pointer (some ⟨M, 9, none⟩)
  | _ => undef
/-- The machine's cells while its two slices are made. -/
def mr5 (m0 : Nat → Value) (V : Nat → Value) (L : Array Bool) (j : Nat) : Value := if j = 8 then (if L[11]? = some true then V 29 else m0 8) else if j = 9 then (if L[15]? = some true then V 32 else m0 9) else m0 j
/-- The fifth region under way. -/
structure W5 (w : World) (M Pb futs : Nat) (m0 pf : Nat → Value) (L : Array Bool) (V : Nat → Value) (w' : World) : Prop where
  stat : ∀ q ∈ idxx5, q.2 ≠ 29 → q.2 ≠ 32 → L[q.1]? = some true → V q.2 = Vx5 M Pb futs q.2
  fb : L[4]? = some true → ∃ g, V 29 = .slice (some ⟨g, 0, none⟩) futs futs ∧ w.heap.size ≤ g ∧ w'.rowIs g 3 futs (fun _ => .int .i64 0)
  wb : L[7]? = some true → ∃ g, V 32 = .slice (some ⟨g, 0, none⟩) futs futs ∧ w.heap.size ≤ g ∧ w'.rowIs g 4 futs (fun _ => .bool false)
  m : w'.rowIs M 58 14 (mr5 m0 V L)
  p : w'.rowIs Pb 24 4 pf
  ch : Ch (· = M) w w'
section
variable {w w8 : World} {M Pb futs : Nat} {m0 pf : Nat → Value} {L : Array Bool} {V : Nat → Value}
theorem W5.start (hm : w.rowIs M 58 14 m0) (hp : w.rowIs Pb 24 4 pf) : W5 w M Pb futs m0 pf (Array.replicate 16 false) (Vx5 M Pb futs) w.drew :=
  ⟨fun _ _ _ _ _ => rfl, fun h => by rw [Array.getElem?_replicate] at h; simp at h, fun h => by rw [Array.getElem?_replicate] at h; simp at h, World.rowIs.congr (World.rowIs.drew hm) (fun j _ => by
    unfold mr5
    rw [if_neg (show ¬ (Array.replicate 16 false)[11]? = some true by decide), if_neg (show ¬ (Array.replicate 16 false)[15]? = some true by decide)]
    split
    · rename_i e; rw [e]
    · split
      · rename_i e; rw [e]
      · rfl), World.rowIs.drew hp, (Ch.refl _ _).drew⟩
theorem W5.stat' (h : W5 w M Pb futs m0 pf L V w8) (i s : Nat) (x : Value) (hx : s ≠ 29 → s ≠ 32 → x = Vx5 M Pb futs s) (hu : ∀ q ∈ idxx5, q = (i, s) ∨ (q.1 ≠ i ∧ q.2 ≠ s)) :
    ∀ q ∈ idxx5, q.2 ≠ 29 → q.2 ≠ 32 → (L.setIfInBounds i true)[q.1]? = some true → Tab.upd V s x q.2 = Vx5 M Pb futs q.2 := fun q hq h6 h7 hL => by
  rcases hu q hq with rfl | ⟨g1, g2⟩
  · rw [Tab.upd_self]; exact hx h6 h7
  · rw [Tab.upd_ne _ _ g2]
    exact h.stat q hq h6 h7 (by rwa [Tab.get_ne g1] at hL)
theorem W5.step (h : W5 w M Pb futs m0 pf L V w8) (i s : Nat) (h1 : s ≠ 29) (h2 : s ≠ 32) (h4 : i ≠ 4) (h7 : i ≠ 7) (h11 : i ≠ 11) (h15 : i ≠ 15) (hu : ∀ q ∈ idxx5, q = (i, s) ∨ (q.1 ≠ i ∧ q.2 ≠ s)) : W5 w M Pb futs m0 pf (L.setIfInBounds i true) (Tab.upd V s (Vx5 M Pb futs s)) w8 := by
  refine ⟨h.stat' i s _ (fun _ _ => rfl) hu, fun hL => ?_, fun hL => ?_, World.rowIs.congr h.m (fun j _ => ?_), h.p, h.ch⟩
  · rw [Tab.get_ne h4.symm] at hL
    rw [Tab.upd_ne _ _ h1.symm]; exact h.fb hL
  · rw [Tab.get_ne h7.symm] at hL
    rw [Tab.upd_ne _ _ h2.symm]; exact h.wb hL
  · unfold mr5
    rw [Tab.get_ne h11.symm, Tab.get_ne h15.symm, Tab.upd_ne _ _ h1.symm, Tab.upd_ne _ _ h2.symm]
theorem W5.mkF (h : W5 w M Pb futs m0 pf L V w8) (hL : L[4]? = some false) (hl : L[11]? = some false) : W5 w M Pb futs m0 pf (L.setIfInBounds 4 true) (Tab.upd V 29 (.slice (some ⟨w8.heap.size, 0, none⟩) futs futs)) (w8.alloc (.cells (madeCells #[.int .i64 0] futs) 3)) := by
  refine ⟨h.stat' 4 29 _ (fun g => absurd rfl g) (by decide), fun _ => ⟨w8.heap.size, Tab.upd_self _ _ _, h.ch.size, World.rowIs_made w8 (.int .i64 0) futs 3⟩, fun hL' => ?_, ?_, World.rowIs.alloc h.p _, h.ch.alloc _⟩
  · rw [Tab.get_ne (by decide)] at hL'
    rw [Tab.upd_ne _ _ (by decide)]
    obtain ⟨g, g1, g2, g3⟩ := h.wb hL'
    exact ⟨g, g1, g2, World.rowIs.alloc g3 _⟩
  · refine World.rowIs.congr (World.rowIs.alloc h.m _) (fun j _ => ?_)
    unfold mr5
    rw [Tab.get_ne (by decide), Tab.get_ne (by decide), Tab.upd_ne _ _ (by decide : (32 : Nat) ≠ 29), hl]
    simp
theorem W5.mkW (h : W5 w M Pb futs m0 pf L V w8) (hL : L[7]? = some false) (hl : L[15]? = some false) : W5 w M Pb futs m0 pf (L.setIfInBounds 7 true) (Tab.upd V 32 (.slice (some ⟨w8.heap.size, 0, none⟩) futs futs)) (w8.alloc (.cells (madeCells #[.bool false] futs) 4)) := by
  refine ⟨h.stat' 7 32 _ (fun _ g => absurd rfl g) (by decide), fun hL' => ?_, fun _ => ⟨w8.heap.size, Tab.upd_self _ _ _, h.ch.size, World.rowIs_made w8 (.bool false) futs 4⟩, ?_, World.rowIs.alloc h.p _, h.ch.alloc _⟩
  · rw [Tab.get_ne (by decide)] at hL'
    rw [Tab.upd_ne _ _ (by decide)]
    obtain ⟨g, g1, g2, g3⟩ := h.fb hL'
    exact ⟨g, g1, g2, World.rowIs.alloc g3 _⟩
  · refine World.rowIs.congr (World.rowIs.alloc h.m _) (fun j _ => ?_)
    unfold mr5
    rw [Tab.get_ne (by decide), Tab.get_ne (by decide), Tab.upd_ne _ _ (by decide : (29 : Nat) ≠ 32), hl]
    simp
theorem row_far {b c n m : Nat} {t t' : TypeId} {f g : Nat → Value} (h : w8.rowIs b t n f) (h' : w8.rowIs c t' m g) (hne : t ≠ t') : b ≠ c := fun e => by
  obtain ⟨cur, hcur⟩ := row_type h
  exact ty_ne h' hcur hne e
theorem W5.stF (h : W5 w M Pb futs m0 pf L V w8) (hL : L[11]? = some false) : W5 w M Pb futs m0 pf (L.setIfInBounds 11 true) V (w8.setCell ⟨M, 8, none⟩ (V 29)) := by
  refine ⟨fun q hq h6 h7 hL' => h.stat q hq h6 h7 ?_, fun hL' => ?_, fun hL' => ?_, ?_, row_setO h.p (row_far h.p h.m (by decide)) _, h.ch.set (Or.inl rfl) _⟩
  · have hne : ∀ q ∈ idxx5, q.1 ≠ 11 := by decide
    rwa [Tab.get_ne (hne q hq)] at hL'
  · rw [Tab.get_ne (by decide)] at hL'
    obtain ⟨g, g1, g2, g3⟩ := h.fb hL'
    exact ⟨g, g1, g2, row_setO g3 (row_far g3 h.m (by decide)) _⟩
  · rw [Tab.get_ne (by decide)] at hL'
    obtain ⟨g, g1, g2, g3⟩ := h.wb hL'
    exact ⟨g, g1, g2, row_setO g3 (row_far g3 h.m (by decide)) _⟩
  · refine World.rowIs.congr (h.m.set 8 (V 29)) (fun j _ => ?_)
    unfold mr5
    rw [Tab.get_self hL, Tab.get_ne (by decide)]
    by_cases e : j = 8
    · simp [e]
    · simp [e]
theorem W5.stW (h : W5 w M Pb futs m0 pf L V w8) (hL : L[15]? = some false) : W5 w M Pb futs m0 pf (L.setIfInBounds 15 true) V (w8.setCell ⟨M, 9, none⟩ (V 32)) := by
  refine ⟨fun q hq h6 h7 hL' => h.stat q hq h6 h7 ?_, fun hL' => ?_, fun hL' => ?_, ?_, row_setO h.p (row_far h.p h.m (by decide)) _, h.ch.set (Or.inl rfl) _⟩
  · have hne : ∀ q ∈ idxx5, q.1 ≠ 15 := by decide
    rwa [Tab.get_ne (hne q hq)] at hL'
  · rw [Tab.get_ne (by decide)] at hL'
    obtain ⟨g, g1, g2, g3⟩ := h.fb hL'
    exact ⟨g, g1, g2, row_setO g3 (row_far g3 h.m (by decide)) _⟩
  · rw [Tab.get_ne (by decide)] at hL'
    obtain ⟨g, g1, g2, g3⟩ := h.wb hL'
    exact ⟨g, g1, g2, row_setO g3 (row_far g3 h.m (by decide)) _⟩
  · refine World.rowIs.congr (h.m.set 9 (V 32)) (fun j _ => ?_)
    unfold mr5
    rw [Tab.get_self hL, Tab.get_ne (by decide)]
    by_cases e : j = 9
    · simp [e]
    · simp [e]
end
set_option maxRecDepth 100000 in
set_option maxHeartbeats 8000000 in
theorem ev_r5 (M Pb Rb Eb futs : Nat) (arg most : Int) (m0 pf : Nat → Value) (w : World) (a : Act) (Q : Exit → Act → World → Prop) (ha : RxB a [] Pb Rb Eb arg most M) (hm : w.rowIs M 58 14 m0) (hp : w.rowIs Pb 24 4 pf) (hpf : pf 1 = .int .i64 (futs : Int)) (hf1 : futs ≤ 16)
    (hQ : ∀ (a' : Act) (w' : World) (FB WB : Nat), RxB a' [] Pb Rb Eb arg most M → w'.rowIs M 58 14 (fun j => if j = 8 then .slice (some ⟨FB, 0, none⟩) futs futs else if j = 9 then .slice (some ⟨WB, 0, none⟩) futs futs else m0 j) → w'.rowIs FB 3 futs (fun _ => .int .i64 0) → w'.rowIs WB 4 futs (fun _ => .bool false) → w.heap.size ≤ FB → w.heap.size ≤ WB → Ch (· = M) w w' → Q .normal a' w') : (nth 3 (bodyOf Tryz.f8)).wp Tryz.prog Q a w := by
  simp only [nth, bodyOf, Tryz.f8, Option.getD]
  obtain ⟨⟨hsz, hdf, t1, t2, t3, t6, t7⟩, t9⟩ := ha
  refine Tab.region_tab7 (by kernel_rfl) idxx5 80 (W5 w M Pb futs m0 pf) (by kernel_rfl) hsz (by kernel_rfl) ⟨_, W5.start hm hp⟩ ?_ ?_
  · intro L V a' w2 hT hsz' hd hW
    obtain ⟨FB, e1, g1, r1⟩ := hW.fb (hd 4 (by decide))
    obtain ⟨WB, e2, g2, r2⟩ := hW.wb (hd 7 (by decide))
    refine hQ a' w2 FB WB ⟨⟨hT.sz.trans hsz, hT.dfs.trans hdf, (hT.out 1 (by decide)).trans t1, (hT.out 2 (by decide)).trans t2, (hT.out 3 (by decide)).trans t3, (hT.out 6 (by decide)).trans t6, (hT.out 7 (by decide)).trans t7⟩, (hT.out 9 (by decide)).trans t9⟩ (World.rowIs.congr hW.m (fun j _ => ?_)) r1 r2 g1 g2 hW.ch
    unfold mr5
    rw [hd 11 (by decide), hd 15 (by decide), e1, e2]
    simp
  · intro i' o L V a' w8 K' hT hsz' hW hL ho hd hold hcl hK
    have hi' : i' < 16 := (Array.getElem?_eq_some_iff.1 ho).1
    have HT : Hid (∀ qq ∈ idxx5, L[qq.1]? = some true → a'.tmps[qq.2]? = some (V qq.2)) := hT.tab
    have HW := Lib.hid hW
    have lM := hW.m.lt
    have lP := hW.p.lt
    clear hold hQ hW hm hp
    obtain rfl | rfl | rfl | rfl | rfl | rfl | rfl | rfl | rfl | rfl | rfl | rfl | rfl | rfl | rfl | rfl : i' = 0 ∨ i' = 1 ∨ i' = 2 ∨ i' = 3 ∨ i' = 4 ∨ i' = 5 ∨ i' = 6 ∨ i' = 7 ∨ i' = 8 ∨ i' = 9 ∨ i' = 10 ∨ i' = 11 ∨ i' = 12 ∨ i' = 13 ∨ i' = 14 ∨ i' = 15 := by omega
    · have s9 : a'.tmps[9]? = some (.pointer (some ⟨M, 0, none⟩)) := (hT.out 9 (by decide)).trans t9
      cases ho
      clear hd HT hT hcl
      go_simp
      exact hK _ _ (HW.out.step 0 25 (by decide) (by decide) (by decide) (by decide) (by decide) (by decide) (by decide))
    · have s9 : a'.tmps[9]? = some (.pointer (some ⟨M, 0, none⟩)) := (hT.out 9 (by decide)).trans t9
      cases ho
      clear hd HT hT hcl
      go_simp
      exact hK _ _ (HW.out.step 1 26 (by decide) (by decide) (by decide) (by decide) (by decide) (by decide) (by decide))
    · have s3 : a'.tmps[3]? = some (.pointer (some ⟨Pb, 0, none⟩)) := (hT.out 3 (by decide)).trans t3
      cases ho
      clear hd HT hT hcl
      go_simp
      exact hK _ _ (HW.out.step 2 27 (by decide) (by decide) (by decide) (by decide) (by decide) (by decide) (by decide))
    · have s27 : a'.tmps[27]? = some (.pointer (some ⟨Pb, 1, none⟩)) := (HT.out (2, 27) (by decide) (by cases ho; exact hd ⟨2, .data⟩ (by simp) rfl)).trans (congrArg some (HW.out.stat (2, 27) (by decide) (by decide) (by decide) (by cases ho; exact hd ⟨2, .data⟩ (by simp) rfl)))
      cases ho
      clear hd HT hT hcl
      have y1 : w8.cell? ⟨Pb, 1, none⟩ = some (.int .i64 (futs : Int)) := (HW.out.p.cell (i := 1) (by omega)).trans (congrArg some hpf)
      go_simp
      exact hK _ _ (HW.out.step 3 28 (by decide) (by decide) (by decide) (by decide) (by decide) (by decide) (by decide))
    · have l11 : L[11]? = some false := Tab.notyet hsz' (hcl 11 _ rfl) 4 ⟨⟨4, .data⟩, by simp, rfl, rfl⟩ hL
      have s28 : a'.tmps[28]? = some (.int .i64 (futs : Int)) := (HT.out (3, 28) (by decide) (by cases ho; exact hd ⟨3, .data⟩ (by simp) rfl)).trans (congrArg some (HW.out.stat (3, 28) (by decide) (by decide) (by decide) (by cases ho; exact hd ⟨3, .data⟩ (by simp) rfl)))
      cases ho
      clear hd HT hT hcl
      have hmi := run_make_row' (P := Tryz.prog) 31 3 (.int .i64 0) 8 Tryz.underlying31 KeyT.info3 rfl .i64 .i64 futs (by omega) (by omega)
      go_simp
      exact hK _ _ (HW.out.mkF hL l11)
    · have s3 : a'.tmps[3]? = some (.pointer (some ⟨Pb, 0, none⟩)) := (hT.out 3 (by decide)).trans t3
      cases ho
      clear hd HT hT hcl
      go_simp
      exact hK _ _ (HW.out.step 5 30 (by decide) (by decide) (by decide) (by decide) (by decide) (by decide) (by decide))
    · have s30 : a'.tmps[30]? = some (.pointer (some ⟨Pb, 1, none⟩)) := (HT.out (5, 30) (by decide) (by cases ho; exact hd ⟨5, .data⟩ (by simp) rfl)).trans (congrArg some (HW.out.stat (5, 30) (by decide) (by decide) (by decide) (by cases ho; exact hd ⟨5, .data⟩ (by simp) rfl)))
      cases ho
      clear hd HT hT hcl
      have y1 : w8.cell? ⟨Pb, 1, none⟩ = some (.int .i64 (futs : Int)) := (HW.out.p.cell (i := 1) (by omega)).trans (congrArg some hpf)
      go_simp
      exact hK _ _ (HW.out.step 6 31 (by decide) (by decide) (by decide) (by decide) (by decide) (by decide) (by decide))
    · have l15 : L[15]? = some false := Tab.notyet hsz' (hcl 15 _ rfl) 7 ⟨⟨7, .data⟩, by simp, rfl, rfl⟩ hL
      have s31 : a'.tmps[31]? = some (.int .i64 (futs : Int)) := (HT.out (6, 31) (by decide) (by cases ho; exact hd ⟨6, .data⟩ (by simp) rfl)).trans (congrArg some (HW.out.stat (6, 31) (by decide) (by decide) (by decide) (by cases ho; exact hd ⟨6, .data⟩ (by simp) rfl)))
      cases ho
      clear hd HT hT hcl
      have hmb := run_make_row' (P := Tryz.prog) 32 4 (.bool false) 1 Tryz.underlying32 info4e rfl .i64 .i64 futs (by omega) (by omega)
      go_simp
      exact hK _ _ (HW.out.mkW hL l15)
    · have s25 : a'.tmps[25]? = some (.pointer (some ⟨M, 0, none⟩)) := (HT.out (0, 25) (by decide) (by cases ho; exact hd ⟨0, .data⟩ (by simp) rfl)).trans (congrArg some (HW.out.stat (0, 25) (by decide) (by decide) (by decide) (by cases ho; exact hd ⟨0, .data⟩ (by simp) rfl)))
      cases ho
      clear hd HT hT hcl
      go_simp
      exact hK _ _ (HW.out.step 8 33 (by decide) (by decide) (by decide) (by decide) (by decide) (by decide) (by decide))
    · have s33 : a'.tmps[33]? = some (.pointer (some ⟨M, 0, none⟩)) := (HT.out (8, 33) (by decide) (by cases ho; exact hd ⟨8, .data⟩ (by simp) rfl)).trans (congrArg some (HW.out.stat (8, 33) (by decide) (by decide) (by decide) (by cases ho; exact hd ⟨8, .data⟩ (by simp) rfl)))
      cases ho
      clear hd HT hT hcl
      go_simp
      exact hK _ _ (HW.out.step 9 34 (by decide) (by decide) (by decide) (by decide) (by decide) (by decide) (by decide))
    · have s34 : a'.tmps[34]? = some (.pointer (some ⟨M, 5, none⟩)) := (HT.out (9, 34) (by decide) (by cases ho; exact hd ⟨9, .data⟩ (by simp) rfl)).trans (congrArg some (HW.out.stat (9, 34) (by decide) (by decide) (by decide) (by cases ho; exact hd ⟨9, .data⟩ (by simp) rfl)))
      cases ho
      clear hd HT hT hcl
      go_simp
      exact hK _ _ (HW.out.step 10 35 (by decide) (by decide) (by decide) (by decide) (by decide) (by decide) (by decide))
    · have l4 : L[4]? = some true := (by cases ho; exact hd ⟨4, .data⟩ (by simp) rfl)
      obtain ⟨g, hg, g2, g3⟩ := HW.out.fb l4
      clear g2 g3
      have s35 : a'.tmps[35]? = some (.pointer (some ⟨M, 8, none⟩)) := (HT.out (10, 35) (by decide) (by cases ho; exact hd ⟨10, .data⟩ (by simp) rfl)).trans (congrArg some (HW.out.stat (10, 35) (by decide) (by decide) (by decide) (by cases ho; exact hd ⟨10, .data⟩ (by simp) rfl)))
      have s29 : a'.tmps[29]? = some (.slice (some ⟨g, 0, none⟩) futs futs) := (HT.out (4, 29) (by decide) l4).trans (congrArg some hg)
      cases ho
      clear hd HT hT hcl
      have y8 := HW.out.m.cell (i := 8) (by omega)
      have fz := HW.out.m.frozen 8
      have hst := HW.out.stF hL
      rw [hg] at hst
      have HST := Lib.hid hst
      clear hst
      go_simp
      exact hK (.tuple #[]) _ HST.out
    · have s26 : a'.tmps[26]? = some (.pointer (some ⟨M, 0, none⟩)) := (HT.out (1, 26) (by decide) (by cases ho; exact hd ⟨1, .data⟩ (by simp) rfl)).trans (congrArg some (HW.out.stat (1, 26) (by decide) (by decide) (by decide) (by cases ho; exact hd ⟨1, .data⟩ (by simp) rfl)))
      cases ho
      clear hd HT hT hcl
      go_simp
      exact hK _ _ (HW.out.step 12 36 (by decide) (by decide) (by decide) (by decide) (by decide) (by decide) (by decide))
    · have s36 : a'.tmps[36]? = some (.pointer (some ⟨M, 0, none⟩)) := (HT.out (12, 36) (by decide) (by cases ho; exact hd ⟨12, .data⟩ (by simp) rfl)).trans (congrArg some (HW.out.stat (12, 36) (by decide) (by decide) (by decide) (by cases ho; exact hd ⟨12, .data⟩ (by simp) rfl)))
      cases ho
      clear hd HT hT hcl
      go_simp
      exact hK _ _ (HW.out.step 13 37 (by decide) (by decide) (by decide) (by decide) (by decide) (by decide) (by decide))
    · have s37 : a'.tmps[37]? = some (.pointer (some ⟨M, 5, none⟩)) := (HT.out (13, 37) (by decide) (by cases ho; exact hd ⟨13, .data⟩ (by simp) rfl)).trans (congrArg some (HW.out.stat (13, 37) (by decide) (by decide) (by decide) (by cases ho; exact hd ⟨13, .data⟩ (by simp) rfl)))
      cases ho
      clear hd HT hT hcl
      go_simp
      exact hK _ _ (HW.out.step 14 38 (by decide) (by decide) (by decide) (by decide) (by decide) (by decide) (by decide))
    · have l7 : L[7]? = some true := (by cases ho; exact hd ⟨7, .data⟩ (by simp) rfl)
      obtain ⟨g, hg, g2, g3⟩ := HW.out.wb l7
      clear g2 g3
      have s38 : a'.tmps[38]? = some (.pointer (some ⟨M, 9, none⟩)) := (HT.out (14, 38) (by decide) (by cases ho; exact hd ⟨14, .data⟩ (by simp) rfl)).trans (congrArg some (HW.out.stat (14, 38) (by decide) (by decide) (by decide) (by cases ho; exact hd ⟨14, .data⟩ (by simp) rfl)))
      have s32 : a'.tmps[32]? = some (.slice (some ⟨g, 0, none⟩) futs futs) := (HT.out (7, 32) (by decide) l7).trans (congrArg some hg)
      cases ho
      clear hd HT hT hcl
      have y9 := HW.out.m.cell (i := 9) (by omega)
      have fz := HW.out.m.frozen 9
      have hst := HW.out.stW hL
      rw [hg] at hst
      have HST := Lib.hid hst
      clear hst
      go_simp
      exact hK (.tuple #[]) _ HST.out
end Go.Proofs.YtonndofbnhnkpaaGreat.Evl
namespace Go.Proofs.YtonndofbnhnkpaaGreat.Evl
open Go.RowKit Num KeyM KeyW StatW Blk VmA VmG Prg EvM Rf
/-- The frame while the keys are gone through. -/
structure RxC (a : Act) (df : List Deferred) (Pb Rb Eb : Nat) (arg most : Int) (M : Nat) (v52 : Value) (n k : Int) : Prop extends RxB a df Pb Rb Eb arg most M where
  t52 : a.tmps[52]? = some v52
  t53 : a.tmps[53]? = some (.int .i64 n)
  t54 : a.tmps[54]? = some (.int .i64 k)
def inK : Code → Code
  | .block _ (.loop c) => c
  | .block _ c => c
  | c => c
/-- The loop over the keys: its round. -/
def rk (f : Func) : Code := inK (nth 1 (nth 6 (bodyOf f)))
def rki (f : Func) : Code := inK (nth 2 (rk f))
def resV (how val : Int) (vr vf vw : Value) (steps forks : Int) (over : Bool) (j : Nat) : Value := if j = 0 then .int .i64 how else if j = 1 then .int .i64 val else if j = 2 then vr else if j = 3 then vf else if j = 4 then vw else if j = 5 then .int .i64 steps else if j = 6 then .int .i64 forks else .bool over
theorem neq_over (w : World) : (binOp .eql 20 (.iface 60 (.agg #[])) (.iface 60 (.agg #[]))).run Tryz.prog w = .ok (.bool true) w := by kernel_rfl
theorem neq_nilo (w : World) : (binOp .eql 20 .nilIface (.iface 60 (.agg #[]))).run Tryz.prog w = .ok (.bool false) w := by kernel_rfl
theorem neq_niln (w : World) : (binOp .neq 20 .nilIface .nilIface).run Tryz.prog w = .ok (.bool false) w := by kernel_rfl
set_option maxRecDepth 100000 in
set_option maxHeartbeats 8000000 in
theorem ev_r7 (c : Mc) (how val : Int) (S2 : RS) (Pb Rb Eb : Nat) (arg most : Int) (df : List Deferred) (w : World) (a : Act) (Q : Exit → Act → World → Prop) (ha : RxB a df Pb Rb Eb arg most c.M)
    (hC : Calls Tryz.prog 18 #[.pointer (some ⟨c.M, 0, none⟩), .int .i64 1125899906842624, .int .i64 0, .int .i64 arg] w fun e w' => RunPost c w how val S2 e w')
    (hQ : ∀ (a' : Act) (w' : World), RxB a' df Pb Rb Eb arg most c.M → S2.over = false → IsM c w' S2 → Ch (Mvs c) w w' → Q .normal a' ((w'.setCell ⟨c.M, 5, none⟩ (.int .i64 how)).setCell ⟨c.M, 6, none⟩ (.int .i64 val)))
    (hQp : ∀ (a' : Act) (w' : World) (l : List PanicEntry), RxB a' df Pb Rb Eb arg most c.M → S2.over = true → NoG l → Ch (Mvs c) w w' → Q (.panic ({ v := overV, recovered := false } :: l)) a' w') : (nth 5 (bodyOf Tryz.f8)).wp Tryz.prog Q a w := by
  simp only [nth, bodyOf, Tryz.f8, Option.getD]
  obtain ⟨⟨hsz, hdf, t1, t2, t3, t6, t7⟩, t9⟩ := ha
  obtain ⟨_, t1'⟩ := get_of t1
  obtain ⟨_, t9'⟩ := get_of t9
  have HQ := Lib.hid hQ
  have HQp := Lib.hid hQp
  have HC := Lib.hid hC
  clear hQ hQp hC
  go_wp2_with fail
  refine HC.out.mono ?_
  intro e w9 hp
  have hm := hp.m
  have hc := hp.ch
  cases ho : S2.over
  · have he := hp.ok ho
    subst he
    have y5 := hm.row.cell (i := 5) (by omega)
    have y6 := hm.row.cell (i := 6) (by omega)
    have f5 := hm.row.frozen 5
    have f6 := hm.row.frozen 6
    have lM := hm.row.lt
    have HM := Lib.hid hm
    have HCH := Lib.hid hc
    have HO := Lib.hid ho
    clear hp hm hc ho
    go_wp2_with fail
    exact HQ.out _ _ ⟨⟨by simp [hsz], by first | rfl | exact hdf, by simp [Array.getElem?_setIfInBounds, t1], by simp [Array.getElem?_setIfInBounds, t2], by simp [Array.getElem?_setIfInBounds, t3], by simp [Array.getElem?_setIfInBounds, t6], by simp [Array.getElem?_setIfInBounds, t7]⟩, by simp [Array.getElem?_setIfInBounds, t9]⟩ HO.out HM.out HCH.out
  · obtain ⟨l, hl, he⟩ := hp.bad ho
    subst he
    have HL := Lib.hid hl
    have HCH := Lib.hid hc
    have HO := Lib.hid ho
    clear hp hm hc ho hl
    go_wp2_with fail
    exact HQp.out _ _ l ⟨⟨by simp [hsz], by first | rfl | exact hdf, by simp [Array.getElem?_setIfInBounds, t1], by simp [Array.getElem?_setIfInBounds, t2], by simp [Array.getElem?_setIfInBounds, t3], by simp [Array.getElem?_setIfInBounds, t6], by simp [Array.getElem?_setIfInBounds, t7]⟩, by simp [Array.getElem?_setIfInBounds, t9]⟩ HO.out HL.out HCH.out
set_option maxRecDepth 100000 in
set_option maxHeartbeats 8000000 in
theorem ev_r8 (M R n : Nat) (X : Nat → Nat → World → Prop) (f : Nat → Value) (Pb Rb Eb : Nat) (arg most : Int) (df : List Deferred) (w : World) (a : Act) (Q : Exit → Act → World → Prop) (ha : RxB a df Pb Rb Eb arg most M) (hr : w.rowIs M 58 14 f) (hf : f 13 = .map (some R))
    (hS : Calls Tryz.prog 19 #[.func (.func 36) #[] #[.pointer (some ⟨w.heap.size, 0, none⟩)]] (w.alloc (.cells #[.map (some R)] 56)) fun e w' => ∃ g cap : Nat, e = .returned (.slice (some ⟨g, 0, none⟩) n cap) ∧ X g cap w')
    (hQ : ∀ (a' : Act) (w' : World) (g cap : Nat), RxC a' df Pb Rb Eb arg most M (.slice (some ⟨g, 0, none⟩) n cap) n 0 → X g cap w' → Q .normal a' w') : (nth 0 (nth 6 (bodyOf Tryz.f8))).wp Tryz.prog Q a w := by
  simp only [nth, bodyOf, Tryz.f8, Option.getD]
  obtain ⟨⟨hsz, hdf, t1, t2, t3, t6, t7⟩, t9⟩ := ha
  obtain ⟨_, t9'⟩ := get_of t9
  have y13 : w.cell? ⟨M, 13, none⟩ = some (.map (some R)) := (hr.cell (i := 13) (by omega)).trans (congrArg some hf)
  have lM := hr.lt
  have HQ := Lib.hid hQ
  have HS := Lib.hid hS
  clear hQ hS hr
  go_wp2_with fail
  refine (keys_call (some R) _).mono ?_
  rintro e w9 ⟨rfl, rfl⟩
  go_wp2_with fail
  refine HS.out.mono ?_
  rintro e w9 ⟨g, cap, rfl, hX⟩
  have HX := Lib.hid hX
  clear hX y13
  go_wp2_with fail
  exact HQ.out _ _ g cap ⟨⟨⟨by simp [hsz], by first | rfl | exact hdf, by simp [Array.getElem?_setIfInBounds, t1], by simp [Array.getElem?_setIfInBounds, t2], by simp [Array.getElem?_setIfInBounds, t3], by simp [Array.getElem?_setIfInBounds, t6], by simp [Array.getElem?_setIfInBounds, t7]⟩, by simp [Array.getElem?_setIfInBounds, t9]⟩, by simp [Array.getElem?_setIfInBounds, hsz], by simp [Array.getElem?_setIfInBounds, hsz], by simp [Array.getElem?_setIfInBounds, hsz]⟩ HX.out
section
variable (Pb Rb Eb M : Nat) (arg most n k : Int) (v52 : Value) (df : List Deferred) (w : World) (a : Act) (Q : Exit → Act → World → Prop) (ha : RxC a df Pb Rb Eb arg most M v52 n k)
include ha
set_option maxRecDepth 100000 in
set_option maxHeartbeats 8000000 in
theorem ev_r9 (hQ : ∀ a' : Act, RxC a' df Pb Rb Eb arg most M v52 n k → a'.tmps[55]? = some (.bool (decide (k < n))) → Q .normal a' w) : (nth 0 (rk Tryz.f8)).wp Tryz.prog Q a w := by
  simp only [nth, bodyOf, Tryz.f8, Option.getD, rk, inK]
  obtain ⟨⟨⟨hsz, hdf, t1, t2, t3, t6, t7⟩, t9⟩, t52, t53, t54⟩ := ha
  obtain ⟨_, t53'⟩ := get_of t53
  obtain ⟨_, t54'⟩ := get_of t54
  go_wp2_with fail
  exact hQ _ ⟨⟨⟨by simp [hsz], by first | rfl | exact hdf, by simp [Array.getElem?_setIfInBounds, t1], by simp [Array.getElem?_setIfInBounds, t2], by simp [Array.getElem?_setIfInBounds, t3], by simp [Array.getElem?_setIfInBounds, t6], by simp [Array.getElem?_setIfInBounds, t7]⟩, by simp [Array.getElem?_setIfInBounds, t9]⟩, by simp [Array.getElem?_setIfInBounds, t52], by simp [Array.getElem?_setIfInBounds, t53], by simp [Array.getElem?_setIfInBounds, t54]⟩ (by simp [Array.getElem?_setIfInBounds, hsz])
omit ha in
theorem ev_c9 (h : a.tmps[55]? = some (.bool true)) (hQ : Q .normal a w) : (nth 1 (rk Tryz.f8)).wp Tryz.prog Q a w := by
  simp only [nth, bodyOf, Tryz.f8, Option.getD, rk, inK]
  refine wp_cond (t := true) (by show a.tmps.getD 55 undef = _; rw [Array.getD_eq_getD_getElem?, h]; rfl) ?_
  simp only [if_true]
  go_wp2_with fail
  exact hQ
omit ha in
theorem ev_c9n (h : a.tmps[55]? = some (.bool false)) (hQ : Q (.exit 0) a w) : (nth 1 (rk Tryz.f8)).wp Tryz.prog Q a w := by
  simp only [nth, bodyOf, Tryz.f8, Option.getD, rk, inK]
  refine wp_cond_false (by show a.tmps.getD 55 undef = _; rw [Array.getD_eq_getD_getElem?, h]; rfl) ?_
  go_wp2_with fail
  exact hQ
set_option maxRecDepth 100000 in
set_option maxHeartbeats 8000000 in
theorem ev_r12 (h0 : 0 ≤ k) (h1 : k ≤ 1000000) (hQ : ∀ a' : Act, RxC a' df Pb Rb Eb arg most M v52 n (k + 1) → Q .normal a' w) : (nth 3 (rk Tryz.f8)).wp Tryz.prog Q a w := by
  simp only [nth, bodyOf, Tryz.f8, Option.getD, rk, inK]
  obtain ⟨⟨⟨hsz, hdf, t1, t2, t3, t6, t7⟩, t9⟩, t52, t53, t54⟩ := ha
  obtain ⟨_, t54'⟩ := get_of t54
  go_wp2_with fail
  first | exact hQ _ ⟨⟨⟨by simp [hsz], by first | rfl | exact hdf, by simp [Array.getElem?_setIfInBounds, t1], by simp [Array.getElem?_setIfInBounds, t2], by simp [Array.getElem?_setIfInBounds, t3], by simp [Array.getElem?_setIfInBounds, t6], by simp [Array.getElem?_setIfInBounds, t7]⟩, by simp [Array.getElem?_setIfInBounds, t9]⟩, by simp [Array.getElem?_setIfInBounds, t52], by simp [Array.getElem?_setIfInBounds, t53], by simp [Array.getElem?_setIfInBounds, hsz]⟩ | exact ⟨⟨⟨by simp [hsz], by first | rfl | exact hdf, by simp [Array.getElem?_setIfInBounds, t1], by simp [Array.getElem?_setIfInBounds, t2], by simp [Array.getElem?_setIfInBounds, t3], by simp [Array.getElem?_setIfInBounds, t6], by simp [Array.getElem?_setIfInBounds, t7]⟩, by simp [Array.getElem?_setIfInBounds, t9]⟩, by simp [Array.getElem?_setIfInBounds, t52], by simp [Array.getElem?_setIfInBounds, t53], by simp [Array.getElem?_setIfInBounds, hsz]⟩
end
set_option maxRecDepth 100000 in
set_option maxHeartbeats 8000000 in
theorem ev_r10 (Pb Rb Eb M g n k cap : Nat) (arg most key : Int) (df : List Deferred) (w : World) (a : Act) (Q : Exit → Act → World → Prop) (ha : RxC a df Pb Rb Eb arg most M (.slice (some ⟨g, 0, none⟩) n cap) n k) (hk : k < n) (hc : w.cell? ⟨g, k, none⟩ = some (.int .i64 key))
    (hQ : ∀ a' : Act, RxC a' df Pb Rb Eb arg most M (.slice (some ⟨g, 0, none⟩) n cap) n k → a'.tmps[11]? = some (.int .i64 key) → Q .normal a' w) : (nth 0 (rki Tryz.f8)).wp Tryz.prog Q a w := by
  simp only [nth, bodyOf, Tryz.f8, Option.getD, rk, rki, inK]
  obtain ⟨⟨⟨hsz, hdf, t1, t2, t3, t6, t7⟩, t9⟩, t52, t53, t54⟩ := ha
  obtain ⟨_, t52'⟩ := get_of t52
  obtain ⟨_, t54'⟩ := get_of t54
  have lg := lt_of_cell hc
  simp only at lg
  have k1 : (k : Int) < n := by omega
  have k2 : (0 : Int) ≤ k := by omega
  go_wp2_with fail
  exact hQ _ ⟨⟨⟨by simp [hsz], by first | rfl | exact hdf, by simp [Array.getElem?_setIfInBounds, t1], by simp [Array.getElem?_setIfInBounds, t2], by simp [Array.getElem?_setIfInBounds, t3], by simp [Array.getElem?_setIfInBounds, t6], by simp [Array.getElem?_setIfInBounds, t7]⟩, by simp [Array.getElem?_setIfInBounds, t9]⟩, by simp [Array.getElem?_setIfInBounds, t52], by simp [Array.getElem?_setIfInBounds, t53], by simp [Array.getElem?_setIfInBounds, t54]⟩ (by simp [Array.getElem?_setIfInBounds, hsz])
set_option maxRecDepth 100000 in
set_option maxHeartbeats 8000000 in
theorem ev_r13 (Pb Rb Eb M : Nat) (arg most : Int) (df : List Deferred) (w : World) (a : Act) (f fr : Nat → Value) (how val steps forks : Int) (ra fa wa : Option Addr) (rn rc fn fc wn wc : Nat) (over : Bool) (Q : Exit → Act → World → Prop) (ha : RxB a df Pb Rb Eb arg most M) (hm : w.rowIs M 58 14 f) (hr : w.rowIs Rb 34 8 fr) (he : w.rowIs Eb 35 1 (fun _ => .int .i64 0))
    (hf : ∀ j, j < 8 → f (5 + j) = resV how val (.slice ra rn rc) (.slice fa fn fc) (.slice wa wn wc) steps forks over j)
    (hQ : ∀ (a' : Act), RxB a' df Pb Rb Eb arg most M → Q .normal a' (((((((((w.setCell ⟨Rb, 0, none⟩ (.int .i64 how)).setCell ⟨Rb, 1, none⟩ (.int .i64 val)).setCell ⟨Rb, 2, none⟩ (.slice ra rn rc)).setCell ⟨Rb, 3, none⟩ (.slice fa fn fc)).setCell ⟨Rb, 4, none⟩ (.slice wa wn wc)).setCell ⟨Rb, 5, none⟩ (.int .i64 steps)).setCell ⟨Rb, 6, none⟩ (.int .i64 forks)).setCell ⟨Rb, 7, none⟩ (.bool over)).setCell ⟨Eb, 0, none⟩ (.int .i64 0))) : (nth 7 (bodyOf Tryz.f8)).wp Tryz.prog Q a w := by
  simp only [nth, bodyOf, Tryz.f8, Option.getD]
  obtain ⟨⟨hsz, hdf, t1, t2, t3, t6, t7⟩, t9⟩ := ha
  obtain ⟨_, t6'⟩ := get_of t6
  obtain ⟨_, t7'⟩ := get_of t7
  obtain ⟨_, t9'⟩ := get_of t9
  have m0 : w.cell? ⟨M, 5, none⟩ = some (.int .i64 how) := (hm.cell (i := 5) (by omega)).trans (congrArg some (hf 0 (by omega)))
  have m1 : w.cell? ⟨M, 6, none⟩ = some (.int .i64 val) := (hm.cell (i := 6) (by omega)).trans (congrArg some (hf 1 (by omega)))
  have m2 : w.cell? ⟨M, 7, none⟩ = some (.slice ra rn rc) := (hm.cell (i := 7) (by omega)).trans (congrArg some (hf 2 (by omega)))
  have m3 : w.cell? ⟨M, 8, none⟩ = some (.slice fa fn fc) := (hm.cell (i := 8) (by omega)).trans (congrArg some (hf 3 (by omega)))
  have m4 : w.cell? ⟨M, 9, none⟩ = some (.slice wa wn wc) := (hm.cell (i := 9) (by omega)).trans (congrArg some (hf 4 (by omega)))
  have m5 : w.cell? ⟨M, 10, none⟩ = some (.int .i64 steps) := (hm.cell (i := 10) (by omega)).trans (congrArg some (hf 5 (by omega)))
  have m6 : w.cell? ⟨M, 11, none⟩ = some (.int .i64 forks) := (hm.cell (i := 11) (by omega)).trans (congrArg some (hf 6 (by omega)))
  have m7 : w.cell? ⟨M, 12, none⟩ = some (.bool over) := (hm.cell (i := 12) (by omega)).trans (congrArg some (hf 7 (by omega)))
  have q0 := hr.cell (i := 0) (by omega)
  have q1 := hr.cell (i := 1) (by omega)
  have q2 := hr.cell (i := 2) (by omega)
  have q3 := hr.cell (i := 3) (by omega)
  have q4 := hr.cell (i := 4) (by omega)
  have q5 := hr.cell (i := 5) (by omega)
  have q6 := hr.cell (i := 6) (by omega)
  have q7 := hr.cell (i := 7) (by omega)
  have z0 := hr.frozen 0
  have z1 := hr.frozen 1
  have z2 := hr.frozen 2
  have z3 := hr.frozen 3
  have z4 := hr.frozen 4
  have z5 := hr.frozen 5
  have z6 := hr.frozen 6
  have z7 := hr.frozen 7
  have e0 := he.cell (i := 0) (by omega)
  have ez := he.frozen 0
  have lM := hm.lt
  have lR := hr.lt
  have lE := he.lt
  have hRE : Rb ≠ Eb := row_far hr he (by decide)
  have hER : Eb ≠ Rb := fun e => hRE e.symm
  have HQ := Lib.hid hQ
  clear hm hr he hf hQ
  go_wp2_with fail
  exact HQ.out _ ⟨⟨by simp [hsz], by first | rfl | exact hdf, by simp [Array.getElem?_setIfInBounds, t1], by simp [Array.getElem?_setIfInBounds, t2], by simp [Array.getElem?_setIfInBounds, t3], by simp [Array.getElem?_setIfInBounds, t6], by simp [Array.getElem?_setIfInBounds, t7]⟩, by simp [Array.getElem?_setIfInBounds, t9]⟩
set_option maxRecDepth 100000 in
set_option maxHeartbeats 4000000 in
theorem close_quiet (Rb Eb : Nat) (w : World) : CallsD Tryz.prog 17 #[.pointer (some ⟨Rb, 0, none⟩), .pointer (some ⟨Eb, 0, none⟩)] .returning w fun e u' w' => e = .returned (.tuple #[]) ∧ u' = .returning ∧ w' = w := by
  have h1 := neq_nilo
  have h2 := neq_niln
  refine callsD_of_wpS Tryz.func17 rfl fun c₀ cs hu => ?_
  apply wpS_seq
  apply wpS_region
  simp [wpOpsS, go_sem, recoverD, hu, Tryz.ntmps17, Exit.thenS]
  refine wpS_of_wp (at_act ⟨#[.pointer (some ⟨Rb, 0, none⟩), .pointer (some ⟨Eb, 0, none⟩), .nilIface, .nilIface, undef, undef, undef, undef, undef, undef, undef, undef], []⟩ (by kernel_rfl) ?_)
  go_wp2_with fail
  exact ⟨rfl, _, rfl, _, by simp [results, Tryz.results17, go_sem], rfl, hu, rfl⟩
set_option maxRecDepth 100000 in
set_option maxHeartbeats 4000000 in
theorem close_over (Rb Eb : Nat) (older : List PanicEntry) (fr : Nat → Value) (w : World) (hr : w.rowIs Rb 34 8 fr) (he : w.rowIs Eb 35 1 (fun _ => .int .i64 0)) : CallsD Tryz.prog 17 #[.pointer (some ⟨Rb, 0, none⟩), .pointer (some ⟨Eb, 0, none⟩)] (.panicking ({ v := overV, recovered := false } :: older)) w fun e u' w' =>
    e = .returned (.tuple #[]) ∧ u' = .panicking ({ v := overV, recovered := true } :: older) ∧ w' = (((((((((w.setCell ⟨Rb, 0, none⟩ (.int .i64 0)).setCell ⟨Rb, 1, none⟩ (.int .i64 0)).setCell ⟨Rb, 2, none⟩ (.slice none 0 0)).setCell ⟨Rb, 3, none⟩ (.slice none 0 0)).setCell ⟨Rb, 4, none⟩ (.slice none 0 0)).setCell ⟨Rb, 5, none⟩ (.int .i64 0)).setCell ⟨Rb, 6, none⟩ (.int .i64 0)).setCell ⟨Rb, 7, none⟩ (.bool true)).setCell ⟨Eb, 0, none⟩ (.int .i64 0)) := by
  have h1 := neq_over
  have q0 := hr.cell (i := 0) (by omega)
  have q1 := hr.cell (i := 1) (by omega)
  have q2 := hr.cell (i := 2) (by omega)
  have q3 := hr.cell (i := 3) (by omega)
  have q4 := hr.cell (i := 4) (by omega)
  have q5 := hr.cell (i := 5) (by omega)
  have q6 := hr.cell (i := 6) (by omega)
  have q7 := hr.cell (i := 7) (by omega)
  have z0 := hr.frozen 0
  have z1 := hr.frozen 1
  have z2 := hr.frozen 2
  have z3 := hr.frozen 3
  have z4 := hr.frozen 4
  have z5 := hr.frozen 5
  have z6 := hr.frozen 6
  have z7 := hr.frozen 7
  have e0 := he.cell (i := 0) (by omega)
  have ez := he.frozen 0
  have lR := hr.lt
  have lE := he.lt
  have hRE : Rb ≠ Eb := row_far hr he (by decide)
  have hER : Eb ≠ Rb := fun e => hRE e.symm
  clear hr he
  unfold overV
  refine callsD_of_wpS Tryz.func17 rfl fun c₀ cs hu => ?_
  apply wpS_seq
  apply wpS_region
  simp [wpOpsS, go_sem, recoverD, hu, Tryz.ntmps17, Exit.thenS]
  refine wpS_of_wp (at_act ⟨#[.pointer (some ⟨Rb, 0, none⟩), .pointer (some ⟨Eb, 0, none⟩), .iface 60 (.agg #[]), .iface 60 (.agg #[]), undef, undef, undef, undef, undef, undef, undef, undef], []⟩ (by kernel_rfl) ?_)
  go_wp2_with fail
  exact ⟨rfl, _, rfl, _, by simp [results, Tryz.results17, go_sem], rfl, rfl, rfl⟩
def idxy11 : List (Nat × Nat) := [(0, 58), (1, 59), (2, 60), (3, 61), (4, 62), (5, 63), (6, 64), (7, 65), (8, 66), (9, 67), (10, 68), (11, 69), (12, 70), (13, 71), (14, 72), (15, 73), (16, 74)]
def Vy11 (M R : Nat) (vr : Value) (x : FRan) : Nat → Value := fun sl => match sl with
  | 58 => .pointer (some ⟨M, 0, none⟩)
  | 59 => .pointer (some ⟨M, 0, none⟩)
  | 60 => .pointer (some ⟨M, 0, none⟩)
  | 61 => .pointer (some ⟨M, 5, none⟩)
  | 62 => .pointer (some ⟨M, 7, none⟩)
  | 63 => vr
  | 64 => .pointer (some ⟨M, 0, none⟩)
  | 65 => .pointer (some ⟨M, 0, none⟩)
  | 66 => .pointer (some ⟨M, 13, none⟩)
  | 67 => .map (some R)
  | 68 => .int .i64 x.key
  | 69 => ranV x
  | 70 => undef
  | 71 => undef
  | 72 => .pointer (some ⟨M, 0, none⟩)
  | 73 => .pointer (some ⟨M, 5, none⟩)
  | 74 => .pointer (some ⟨M, 7, none⟩)
  | _ => undef
theorem findNow_hit (k : Int) (v : Value) : ∀ (l : List MapEntry) (i : Nat), (∀ e ∈ l, ∃ n, e.key = .int .i64 n) → (∃ e ∈ l, e.key = .int .i64 k) → (∀ e ∈ l, e.key = .int .i64 k → e.val = v) → ∃ j, Instr.findNow (.int .i64) (.int .i64 k) l i = some (some (j, v))
  | [], _, _, h, _ => by obtain ⟨e, he, _⟩ := h; cases he
  | e :: l, i, h1, h2, h3 => by
    obtain ⟨n, hn⟩ := h1 e (by simp)
    unfold Instr.findNow
    rw [hn]
    by_cases hk : k = n
    · subst hk
      have hv := h3 e (by simp) hn
      exact ⟨i, by simp [Instr.sameNow, hv]⟩
    · have : (k == n) = false := by simpa using hk
      simp [Instr.sameNow, this]
      refine findNow_hit k v l (i + 1) (fun e he => h1 e (by simp [he])) ?_ (fun e he => h3 e (by simp [he]))
      obtain ⟨e', he', hk'⟩ := h2
      rcases List.mem_cons.1 he' with rfl | he'
      · rw [hn] at hk'; injection hk' with _ hk'; exact absurd hk'.symm hk
      · exact ⟨e', he', hk'⟩
/-- What the machine's map answers. -/
theorem look_ran {es : Array MapEntry} {clk : Nat} {l : List FRan} (h : MapIs es clk l) (hS : Srt l) {x : FRan} (hx : x ∈ l) {w : World} {R : Nat} (hR : w.heap[R]? = some (.map es clk)) : (Instr.lookup 56 (.map (some R)) (.int .i64 x.key) false).run Tryz.prog w = .ok (ranV x) w := by
  have hmem : ∀ e ∈ es.toList, ∃ y ∈ l, e.key = .int .i64 y.key ∧ e.val = ranV y := fun e he => by
    have h1 : (e.key, e.val) ∈ es.toList.map fun e => (e.key, e.val) := List.mem_map.2 ⟨e, he, rfl⟩
    obtain ⟨y, hy, e2⟩ := List.mem_map.1 (h.1.mem_iff.1 h1)
    injection e2 with e3 e4
    exact ⟨y, hy, e3.symm, e4.symm⟩
  have huniq : ∀ y ∈ l, y.key = x.key → y = x := by
    clear hmem h hR
    induction l with
    | nil => intro y hy; cases hy
    | cons z l ih =>
      have hp := List.pairwise_cons.1 hS
      intro y hy e
      rcases List.mem_cons.1 hy with ey | hy' <;> rcases List.mem_cons.1 hx with ex | hx'
      · rw [ey, ex]
      · have := hp.1 x hx'; rw [ey] at e; omega
      · have := hp.1 y hy'; rw [ex] at e; omega
      · exact ih hp.2 hx' y hy' e
  obtain ⟨j, hj⟩ := findNow_hit x.key (ranV x) es.toList 0 (fun e he => by obtain ⟨y, _, e1, _⟩ := hmem e he; exact ⟨_, e1⟩) (by
      have h1 : (Value.int .i64 x.key, ranV x) ∈ l.map fun r => (Value.int .i64 r.key, ranV r) := List.mem_map.2 ⟨x, hx, rfl⟩
      obtain ⟨e, he, e2⟩ := List.mem_map.1 (h.1.mem_iff.2 h1)
      injection e2 with e3 e4
      exact ⟨e, he, e3⟩) (fun e he hk => by
      obtain ⟨y, hy, e1, e2⟩ := hmem e he
      rw [e1] at hk
      injection hk with _ hk
      rw [e2, huniq y hy hk])
  exact MapI.run_lookup_hit Tryz.prog w 56 3 67 Tryz.underlying56 Tryz.underlying3 R es clk hR x.key j (ranV x) hj
theorem info37e : (Tryz.prog.info? 67).map (fun i => (i.zero, i.size, i.bytes)) = some (some (.agg #[.int .i64 0, .int .i64 0, .int .i64 0, .int .i64 0, .int .i64 0]), 5, 40) := by kernel_rfl
theorem own_keep {w w' : World} {base n : Nat} {e : TypeId} {size : Nat} {v : Value} {xs : List Value} (h : w.ownsRow base e size v n xs) (hb : ∀ g, v.ownBlock = some g → w'.heap[g]? = w.heap[g]?) : w'.ownsRow base e size v n xs := by
  obtain ⟨h1, h2 | ⟨g, cap, cur, h2, h3, h4, h5⟩⟩ := h
  · exact ⟨h1, Or.inl h2⟩
  · exact ⟨h1, Or.inr ⟨g, cap, cur, h2, h3, (hb g (by rw [h2]; rfl)).trans h4, h5⟩⟩
theorem own_type {w : World} {base n : Nat} {e : TypeId} {size : Nat} {v : Value} {xs : List Value} (h : w.ownsRow base e size v n xs) {g : Nat} (hg : v.ownBlock = some g) : base ≤ g ∧ ∃ cur, w.heap[g]? = some (.cells cur e (0, 0)) := by
  obtain ⟨h1, ⟨h2, _⟩ | ⟨g', cap, cur, h2, h3, h4, h5⟩⟩ := h
  · rw [h2] at hg; cases hg
  · rw [h2] at hg
    injection hg with hg
    change g' = g at hg
    subst hg
    exact ⟨h3, cur, h4⟩
theorem own_row {w : World} {base n m : Nat} {e t : TypeId} {size : Nat} {v : Value} {xs : List Value} {f : Nat → Value} {M : Nat} (h : w.ownsRow base e size v n xs) (hr : w.rowIs M t m f) (hne : e ≠ t) : v.ownBlock ≠ some M := fun hg => by
  obtain ⟨_, cur, hc⟩ := own_type h hg
  exact ty_ne hr hc hne rfl
/-- The eleventh region under way. -/
structure W11 (w : World) (base M R k : Nat) (vr : Value) (xs : List Value) (x : FRan) (m0 : Nat → Value) (es : Array MapEntry) (clk : Nat) (L : Array Bool) (V : Nat → Value) (w' : World) : Prop where
  stat : ∀ q ∈ idxy11, q.2 ≠ 70 → q.2 ≠ 71 → L[q.1]? = some true → V q.2 = Vy11 M R vr x q.2
  s70 : L[12]? = some true → L[13]? = some false → ∃ g, V 70 = .slice (some ⟨g, 0, none⟩) 1 1 ∧ ∀ j u, (rc5 x)[j]? = some u → w'.cell? ⟨g, j, none⟩ = some u
  own0 : L[13]? = some false → w'.ownsRow base 67 5 vr k xs
  own1 : L[13]? = some true → w'.ownsRow base 67 5 (V 71) (k + 1) (xs ++ rc5 x)
  m : w'.rowIs M 58 14 (fun j => if j = 7 ∧ L[17]? = some true then V 71 else m0 j)
  r : w'.heap[R]? = some (.map es clk)
  ch : Ch (fun i => i = M ∨ vr.ownBlock = some i) w w'
section
variable {w w8 : World} {base M R k : Nat} {vr : Value} {xs : List Value} {x : FRan} {m0 : Nat → Value} {es : Array MapEntry} {clk : Nat} {L : Array Bool} {V : Nat → Value}
theorem W11.start (ho : w.ownsRow base 67 5 vr k xs) (hm : w.rowIs M 58 14 m0) (hR : w.heap[R]? = some (.map es clk)) : W11 w base M R k vr xs x m0 es clk (Array.replicate 18 false) (Vy11 M R vr x) w.drew :=
  ⟨fun _ _ _ _ _ => rfl, fun h => by rw [Array.getElem?_replicate] at h; simp at h, fun _ => own_keep ho (fun _ _ => rfl), fun h => by rw [Array.getElem?_replicate] at h; simp at h, World.rowIs.congr (World.rowIs.drew hm) (fun j _ => by
    rw [if_neg (show ¬ (j = 7 ∧ (Array.replicate 18 false)[17]? = some true) from fun h => absurd h.2 (by decide))]), hR, (Ch.refl _ _).drew⟩
theorem W11.stat' (h : W11 w base M R k vr xs x m0 es clk L V w8) (i s : Nat) (u : Value) (hx : s ≠ 70 → s ≠ 71 → u = Vy11 M R vr x s) (hu : ∀ q ∈ idxy11, q = (i, s) ∨ (q.1 ≠ i ∧ q.2 ≠ s)) :
    ∀ q ∈ idxy11, q.2 ≠ 70 → q.2 ≠ 71 → (L.setIfInBounds i true)[q.1]? = some true → Tab.upd V s u q.2 = Vy11 M R vr x q.2 := fun q hq h6 h7 hL => by
  rcases hu q hq with rfl | ⟨g1, g2⟩
  · rw [Tab.upd_self]; exact hx h6 h7
  · rw [Tab.upd_ne _ _ g2]
    exact h.stat q hq h6 h7 (by rwa [Tab.get_ne g1] at hL)
theorem W11.step (h : W11 w base M R k vr xs x m0 es clk L V w8) (i s : Nat) (h1 : s ≠ 70) (h2 : s ≠ 71) (h4 : i ≠ 12) (h7 : i ≠ 13) (h11 : i ≠ 17) (hu : ∀ q ∈ idxy11, q = (i, s) ∨ (q.1 ≠ i ∧ q.2 ≠ s)) : W11 w base M R k vr xs x m0 es clk (L.setIfInBounds i true) (Tab.upd V s (Vy11 M R vr x s)) w8 := by
  refine ⟨h.stat' i s _ (fun _ _ => rfl) hu, fun hL hL' => ?_, fun hL => ?_, fun hL => ?_, World.rowIs.congr h.m (fun j _ => ?_), h.r, h.ch⟩
  · rw [Tab.get_ne h4.symm] at hL
    rw [Tab.get_ne h7.symm] at hL'
    rw [Tab.upd_ne _ _ h1.symm]; exact h.s70 hL hL'
  · rw [Tab.get_ne h7.symm] at hL
    exact h.own0 hL
  · rw [Tab.get_ne h7.symm] at hL
    rw [Tab.upd_ne _ _ h2.symm]; exact h.own1 hL
  · rw [Tab.get_ne h11.symm, Tab.upd_ne _ _ h2.symm]
theorem W11.mkS (h : W11 w base M R k vr xs x m0 es clk L V w8) (hL : L[12]? = some false) (h13 : L[13]? = some false) : W11 w base M R k vr xs x m0 es clk (L.setIfInBounds 12 true) (Tab.upd V 70 (.slice (some ⟨w8.heap.size, 0, none⟩) 1 1)) (w8.alloc (.cells #[.int .i64 x.key, .int .i64 x.fn, .int .i64 x.arg, .int .i64 x.how, .int .i64 x.val] 67)) := by
  refine ⟨h.stat' 12 70 _ (fun g => absurd rfl g) (by decide), fun _ _ => ⟨w8.heap.size, Tab.upd_self _ _ _, fun j u hu => ?_⟩, fun hL' => ?_, fun hL' => ?_, ?_, ?_, h.ch.alloc _⟩
  · have hr := World.rowIs_alloc w8 #[.int .i64 x.key, .int .i64 x.fn, .int .i64 x.arg, .int .i64 x.how, .int .i64 x.val] 67 (fun j => (rc5 x).getD j undef) (by
      show ∀ i, i < 5 → _
      repeat refine all_lt ?_ rfl
      exact all_none)
    have hj : j < 5 := by
      rcases Nat.lt_or_ge j 5 with g | g
      · exact g
      · rw [List.getElem?_eq_none (by simpa [rc5] using g)] at hu; cases hu
    rw [hr.cell (i := j) hj, List.getD_eq_getElem?_getD, hu]
    rfl
  · rw [Tab.get_ne (by decide)] at hL'
    exact own_keep (h.own0 hL') (fun g hg => heap_alloc_old w8 _ (by obtain ⟨_, cur, hc⟩ := own_type (h.own0 hL') hg; rcases Nat.lt_or_ge g w8.heap.size with q | q; exact q; rw [Array.getElem?_eq_none q] at hc; cases hc))
  · rw [Tab.get_ne (by decide), h13] at hL'; cases hL'
  · refine World.rowIs.congr (World.rowIs.alloc h.m _) (fun j _ => ?_)
    rw [Tab.get_ne (by decide), Tab.upd_ne _ _ (by decide : (71 : Nat) ≠ 70)]
  · exact heap_bl h.r ((Bl.refl _).alloc _)
theorem W11.app (h : W11 w base M R k vr xs x m0 es clk L V w8) (hL : L[13]? = some false) (h17 : L[17]? = some false) {v' : Value} {w9 : World} (ho : w9.ownsRow base 67 5 v' (k + 1) (xs ++ rc5 x)) (hg : w8.grownBy w9 vr.ownBlock) : W11 w base M R k vr xs x m0 es clk (L.setIfInBounds 13 true) (Tab.upd V 71 v') w9 := by
  have own := h.own0 hL
  have hc : Ch (fun i => vr.ownBlock = some i) w8 w9 := ⟨hg.os, hg.tape, hg.output, hg.size, fun i hi hn => hg.block i hi (fun e => hn e.symm)⟩
  refine ⟨h.stat' 13 71 _ (fun _ g => absurd rfl g) (by decide), fun _ hL' => ?_, fun hL' => ?_, fun _ => ?_, ?_, ?_, h.ch.trans (hc.mono fun _ _ e => Or.inr e)⟩
  · rw [Tab.get_self hL] at hL'; cases hL'
  · rw [Tab.get_self hL] at hL'; cases hL'
  · rw [Tab.upd_self]; exact ho
  · refine World.rowIs.congr (hc.row h.m (own_row own h.m (by decide))) (fun j _ => ?_)
    rw [Tab.get_ne (by decide), h17]
    simp
  · refine heap_ch h.r hc (fun e => ?_)
    obtain ⟨_, cur, hcur⟩ := own_type own e
    rw [h.r] at hcur; cases hcur
theorem W11.st (h : W11 w base M R k vr xs x m0 es clk L V w8) (h13 : L[13]? = some true) (hL : L[17]? = some false) : W11 w base M R k vr xs x m0 es clk (L.setIfInBounds 17 true) V (w8.setCell ⟨M, 7, none⟩ (V 71)) := by
  have own := h.own1 h13
  have hc : Ch (· = M) w8 (w8.setCell ⟨M, 7, none⟩ (V 71)) := (Ch.refl _ _).setB _
  refine ⟨fun q hq h6 h7 hL' => h.stat q hq h6 h7 ?_, fun _ hL' => ?_, fun hL' => ?_, fun _ => ?_, ?_, ?_, h.ch.trans (hc.mono fun _ _ e => Or.inl e)⟩
  · have hne : ∀ q ∈ idxy11, q.1 ≠ 17 := by decide
    rwa [Tab.get_ne (hne q hq)] at hL'
  · rw [Tab.get_ne (by decide), h13] at hL'; cases hL'
  · rw [Tab.get_ne (by decide), h13] at hL'; cases hL'
  · refine own_keep own (fun g hg => hc.block g ?_ (fun e => own_row own h.m (by decide) (by rw [hg, e])))
    obtain ⟨_, cur, hcur⟩ := own_type own hg
    rcases Nat.lt_or_ge g w8.heap.size with q | q
    · exact q
    · rw [Array.getElem?_eq_none q] at hcur; cases hcur
  · refine World.rowIs.congr (h.m.set 7 (V 71)) (fun j _ => ?_)
    rw [Tab.get_self hL, hL]
    by_cases e : j = 7
    · simp [e]
    · simp [e]
  · exact heap_ch h.r hc (fun e => rowB h.m h.r e.symm)
end
theorem own_slice {w : World} {base n : Nat} {e : TypeId} {size : Nat} {v : Value} {xs : List Value} (h : w.ownsRow base e size v n xs) : ∃ A n c, v = .slice A n c := by
  obtain ⟨_, ⟨h2, _⟩ | ⟨g', cap, cur, h2, _⟩⟩ := h
  · exact ⟨_, _, _, h2⟩
  · exact ⟨_, _, _, h2⟩
set_option maxRecDepth 100000 in
set_option maxHeartbeats 8000000 in
theorem ev_r11 (base M R Pb Rb Eb k : Nat) (arg most n' k' : Int) (v52 vr : Value) (xs : List Value) (x : FRan) (l : List FRan) (es : Array MapEntry) (clk : Nat) (m0 : Nat → Value) (df : List Deferred) (w : World) (a : Act) (Q : Exit → Act → World → Prop) (ha : RxC a df Pb Rb Eb arg most M v52 n' k') (t11 : a.tmps[11]? = some (.int .i64 x.key))
    (ho : w.ownsRow base 67 5 vr k xs) (hm : w.rowIs M 58 14 m0) (hR : w.heap[R]? = some (.map es clk)) (hm7 : m0 7 = vr) (hm13 : m0 13 = .map (some R)) (hMI : MapIs es clk l) (hS : Srt l) (hx : x ∈ l) (hk : k ≤ 100000) (hbw : base ≤ w.heap.size)
    (hQ : ∀ (a' : Act) (w' : World) (v' : Value), RxC a' df Pb Rb Eb arg most M v52 n' k' → w'.ownsRow base 67 5 v' (k + 1) (xs ++ rc5 x) → w'.rowIs M 58 14 (fun j => if j = 7 then v' else m0 j) → w'.heap[R]? = some (.map es clk) → Ch (fun i => i = M ∨ vr.ownBlock = some i) w w' → Q .normal a' w') : (nth 1 (rki Tryz.f8)).wp Tryz.prog Q a w := by
  simp only [nth, bodyOf, Tryz.f8, Option.getD, rk, rki, inK]
  obtain ⟨⟨⟨hsz, hdf, t1, t2, t3, t6, t7⟩, t9⟩, t52, t53, t54⟩ := ha
  obtain ⟨i0, hi, he⟩ := Option.map_eq_some_iff.1 info37e
  obtain ⟨hz0, hz1, hz2⟩ : i0.zero = some (.agg #[.int .i64 0, .int .i64 0, .int .i64 0, .int .i64 0, .int .i64 0]) ∧ i0.size = 5 ∧ i0.bytes = 40 := by
    injection he with e1 e2
    injection e2 with e2 e3
    exact ⟨e1, e2, e3⟩
  obtain ⟨Av, nv, cv, hvr⟩ := own_slice ho
  refine Tab.region_tab7 (by kernel_rfl) idxy11 80 (W11 w base M R k vr xs x m0 es clk) (by kernel_rfl) hsz (by kernel_rfl) ⟨_, W11.start ho hm hR⟩ ?_ ?_
  · intro L V a' w2 hT hsz' hd hW
    refine hQ a' w2 (V 71) ⟨⟨⟨hT.sz.trans hsz, hT.dfs.trans hdf, (hT.out 1 (by decide)).trans t1, (hT.out 2 (by decide)).trans t2, (hT.out 3 (by decide)).trans t3, (hT.out 6 (by decide)).trans t6, (hT.out 7 (by decide)).trans t7⟩, (hT.out 9 (by decide)).trans t9⟩, (hT.out 52 (by decide)).trans t52, (hT.out 53 (by decide)).trans t53, (hT.out 54 (by decide)).trans t54⟩ (hW.own1 (hd 13 (by decide))) (World.rowIs.congr hW.m (fun j _ => ?_)) hW.r hW.ch
    rw [hd 17 (by decide)]
    simp
  · intro i' o L V a' w8 K' hT hsz' hW hL ho hd hold hcl hK
    have hi' : i' < 18 := (Array.getElem?_eq_some_iff.1 ho).1
    have HT : Hid (∀ qq ∈ idxy11, L[qq.1]? = some true → a'.tmps[qq.2]? = some (V qq.2)) := hT.tab
    have HW := Lib.hid hW
    have HMI := Lib.hid hMI
    have lM := hW.m.lt
    clear hold hQ hW hm hMI he
    obtain rfl | rfl | rfl | rfl | rfl | rfl | rfl | rfl | rfl | rfl | rfl | rfl | rfl | rfl | rfl | rfl | rfl | rfl : i' = 0 ∨ i' = 1 ∨ i' = 2 ∨ i' = 3 ∨ i' = 4 ∨ i' = 5 ∨ i' = 6 ∨ i' = 7 ∨ i' = 8 ∨ i' = 9 ∨ i' = 10 ∨ i' = 11 ∨ i' = 12 ∨ i' = 13 ∨ i' = 14 ∨ i' = 15 ∨ i' = 16 ∨ i' = 17 := by omega
    · have s9 : a'.tmps[9]? = some (.pointer (some ⟨M, 0, none⟩)) := (hT.out 9 (by decide)).trans t9
      cases ho
      clear hd HT hT hcl
      go_simp
      exact hK _ _ (HW.out.step 0 58 (by decide) (by decide) (by decide) (by decide) (by decide) (by decide))
    · have s9 : a'.tmps[9]? = some (.pointer (some ⟨M, 0, none⟩)) := (hT.out 9 (by decide)).trans t9
      cases ho
      clear hd HT hT hcl
      go_simp
      exact hK _ _ (HW.out.step 1 59 (by decide) (by decide) (by decide) (by decide) (by decide) (by decide))
    · have s59 : a'.tmps[59]? = some (.pointer (some ⟨M, 0, none⟩)) := (HT.out (1, 59) (by decide) (by cases ho; exact hd ⟨1, .data⟩ (by simp) rfl)).trans (congrArg some (HW.out.stat (1, 59) (by decide) (by decide) (by decide) (by cases ho; exact hd ⟨1, .data⟩ (by simp) rfl)))
      cases ho
      clear hd HT hT hcl
      go_simp
      exact hK _ _ (HW.out.step 2 60 (by decide) (by decide) (by decide) (by decide) (by decide) (by decide))
    · have s60 : a'.tmps[60]? = some (.pointer (some ⟨M, 0, none⟩)) := (HT.out (2, 60) (by decide) (by cases ho; exact hd ⟨2, .data⟩ (by simp) rfl)).trans (congrArg some (HW.out.stat (2, 60) (by decide) (by decide) (by decide) (by cases ho; exact hd ⟨2, .data⟩ (by simp) rfl)))
      cases ho
      clear hd HT hT hcl
      go_simp
      exact hK _ _ (HW.out.step 3 61 (by decide) (by decide) (by decide) (by decide) (by decide) (by decide))
    · have s61 : a'.tmps[61]? = some (.pointer (some ⟨M, 5, none⟩)) := (HT.out (3, 61) (by decide) (by cases ho; exact hd ⟨3, .data⟩ (by simp) rfl)).trans (congrArg some (HW.out.stat (3, 61) (by decide) (by decide) (by decide) (by cases ho; exact hd ⟨3, .data⟩ (by simp) rfl)))
      cases ho
      clear hd HT hT hcl
      go_simp
      exact hK _ _ (HW.out.step 4 62 (by decide) (by decide) (by decide) (by decide) (by decide) (by decide))
    · have l17 : L[17]? = some false := Tab.notyet hsz' (hcl 17 _ rfl) 13 ⟨⟨13, .data⟩, by simp, rfl, rfl⟩ (Tab.notyet hsz' (hcl 13 _ rfl) 5 ⟨⟨5, .data⟩, by simp, rfl, rfl⟩ hL)
      have s62 : a'.tmps[62]? = some (.pointer (some ⟨M, 7, none⟩)) := (HT.out (4, 62) (by decide) (by cases ho; exact hd ⟨4, .data⟩ (by simp) rfl)).trans (congrArg some (HW.out.stat (4, 62) (by decide) (by decide) (by decide) (by cases ho; exact hd ⟨4, .data⟩ (by simp) rfl)))
      cases ho
      clear hd HT hT hcl
      have y7 : w8.cell? ⟨M, 7, none⟩ = some (.slice Av nv cv) := (HW.out.m.cell (i := 7) (by omega)).trans (congrArg some ((if_neg (fun q => (by rw [l17] at q; cases q.2 : False))).trans (hm7.trans hvr)))
      have hst := HW.out.step 5 63 (by decide) (by decide) (by decide) (by decide) (by decide) (by decide)
      have HST := Lib.hid hst
      clear hst
      go_simp
      have h9 := hK vr w8 HST.out
      rw [hvr] at h9
      exact h9
    · have s9 : a'.tmps[9]? = some (.pointer (some ⟨M, 0, none⟩)) := (hT.out 9 (by decide)).trans t9
      cases ho
      clear hd HT hT hcl
      go_simp
      exact hK _ _ (HW.out.step 6 64 (by decide) (by decide) (by decide) (by decide) (by decide) (by decide))
    · have s64 : a'.tmps[64]? = some (.pointer (some ⟨M, 0, none⟩)) := (HT.out (6, 64) (by decide) (by cases ho; exact hd ⟨6, .data⟩ (by simp) rfl)).trans (congrArg some (HW.out.stat (6, 64) (by decide) (by decide) (by decide) (by cases ho; exact hd ⟨6, .data⟩ (by simp) rfl)))
      cases ho
      clear hd HT hT hcl
      go_simp
      exact hK _ _ (HW.out.step 7 65 (by decide) (by decide) (by decide) (by decide) (by decide) (by decide))
    · have s65 : a'.tmps[65]? = some (.pointer (some ⟨M, 0, none⟩)) := (HT.out (7, 65) (by decide) (by cases ho; exact hd ⟨7, .data⟩ (by simp) rfl)).trans (congrArg some (HW.out.stat (7, 65) (by decide) (by decide) (by decide) (by cases ho; exact hd ⟨7, .data⟩ (by simp) rfl)))
      cases ho
      clear hd HT hT hcl
      go_simp
      exact hK _ _ (HW.out.step 8 66 (by decide) (by decide) (by decide) (by decide) (by decide) (by decide))
    · have s66 : a'.tmps[66]? = some (.pointer (some ⟨M, 13, none⟩)) := (HT.out (8, 66) (by decide) (by cases ho; exact hd ⟨8, .data⟩ (by simp) rfl)).trans (congrArg some (HW.out.stat (8, 66) (by decide) (by decide) (by decide) (by cases ho; exact hd ⟨8, .data⟩ (by simp) rfl)))
      cases ho
      clear hd HT hT hcl
      have y13 : w8.cell? ⟨M, 13, none⟩ = some (.map (some R)) := (HW.out.m.cell (i := 13) (by omega)).trans (congrArg some ((if_neg (fun q => absurd q.1 (by decide))).trans hm13))
      go_simp
      exact hK _ _ (HW.out.step 9 67 (by decide) (by decide) (by decide) (by decide) (by decide) (by decide))
    · have s11 : a'.tmps[11]? = some (.int .i64 x.key) := (hT.out 11 (by decide)).trans t11
      cases ho
      clear hd HT hT hcl
      go_simp
      exact hK _ _ (HW.out.step 10 68 (by decide) (by decide) (by decide) (by decide) (by decide) (by decide))
    · have s67 : a'.tmps[67]? = some (.map (some R)) := (HT.out (9, 67) (by decide) (by cases ho; exact hd ⟨9, .data⟩ (by simp) rfl)).trans (congrArg some (HW.out.stat (9, 67) (by decide) (by decide) (by decide) (by cases ho; exact hd ⟨9, .data⟩ (by simp) rfl)))
      have s68 : a'.tmps[68]? = some (.int .i64 x.key) := (HT.out (10, 68) (by decide) (by cases ho; exact hd ⟨10, .data⟩ (by simp) rfl)).trans (congrArg some (HW.out.stat (10, 68) (by decide) (by decide) (by decide) (by cases ho; exact hd ⟨10, .data⟩ (by simp) rfl)))
      cases ho
      clear hd HT hT hcl
      have hlk := look_ran HMI.out hS hx (w := w8) HW.out.r
      go_simp
      exact hK _ _ (HW.out.step 11 69 (by decide) (by decide) (by decide) (by decide) (by decide) (by decide))
    · have l13 : L[13]? = some false := Tab.notyet hsz' (hcl 13 _ rfl) 12 ⟨⟨12, .data⟩, by simp, rfl, rfl⟩ hL
      have s69 : a'.tmps[69]? = some (ranV x) := (HT.out (11, 69) (by decide) (by cases ho; exact hd ⟨11, .data⟩ (by simp) rfl)).trans (congrArg some (HW.out.stat (11, 69) (by decide) (by decide) (by decide) (by cases ho; exact hd ⟨11, .data⟩ (by simp) rfl)))
      cases ho
      clear hd HT hT hcl
      unfold ranV at *
      go_simp
      exact hK _ _ (HW.out.mkS hL l13)
    · have l17 : L[17]? = some false := Tab.notyet hsz' (hcl 17 _ rfl) 13 ⟨⟨13, .data⟩, by simp, rfl, rfl⟩ hL
      have l12 : L[12]? = some true := (by cases ho; exact hd ⟨12, .data⟩ (by simp) rfl)
      obtain ⟨g, hg, g2⟩ := HW.out.s70 l12 hL
      have HG2 := Lib.hid g2
      clear g2
      have s63 : a'.tmps[63]? = some (vr) := (HT.out (5, 63) (by decide) (by cases ho; exact hd ⟨5, .data⟩ (by simp) rfl)).trans (congrArg some (HW.out.stat (5, 63) (by decide) (by decide) (by decide) (by cases ho; exact hd ⟨5, .data⟩ (by simp) rfl)))
      have s70 : a'.tmps[70]? = some (.slice (some ⟨g, 0, none⟩) 1 1) := (HT.out (12, 70) (by decide) l12).trans (congrArg some hg)
      obtain ⟨_, s63'⟩ := get_of s63
      obtain ⟨_, s70'⟩ := get_of s70
      have hown := HW.out.own0 hL
      have hbs : base ≤ w8.heap.size := Nat.le_trans hbw HW.out.ch.size
      cases ho
      clear hd HT hT hcl
      refine wp_append_own w8 _ _ 30 rfl base 67 i0 _ 5 40 Tryz.underlying30 hi hz0 hz1 hz2 rfl (by decide) vr k xs (by show a'.tmps.getD 63 undef = _; rw [Array.getD_eq_getD_getElem?, s63]; rfl) hown ⟨g, 0, none⟩ 1 1 (rc5 x) (by show a'.tmps.getD 70 undef = _; rw [Array.getD_eq_getD_getElem?, s70]; rfl) rfl (fun j u hu => by have hh := HG2.out j u hu; unfold Addr.add; split; (rename_i e0; rw [e0] at hh; exact hh); (simpa using hh)) (by intro u hu; simp [rc5] at hu; rcases hu with rfl | rfl | rfl | rfl | rfl <;> rfl) (by have hmx : (1000000 : Nat) ≤ maxLen := (by decide); omega) (by omega) hbs (fun v' w9 h2 h3 _ => ?_)
      exact hK _ _ (HW.out.app hL l17 h2 h3)
    · have s58 : a'.tmps[58]? = some (.pointer (some ⟨M, 0, none⟩)) := (HT.out (0, 58) (by decide) (by cases ho; exact hd ⟨0, .data⟩ (by simp) rfl)).trans (congrArg some (HW.out.stat (0, 58) (by decide) (by decide) (by decide) (by cases ho; exact hd ⟨0, .data⟩ (by simp) rfl)))
      cases ho
      clear hd HT hT hcl
      go_simp
      exact hK _ _ (HW.out.step 14 72 (by decide) (by decide) (by decide) (by decide) (by decide) (by decide))
    · have s72 : a'.tmps[72]? = some (.pointer (some ⟨M, 0, none⟩)) := (HT.out (14, 72) (by decide) (by cases ho; exact hd ⟨14, .data⟩ (by simp) rfl)).trans (congrArg some (HW.out.stat (14, 72) (by decide) (by decide) (by decide) (by cases ho; exact hd ⟨14, .data⟩ (by simp) rfl)))
      cases ho
      clear hd HT hT hcl
      go_simp
      exact hK _ _ (HW.out.step 15 73 (by decide) (by decide) (by decide) (by decide) (by decide) (by decide))
    · have s73 : a'.tmps[73]? = some (.pointer (some ⟨M, 5, none⟩)) := (HT.out (15, 73) (by decide) (by cases ho; exact hd ⟨15, .data⟩ (by simp) rfl)).trans (congrArg some (HW.out.stat (15, 73) (by decide) (by decide) (by decide) (by cases ho; exact hd ⟨15, .data⟩ (by simp) rfl)))
      cases ho
      clear hd HT hT hcl
      go_simp
      exact hK _ _ (HW.out.step 16 74 (by decide) (by decide) (by decide) (by decide) (by decide) (by decide))
    · have l13 : L[13]? = some true := (by cases ho; exact hd ⟨13, .data⟩ (by simp) rfl)
      have hst := HW.out.st l13 hL
      obtain ⟨v71, hv71⟩ : ∃ v71, v71 = V 71 := ⟨_, rfl⟩
      obtain ⟨A71, n71, c71, e71⟩ := own_slice (HW.out.own1 l13)
      have s74 : a'.tmps[74]? = some (.pointer (some ⟨M, 7, none⟩)) := (HT.out (16, 74) (by decide) (by cases ho; exact hd ⟨16, .data⟩ (by simp) rfl)).trans (congrArg some (HW.out.stat (16, 74) (by decide) (by decide) (by decide) (by cases ho; exact hd ⟨16, .data⟩ (by simp) rfl)))
      have s71 : a'.tmps[71]? = some (.slice A71 n71 c71) := (HT.out (13, 71) (by decide) l13).trans (congrArg some e71)
      cases ho
      clear hd HT hT hcl
      have y7 := HW.out.m.cell (i := 7) (by omega)
      have fz := HW.out.m.frozen 7
      rw [e71] at hst
      have HST := Lib.hid hst
      clear hst
      go_simp
      exact hK (.tuple #[]) _ HST.out
end Go.Proofs.YtonndofbnhnkpaaGreat.Evl
namespace Go.Proofs.YtonndofbnhnkpaaGreat.Evl
open Go.RowKit Num KeyM KeyW StatW Blk VmA VmG Prg EvM Rf PutA CodA
def rkc (f : Func) : Code := .seq (nth 0 (rk f)) (.seq (nth 1 (rk f)) (.seq (.block 1 (.seq (nth 0 (rki f)) (nth 1 (rki f)))) (nth 3 (rk f))))
theorem body42 : bodyOf Tryz.f8 = .seq (nth 0 (bodyOf Tryz.f8)) (.seq (.seq (nth 0 (nth 1 (bodyOf Tryz.f8))) (.seq (nth 1 (nth 1 (bodyOf Tryz.f8))) (nth 2 (nth 1 (bodyOf Tryz.f8))))) (.seq (nth 2 (bodyOf Tryz.f8)) (.seq (nth 3 (bodyOf Tryz.f8)) (.seq (nth 4 (bodyOf Tryz.f8)) (.seq (nth 5 (bodyOf Tryz.f8)) (.seq (.seq (nth 0 (nth 6 (bodyOf Tryz.f8))) (.block 0 (.loop (rkc Tryz.f8)))) (.seq (nth 7 (bodyOf Tryz.f8)) .ret))))))) := by kernel_rfl
def mF (c : Mc) (S : RS) (how val : Int) (vr : Value) : List Value :=
  [.slice c.pa c.fs.length c.pc, .int .i64 c.futs, .int .i64 c.depth, .int .i64 c.fuel, .int .i64 c.most, .int .i64 how, .int .i64 val, vr, .slice (some ⟨c.FB, 0, none⟩) c.futs c.futs, .slice (some ⟨c.WB, 0, none⟩) c.futs c.futs, .int .i64 S.steps, .int .i64 S.forks, .bool false, .map (some c.R)]
/-- The world while what ran is gone through. -/
structure LW (c : Mc) (S : RS) (how val : Int) (es : Array MapEntry) (clk : Nat) (w0 : World) (g cap Rb Eb : Nat) (w : World) (k : Nat) (vr : Value) : Prop where
  row : w.rowIs c.M 58 14 (ofL (mF c S how val vr))
  own : w.ownsRow w0.heap.size 67 5 vr k (rcs5 (S.ran.take k))
  map : w.heap[c.R]? = some (.map es clk)
  fut : w.rowIs c.FB 3 c.futs (fun j => .int .i64 (S.futs j))
  was : w.rowIs c.WB 4 c.futs (fun j => .bool (S.was j))
  res : w.rowIs Rb 34 8 (resV 0 0 (.slice none 0 0) (.slice none 0 0) (.slice none 0 0) 0 0 false)
  err : w.rowIs Eb 35 1 (fun _ => .int .i64 0)
  key : w.ownsRow w0.heap.size 3 1 (.slice (some ⟨g, 0, none⟩) S.ran.length cap) S.ran.length (S.ran.map fun r => Value.int .i64 r.key)
  ch : Bl w0 w
theorem own_cell {w : World} {base n g cap : Nat} {e : TypeId} {xs : List Value} (h : w.ownsRow base e 1 (.slice (some ⟨g, 0, none⟩) n cap) n xs) {k : Nat} {u : Value} (hk : xs[k]? = some u) : w.cell? ⟨g, k, none⟩ = some u := by
  obtain ⟨h1, ⟨h2, _⟩ | ⟨g', cap', cur, h2, h3, h4, h5, h6, h7, h8⟩⟩ := h
  · cases h2
  · injection h2 with h2 _ _
    injection h2 with h2
    injection h2 with h2
    subst h2
    rw [cell_of_row w g k cur e (0, 0) h4]
    have hlt : k < xs.length := (List.getElem?_eq_some_iff.1 hk).1
    have : (cur.toList.take (n * 1))[k]? = some u := by rw [h8]; exact hk
    rw [List.getElem?_take, if_pos (by omega)] at this
    simpa using this
theorem bl_ch {S : Nat → Prop} {w0 w w' : World} (h : Bl w0 w) (hc : Ch S w w') (hs : ∀ i, i < w0.heap.size → ¬ S i) : Bl w0 w' :=
  (Ch.then (Ch.of_bl (S := fun _ => False) h) hc (fun i hi e => hs i hi e)).bl (fun _ _ h => h)
theorem LW.step {c : Mc} {S : RS} {how val : Int} {es : Array MapEntry} {clk : Nat} {w0 : World} {g cap Rb Eb : Nat} {w w' : World} {k : Nat} {vr v' : Value} {x : FRan} (h : LW c S how val es clk w0 g cap Rb Eb w k vr) (hM : w0.heap.size ≤ c.M) (hx : S.ran[k]? = some x)
    (ho : w'.ownsRow w0.heap.size 67 5 v' (k + 1) (rcs5 (S.ran.take k) ++ rc5 x)) (hr : w'.rowIs c.M 58 14 (fun j => if j = 7 then v' else ofL (mF c S how val vr) j)) (hm : w'.heap[c.R]? = some (.map es clk)) (hc : Ch (fun i => i = c.M ∨ vr.ownBlock = some i) w w') : LW c S how val es clk w0 g cap Rb Eb w' (k + 1) v' := by
  have far : ∀ {b m : Nat} {t : TypeId} {f : Nat → Value}, w.rowIs b t m f → t ≠ 67 → t ≠ 58 → ¬ (b = c.M ∨ vr.ownBlock = some b) := fun hb h1 h2 e => by
    rcases e with e | e
    · exact row_far hb h.row h2 e
    · exact own_row h.own hb (fun q => h1 q.symm) e
  refine ⟨World.rowIs.congr hr ?_, ?_, hm, hc.row h.fut (far h.fut (by decide) (by decide)), hc.row h.was (far h.was (by decide) (by decide)), hc.row h.res (far h.res (by decide) (by decide)), hc.row h.err (far h.err (by decide) (by decide)), ?_, bl_ch h.ch hc (fun i hi e => ?_)⟩
  · repeat refine all_lt ?_ rfl
    exact all_none
  · rw [List.take_add_one, hx]
    show w'.ownsRow _ 67 5 v' (k + 1) (List.flatMap rc5 (S.ran.take k ++ [x]))
    rw [List.flatMap_append]
    simpa [rcs5] using ho
  · refine own_keep h.key (fun b hb => ?_)
    obtain ⟨_, cur, hcur⟩ := own_type h.key hb
    have hlt : b < w.heap.size := by
      rcases Nat.lt_or_ge b w.heap.size with q | q
      · exact q
      · rw [Array.getElem?_eq_none q] at hcur; cases hcur
    refine hc.block b hlt (fun e => ?_)
    rcases e with e | e
    · exact own_row h.key h.row (by decide) (by rw [hb, e])
    · obtain ⟨_, cur', hcur'⟩ := own_type h.own e
      rw [hcur] at hcur'
      injection hcur' with hcur'
      injection hcur' with _ q _
      cases q
  · rcases e with e | e
    · omega
    · have := (own_type h.own e).1; omega
theorem keys_loop (c : Mc) (S : RS) (how val : Int) (es : Array MapEntry) (clk : Nat) (w0 : World) (g cap Pb Rb Eb : Nat) (arg most : Int) (df : List Deferred) (Q : Exit → Act → World → Prop) (hM : w0.heap.size ≤ c.M) (hMI : MapIs es clk S.ran) (hS : Srt S.ran) (hl : S.ran.length ≤ 100000)
    (hQ : ∀ (a' : Act) (w' : World) (vr : Value), RxB a' df Pb Rb Eb arg most c.M → LW c S how val es clk w0 g cap Rb Eb w' S.ran.length vr → Q (.exit 0) a' w') :
    ∀ (m k : Nat) (a : Act) (w : World) (vr : Value), k + m = S.ran.length → RxC a df Pb Rb Eb arg most c.M (.slice (some ⟨g, 0, none⟩) S.ran.length cap) S.ran.length k → LW c S how val es clk w0 g cap Rb Eb w k vr → Code.rounds Tryz.prog (rkc Tryz.f8) Q (m + 1) a w := by
  intro m
  induction m with
  | zero =>
    intro k a w vr hk ha hW
    rw [rounds_succ]
    unfold rkc
    refine seq_then fun K1 g1 => ?_
    refine ev_r9 _ _ _ _ _ _ _ _ _ _ w a _ ha fun a1 ha1 h55 => g1 _ _ ?_
    refine seq_then fun K2 g2 => ?_
    obtain rfl : k = S.ran.length := by omega
    refine ev_c9n w a1 _ (by rw [h55]; simp) ?_
    exact hQ a1 w vr ha1.toRxB hW
  | succ m ih =>
    intro k a w vr hk ha hW
    rw [rounds_succ]
    unfold rkc
    refine seq_then fun K1 g1 => ?_
    refine ev_r9 _ _ _ _ _ _ _ _ _ _ w a _ ha fun a1 ha1 h55 => g1 _ _ ?_
    refine seq_then fun K2 g2 => ?_
    have hkl : k < S.ran.length := by omega
    refine ev_c9 w a1 _ (by rw [h55]; simp [hkl]) (g2 _ _ ?_)
    refine seq_then fun K3 g3 => ?_
    refine wp_block ?_
    refine seq_then fun K4 g4 => ?_
    obtain ⟨x, hx⟩ : ∃ x, S.ran[k]? = some x := ⟨_, List.getElem?_eq_getElem hkl⟩
    refine ev_r10 Pb Rb Eb c.M g S.ran.length k cap arg most x.key df w a1 _ ha1 hkl (own_cell hW.key (by rw [List.getElem?_map, hx]; rfl)) fun a2 ha2 h11 => g4 _ _ ?_
    refine ev_r11 w0.heap.size c.M c.R Pb Rb Eb k arg most _ _ _ vr _ x S.ran es clk _ df w a2 _ ha2 h11 hW.own hW.row hW.map rfl rfl hMI hS (List.mem_of_getElem? hx) (by omega) hW.ch.size fun a3 w3 v' ha3 ho3 hr3 hm3 hc3 => ?_
    refine g3 _ _ ?_
    refine ev_r12 _ _ _ _ _ _ _ _ _ _ w3 a3 _ ha3 (by omega) (by omega) fun a4 ha4 => ?_
    exact ih (k + 1) a4 w3 v' (by omega) (by simpa using ha4) (hW.step hM hx ho3 hr3 hm3 hc3)
theorem res_set {w : World} {Rb Eb : Nat} {fr : Nat → Value} (hr : w.rowIs Rb 34 8 fr) (he : w.rowIs Eb 35 1 (fun _ => .int .i64 0)) (how val steps forks : Int) (vr vf vw : Value) (over : Bool) :
    (((((((((w.setCell ⟨Rb, 0, none⟩ (.int .i64 how)).setCell ⟨Rb, 1, none⟩ (.int .i64 val)).setCell ⟨Rb, 2, none⟩ vr).setCell ⟨Rb, 3, none⟩ vf).setCell ⟨Rb, 4, none⟩ vw).setCell ⟨Rb, 5, none⟩ (.int .i64 steps)).setCell ⟨Rb, 6, none⟩ (.int .i64 forks)).setCell ⟨Rb, 7, none⟩ (.bool over)).setCell ⟨Eb, 0, none⟩ (.int .i64 0)).rowIs Rb 34 8 (resV how val vr vf vw steps forks over) ∧
    (((((((((w.setCell ⟨Rb, 0, none⟩ (.int .i64 how)).setCell ⟨Rb, 1, none⟩ (.int .i64 val)).setCell ⟨Rb, 2, none⟩ vr).setCell ⟨Rb, 3, none⟩ vf).setCell ⟨Rb, 4, none⟩ vw).setCell ⟨Rb, 5, none⟩ (.int .i64 steps)).setCell ⟨Rb, 6, none⟩ (.int .i64 forks)).setCell ⟨Rb, 7, none⟩ (.bool over)).setCell ⟨Eb, 0, none⟩ (.int .i64 0)).rowIs Eb 35 1 (fun _ => .int .i64 0) ∧
    Ch (fun k => k = Rb ∨ k = Eb) w (((((((((w.setCell ⟨Rb, 0, none⟩ (.int .i64 how)).setCell ⟨Rb, 1, none⟩ (.int .i64 val)).setCell ⟨Rb, 2, none⟩ vr).setCell ⟨Rb, 3, none⟩ vf).setCell ⟨Rb, 4, none⟩ vw).setCell ⟨Rb, 5, none⟩ (.int .i64 steps)).setCell ⟨Rb, 6, none⟩ (.int .i64 forks)).setCell ⟨Rb, 7, none⟩ (.bool over)).setCell ⟨Eb, 0, none⟩ (.int .i64 0)) := by
  have hne : Rb ≠ Eb := row_far hr he (by decide)
  have hne' : Eb ≠ Rb := fun e => hne e.symm
  refine ⟨?_, ?_, ?_⟩
  · refine World.rowIs.congr (row_setO ((((((((hr.set 0 (.int .i64 how)).set 1 (.int .i64 val)).set 2 vr).set 3 vf).set 4 vw).set 5 (.int .i64 steps)).set 6 (.int .i64 forks)).set 7 (.bool over)) hne _) ?_
    repeat refine all_lt ?_ rfl
    exact all_none
  · refine World.rowIs.congr ((row_setO (row_setO (row_setO (row_setO (row_setO (row_setO (row_setO (row_setO he hne' _) hne' _) hne' _) hne' _) hne' _) hne' _) hne' _) hne' _).set 0 (.int .i64 0)) (fun j _ => ?_)
    show (if j = 0 then _ else _) = _
    split <;> rfl
  · have L : ∀ {v : World}, Ch (fun k => k = Rb ∨ k = Eb) w v → ∀ (o : Nat) (u : Value), Ch (fun k => k = Rb ∨ k = Eb) w (v.setCell ⟨Rb, o, none⟩ u) := fun h o u => h.set (Or.inl (Or.inl rfl)) u
    exact (L (L (L (L (L (L (L (L (Ch.refl _ _) _ _) _ _) _ _) _ _) _ _) _ _) _ _) _ _).set (Or.inl (Or.inr rfl)) _
theorem res42 (a : Act) (w : World) (Rb Eb : Nat) (how val steps forks : Int) (ra fa wa : Option Addr) (rn rc fn fc wn wc : Nat) (over : Bool) (hsz : a.tmps.size = 80) (t6 : a.tmps[6]? = some (.pointer (some ⟨Rb, 0, none⟩))) (t7 : a.tmps[7]? = some (.pointer (some ⟨Eb, 0, none⟩)))
    (hr : w.rowIs Rb 34 8 (resV how val (.slice ra rn rc) (.slice fa fn fc) (.slice wa wn wc) steps forks over)) (he : w.rowIs Eb 35 1 (fun _ => .int .i64 0)) :
    (results Tryz.f8 a.tmps).run Tryz.prog w = .ok (.tuple #[.agg #[.int .i64 how, .int .i64 val, .slice ra rn rc, .slice fa fn fc, .slice wa wn wc, .int .i64 steps, .int .i64 forks, .bool over], .int .i64 0]) w := by
  obtain ⟨_, t6'⟩ := get_of t6
  obtain ⟨_, t7'⟩ := get_of t7
  have c0 : w.cell? ⟨Rb, 0, none⟩ = some (.int .i64 how) := hr.cell (i := 0) (by omega)
  have c1 : w.cell? ⟨Rb, 1, none⟩ = some (.int .i64 val) := hr.cell (i := 1) (by omega)
  have c2 : w.cell? ⟨Rb, 2, none⟩ = some (.slice ra rn rc) := hr.cell (i := 2) (by omega)
  have c3 : w.cell? ⟨Rb, 3, none⟩ = some (.slice fa fn fc) := hr.cell (i := 3) (by omega)
  have c4 : w.cell? ⟨Rb, 4, none⟩ = some (.slice wa wn wc) := hr.cell (i := 4) (by omega)
  have c5 : w.cell? ⟨Rb, 5, none⟩ = some (.int .i64 steps) := hr.cell (i := 5) (by omega)
  have c6 : w.cell? ⟨Rb, 6, none⟩ = some (.int .i64 forks) := hr.cell (i := 6) (by omega)
  have c7 : w.cell? ⟨Rb, 7, none⟩ = some (.bool over) := hr.cell (i := 7) (by omega)
  have e0 : w.cell? ⟨Eb, 0, none⟩ = some (.int .i64 0) := he.cell (i := 0) (by omega)
  have lR := hr.lt
  have lE := he.lt
  simp [results, Tryz.results8, go_sem, hsz, t6', t7', c0, c1, c2, c3, c4, c5, c6, c7, e0, lR, lE]
end Go.Proofs.YtonndofbnhnkpaaGreat.Evl
namespace Go.Proofs.YtonndofbnhnkpaaGreat.Evl
open Go.RowKit Num KeyM KeyW StatW Blk VmA VmG Prg EvM Rf PutA CodA
def s0e : RS := ⟨[], fun _ => 0, fun _ => false, 0, 0, false⟩
def rootK : Int := 1125899906842624
/-- What stands of what ran. -/
structure Ends (most : Int) (u : RT) (S2 : RS) (arg : Int) : Prop where
  srt : Srt (finish u S2 arg).ran
  small : Smalls (finish u S2 arg).ran
  len : (finish u S2 arg).ran.length ≤ 100000
theorem root_facts : chk rootK = true ∧ dep rootK = 0 ∧ un 0 = 1099511627776 := by refine ⟨by decide +kernel, by decide +kernel, by decide +kernel⟩
theorem ends_of {fs : List (List Ins)} {depth fuel most : Int} (hdp : depth ≤ 5) (hm0 : 0 ≤ most) (hm1 : most ≤ 20000) {n : Nat} {fn arg : Int} {u : RT} {S2 : RS} (hev : evLoop fs depth fuel most n (rt0 fn arg rootK fuel) s0e = some (u, S2)) (arg2 : Int) : Ends most u S2 arg2 := by
  obtain ⟨r1, r2, r3⟩ := root_facts
  obtain ⟨g1, g2, g3, g4⟩ := evLoop_keys hdp hev r1 (Int.le_refl _) (by show (0 : Int) ≤ 1000; decide)
  have hs := evLoop_srt hdp hev r1 (Int.le_refl _) (by show (0 : Int) ≤ 1000; decide) ⟨List.Pairwise.nil, fun x hx => by cases hx⟩
  have hk := evLoop_sok (k := 0) hev ⟨by show (([] : List FRan).length : Int) + (0 : Nat) ≤ 0; simp, by show (0 : Int) ≤ 0; decide, hm0⟩
  change u.key = rootK at g1
  have hb : bnd rootK u.forks = rootK + (u.forks + 1) * 1099511627776 := by unfold bnd; rw [r2, r3, if_neg (by decide)]
  have hall : ∀ x ∈ S2.ran, rootK < x.key ∧ x.key < bnd rootK u.forks := fun x hx => by
    rcases g4 x hx with e | e
    · cases e
    · exact e
  have hrk : rootK = 1125899906842624 := rfl
  change u.forks ≤ 1000 at g3
  have hsm : ∀ x ∈ S2.ran, 0 ≤ x.key ∧ x.key < 9000000000000000000 := fun x hx => by
    obtain ⟨e1, e2⟩ := hall x hx
    rw [hb] at e2
    omega
  have hlen : S2.ran.length ≤ 20000 := by obtain ⟨h1, h2, h3⟩ := hk; change ((S2.ran.length : Int) + ((0 : Nat) : Int) ≤ S2.forks) at h1; change S2.forks ≤ S2.steps at h2; change S2.steps ≤ most at h3; omega
  rcases Bool.eq_false_or_eq_true S2.over with hne | hne
  · exact ⟨by unfold finish; rw [if_pos hne]; exact hs, by unfold finish; rw [if_pos hne]; exact hsm, by unfold finish; rw [if_pos hne]; omega⟩
  · have hne : ¬ S2.over = true := by rw [hne]; decide
    refine ⟨?_, ?_, ?_⟩
    · unfold finish; rw [if_neg hne]
      exact put_srt hs (fun y hy => by have := (hall y hy).1; show y.key ≠ u.key; rw [g1]; omega)
    · unfold finish; rw [if_neg hne]
      intro x hx
      rcases put_mem hx with rfl | hx
      · show 0 ≤ u.key ∧ u.key < _; rw [g1, hrk]; omega
      · exact hsm x hx
    · unfold finish; rw [if_neg hne]
      show (EvM.put _ _).length ≤ _
      rw [put_len]; omega
/-- The machine at the beginning. -/
theorem isM_start {c : Mc} {w : World} (hR : w.rowIs c.M 58 14 (ofL (mL c 0 0))) (hF : w.rowIs c.FB 3 c.futs (fun _ => .int .i64 0)) (hW : w.rowIs c.WB 4 c.futs (fun _ => .bool false)) (hC : CodeAt c.K w c.pa c.fs) (hm : w.heap[c.R]? = some (.map #[] 0)) (hf : c.K ≤ c.M ∧ c.K ≤ c.R ∧ c.K ≤ c.FB ∧ c.K ≤ c.WB) : IsM c w s0e :=
  ⟨hR, hF, hW, hC, ⟨#[], 0, hm, List.Perm.refl _, fun x hx => by simp at hx, List.Pairwise.nil⟩, hf⟩
theorem x3_rows (w : World) (pa : Option Addr) (n pc : Nat) (futs depth fuel : Int) : (x3 w pa n pc futs depth fuel).rowIs w.heap.size 24 4 (four (.slice pa n pc) (.int .i64 futs) (.int .i64 depth) (.int .i64 fuel)) ∧
    (x3 w pa n pc futs depth fuel).rowIs (w.heap.size + 1) 34 8 (resV 0 0 (.slice none 0 0) (.slice none 0 0) (.slice none 0 0) 0 0 false) ∧ (x3 w pa n pc futs depth fuel).rowIs (w.heap.size + 2) 35 1 (fun _ => .int .i64 0) ∧ Bl w (x3 w pa n pc futs depth fuel) ∧ (x3 w pa n pc futs depth fuel).heap.size = w.heap.size + 3 := by
  have hs : ∀ (w : World) (o : Obj), (w.alloc o).heap.size = w.heap.size + 1 := fun w o => by simp
  have r0 := row4_alloc w (.slice pa n pc) (.int .i64 futs) (.int .i64 depth) (.int .i64 fuel) 24
  have r1 := World.rowIs_alloc (w.alloc (.cells #[.slice pa n pc, .int .i64 futs, .int .i64 depth, .int .i64 fuel] 24)) c8z 34 (resV 0 0 (.slice none 0 0) (.slice none 0 0) (.slice none 0 0) 0 0 false) (by
    show ∀ i, i < 8 → _
    repeat refine all_lt ?_ rfl
    exact all_none)
  have r2 := box1 ((w.alloc (.cells #[.slice pa n pc, .int .i64 futs, .int .i64 depth, .int .i64 fuel] 24)).alloc (.cells c8z 34)) (.int .i64 0) 35
  simp only [hs] at r1 r2
  unfold x3
  exact ⟨(World.rowIs.alloc r0 _).alloc _, World.rowIs.alloc r1 _, r2, (((Bl.refl _).alloc _).alloc _).alloc _, by simp only [hs]⟩
theorem finish_over (u : RT) (S : RS) (arg : Int) : (finish u S arg).over = S.over := by unfold finish; split <;> rfl
set_option maxHeartbeats 4000000 in
theorem eval_wp (pa : Option Addr) (pc futs : Nat) (depth fuel arg most : Int) (fs : List (List Ins)) (w : World) (hP : PV fs futs depth fuel) (hC : CodeAt w.heap.size w pa fs) (hm0 : 0 ≤ most) (hm1 : most ≤ 20000) (n : Nat) (u : RT) (S2 : RS)
    (hev : evLoop fs depth fuel most n (rt0 0 arg rootK fuel) s0e = some (u, S2)) (a : Act) (Q : Exit → Act → World → Prop) (hsz : a.tmps.size = 80) (hdf : a.defers = []) (t0 : a.tmps[0]? = some (.agg #[.slice pa fs.length pc, .int .i64 futs, .int .i64 depth, .int .i64 fuel])) (t1 : a.tmps[1]? = some (.int .i64 arg)) (t2 : a.tmps[2]? = some (.int .i64 most))
    (hok : ∀ (a' : Act) (w' : World) (M FB WB : Nat) (ra : Option Addr) (rn rc : Nat), RxB a' [closeR (w.heap.size + 1) (w.heap.size + 2)] w.heap.size (w.heap.size + 1) (w.heap.size + 2) arg most M → S2.over = false →
      w'.rowIs (w.heap.size + 1) 34 8 (resV u.how u.val (.slice ra rn rc) (.slice (some ⟨FB, 0, none⟩) futs futs) (.slice (some ⟨WB, 0, none⟩) futs futs) S2.steps S2.forks false) → w'.rowIs (w.heap.size + 2) 35 1 (fun _ => .int .i64 0) →
      w'.ownsRow w.heap.size 67 5 (.slice ra rn rc) (finish u S2 arg).ran.length (rcs5 (finish u S2 arg).ran) → w'.rowIs FB 3 futs (fun j => .int .i64 (S2.futs j)) → w'.rowIs WB 4 futs (fun j => .bool (S2.was j)) → w.heap.size ≤ FB → w.heap.size ≤ WB → Bl w w' → Q .ret a' w')
    (hov : ∀ (a' : Act) (w' : World) (M : Nat) (l : List PanicEntry), RxB a' [closeR (w.heap.size + 1) (w.heap.size + 2)] w.heap.size (w.heap.size + 1) (w.heap.size + 2) arg most M → S2.over = true → NoG l →
      w'.rowIs (w.heap.size + 1) 34 8 (resV 0 0 (.slice none 0 0) (.slice none 0 0) (.slice none 0 0) 0 0 false) → w'.rowIs (w.heap.size + 2) 35 1 (fun _ => .int .i64 0) → Bl w w' → Q (.panic ({ v := overV, recovered := false } :: l)) a' w') : (bodyOf Tryz.f8).wp Tryz.prog Q a w := by
  obtain ⟨hS, hSm, hLen⟩ := ends_of hP.dep1 hm0 hm1 hev arg
  have hf1 := hP.futs1
  obtain ⟨p0, p1, p2, p3, p4⟩ := x3_rows w pa fs.length pc futs depth fuel
  rw [body42]
  refine seq_then fun K1 g1 => ?_
  refine ev_r0 pa fs.length pc futs depth fuel arg most w a _ hsz hdf t0 t1 t2 fun a1 ha1 => g1 _ _ ?_
  generalize x3 w pa fs.length pc futs depth fuel = w1 at *
  refine seq_then fun K2 g2 => ?_
  refine seq_then fun K3 g3 => ?_
  refine ev_r1 pa fs.length pc futs depth fuel arg most 0 w1 _ _ _ a1 _ ha1 p0 (Chk.check_yes pa pc futs depth fuel fs w1 hP (Prg.CodeAt.mono (hC.bl p3) p3.size)) fun a2 w2 ha2 h8 hb2 => g3 _ _ ?_
  refine seq_then fun K4 g4 => ?_
  refine ev_r2 arg most 0 w2 _ _ _ a2 _ ha2 h8 fun a3 ha3 h8' h15 => g4 _ _ ?_
  refine ev_c2 a3 w2 _ (by rw [h15]; rfl) (g2 _ _ ?_)
  have q0 := row_bl p0 hb2
  have q1 := row_bl p1 hb2
  have q2 := row_bl p2 hb2
  have hB2 := Bl.trans p3 hb2
  have hsz2 : w.heap.size + 3 ≤ w2.heap.size := by have := hb2.size; omega
  refine seq_then fun K5 g5 => ?_
  refine ev_r4 pa fs.length pc futs depth fuel arg most w2 _ _ _ a3 _ ha3 q0 hm0 hm1 fun a4 ha4 => g5 _ _ ?_
  have hs : ∀ (w : World) (o : Obj), (w.alloc o).heap.size = w.heap.size + 1 := fun w o => by simp
  have hb4 : Bl w2 ((w2.alloc (.map #[] 0)).alloc (.cells (m14 pa fs.length pc futs depth fuel most w2.heap.size) 58)) := ((Bl.refl _).alloc _).alloc _
  have hM4 := World.rowIs_alloc (w2.alloc (.map #[] 0)) (m14 pa fs.length pc futs depth fuel most w2.heap.size) 58 (fun j => (m14 pa fs.length pc futs depth fuel most w2.heap.size).getD j undef) (fun i hi => by rw [Array.getElem?_eq_getElem hi]; simp [Array.getD, hi])
  rw [hs] at hM4
  have hR4 : ((w2.alloc (.map #[] 0)).alloc (.cells (m14 pa fs.length pc futs depth fuel most w2.heap.size) 58)).heap[w2.heap.size]? = some (.map #[] 0) := heap_alloc2_old w2 _ _
  have hs4 : ((w2.alloc (.map #[] 0)).alloc (.cells (m14 pa fs.length pc futs depth fuel most w2.heap.size) 58)).heap.size = w2.heap.size + 2 := by simp only [hs]
  have y0 := row_bl q0 hb4
  have y1 := row_bl q1 hb4
  have y2 := row_bl q2 hb4
  have hB4 := Bl.trans hB2 hb4
  generalize (w2.alloc (.map #[] 0)).alloc (.cells (m14 pa fs.length pc futs depth fuel most w2.heap.size) 58) = w4 at *
  refine seq_then fun K6 g6 => ?_
  refine ev_r5 (w2.heap.size + 1) _ _ _ futs arg most _ _ w4 a4 _ ha4 hM4 y0 rfl (by omega) fun a5 w5 FB WB ha5 hM5 hF5 hW5 hFB hWB hc5 => g6 _ _ ?_
  refine seq_then fun K7 g7 => ?_
  refine ev_r6 arg most w5 _ _ _ _ a5 _ ha5 fun a6 ha6 => g7 _ _ ?_
  have hB5 : Bl w w5 := bl_ch hB4 hc5 (fun i hi e => by omega)
  obtain ⟨c, hcd⟩ : ∃ c : Mc, c = ⟨w.heap.size, w2.heap.size + 1, w2.heap.size, FB, WB, pa, pc, fs, futs, depth, fuel, most⟩ := ⟨_, rfl⟩
  have hIs : IsM c w5 s0e := by
    subst hcd
    refine isM_start (World.rowIs.congr hM5 ?_) hF5 hW5 (hC.bl hB5) (heap_ch hR4 hc5 (by show ¬ w2.heap.size = w2.heap.size + 1; omega)) ⟨by show w.heap.size ≤ w2.heap.size + 1; omega, by show w.heap.size ≤ w2.heap.size; omega, by show w.heap.size ≤ FB; omega, by show w.heap.size ≤ WB; omega⟩
    repeat refine all_lt ?_ rfl
    exact all_none
  have hcf : EvC c := by subst hcd; exact ⟨hP, hm0, hm1⟩
  have hpos := hP.one
  have hRun : Calls Tryz.prog 18 #[.pointer (some ⟨c.M, 0, none⟩), .int .i64 1125899906842624, .int .i64 0, .int .i64 arg] w5 fun e w' => RunPost c w5 u.how u.val (finish u S2 arg) e w' :=
    run_says c hcf n 0 0 arg rootK s0e u S2 (by subst hcd; exact hev) (by subst hcd; exact hpos) root_facts.1 ⟨by show (([] : List FRan).length : Int) + (0 : Nat) ≤ 0; simp, by show (0 : Int) ≤ 0; decide, by subst hcd; exact hm0⟩ rfl (fun x hx => by cases hx) w5 hIs
  have hcM : c.M = w2.heap.size + 1 := by rw [hcd]
  have hcK : c.K = w.heap.size := by rw [hcd]
  have hcFB : c.FB = FB := by rw [hcd]
  have hcWB : c.WB = WB := by rw [hcd]
  have hcfu : c.futs = futs := by rw [hcd]
  have z1 := hc5.row y1 (by omega)
  have z2 := hc5.row y2 (by omega)
  have hfar := mvs_far hIs
  have hnew : ∀ i, i < w.heap.size → ¬ Mvs c i := fun i hi e => by have := hfar i e; omega
  clear hM5 hF5 hW5 hR4 hM4 y0 y1 y2 hc5
  rw [← hcM] at ha6
  refine seq_then fun K8 g8 => ?_
  refine ev_r7 c u.how u.val (finish u S2 arg) _ _ _ arg most _ w5 a6 _ ha6 hRun (fun a7 w7 ha7 ho hm7 hc7 => g8 _ _ ?_) (fun a7 w7 l ha7 ho hl hc7 => ?_)
  rotate_left
  · rw [finish_over] at ho
    have f1 := hIs.far_b z1 (by decide) (by decide) (by decide)
    have f2 := hIs.far_b z2 (by decide) (by decide) (by decide)
    exact hov a7 w7 c.M l ha7 ho hl (hc7.row z1 f1) (hc7.row z2 f2) (bl_ch hB5 hc7 hnew)
  · rw [finish_over] at ho
    have f1 := hIs.far_b z1 (by decide) (by decide) (by decide)
    have f2 := hIs.far_b z2 (by decide) (by decide) (by decide)
    have x1 := hc7.row z1 f1
    have x2 := hc7.row z2 f2
    have hB7 := bl_ch hB5 hc7 hnew
    obtain ⟨n1, n2, n3, n4, n5, n6⟩ := hm7.ne
    obtain ⟨mr, mf, mw, mc, ⟨es, clk, mm, mi⟩, -⟩ := hm7
    have hc8 : Ch (· = c.M) w7 ((w7.setCell ⟨c.M, 5, none⟩ (.int .i64 u.how)).setCell ⟨c.M, 6, none⟩ (.int .i64 u.val)) := ((Ch.refl _ _).setB _).setB _
    have hrow8 : ((w7.setCell ⟨c.M, 5, none⟩ (.int .i64 u.how)).setCell ⟨c.M, 6, none⟩ (.int .i64 u.val)).rowIs c.M 58 14 (ofL (mF c (finish u S2 arg) u.how u.val (.slice none 0 0))) := by
      refine World.rowIs.congr ((mr.set 5 (.int .i64 u.how)).set 6 (.int .i64 u.val)) ?_
      repeat refine all_lt ?_ rfl
      exact all_none
    have hf8 := hc8.row mf (fun e => n2 e.symm)
    have hw8 := hc8.row mw (fun e => n3 e.symm)
    have hm8 := heap_ch mm hc8 (fun e => n1 e.symm)
    have hx1 := hc8.row x1 (row_far x1 mr (by decide))
    have hx2 := hc8.row x2 (row_far x2 mr (by decide))
    have hB8 := bl_ch hB7 hc8 (fun i hi e => by omega)
    generalize (w7.setCell ⟨c.M, 5, none⟩ (.int .i64 u.how)).setCell ⟨c.M, 6, none⟩ (.int .i64 u.val) = w8 at *
    have hlpos : 1 ≤ (finish u S2 arg).ran.length := by
      unfold finish
      rw [if_neg (by rw [ho]; decide)]
      show 1 ≤ (EvM.put _ _).length
      rw [put_len]; omega
    refine seq_then fun K9 g9 => ?_
    refine seq_then fun K10 g10 => ?_
    refine ev_r8 c.M c.R (finish u S2 arg).ran.length (fun g cap w' => w'.ownsRow w.heap.size 3 1 (.slice (some ⟨g, 0, none⟩) (finish u S2 arg).ran.length cap) (finish u S2 arg).ran.length ((finish u S2 arg).ran.map fun r => Value.int .i64 r.key) ∧ Bl w8 w') _ _ _ _ arg most _ w8 a7 _ ha7 hrow8 rfl ?_ fun a8 w9 g cap ha8 hX => g10 _ _ ?_
    · refine (sorted_call mi hSm hS (by omega) hm8).mono fun e w' h => ?_
      obtain ⟨v, rfl, ho8, hb8⟩ := h
      have hb9 : Bl w8 w' := Bl.trans ((Bl.refl _).alloc _) hb8
      obtain ⟨h1, ⟨h2, h3⟩ | ⟨g, cap, cur, h2, h3, h4⟩⟩ := ho8
      · omega
      · subst h2
        refine ⟨g, cap, rfl, ⟨h1, Or.inr ⟨g, cap, cur, rfl, ?_, h4⟩⟩, hb9⟩
        have := hB8.size
        omega
    · obtain ⟨hkey, hb9⟩ := hX
      have hnil := World.ownsRow_nil w9 w.heap.size 67 5
      have hLW : LW c (finish u S2 arg) u.how u.val es clk w g cap (w.heap.size + 1) (w.heap.size + 2) w9 0 (.slice none 0 0) := by
        rw [← hcFB] at hFB
        rw [← hcWB] at hWB
        exact ⟨row_bl hrow8 hb9, World.ownsRow_nil _ _ _ _, heap_bl hm8 hb9, row_bl hf8 hb9, row_bl hw8 hb9, row_bl hx1 hb9, row_bl hx2 hb9, hkey, Bl.trans hB8 hb9⟩
      refine wp_block ?_
      refine wp_loop_rounds ((finish u S2 arg).ran.length + 1) ?_
      refine keys_loop c (finish u S2 arg) u.how u.val es clk w g cap _ _ _ arg most _ (Exit.inBlock 0 (Exit.then K9 Q)) (by omega) mi hS hLen (fun a9 w10 vr ha9 hW9 => ?_) _ 0 a8 w9 (.slice none 0 0) (by omega) (by simpa using ha8) hLW
      show (if (0 : Nat) = 0 then Exit.then K9 Q .normal a9 w10 else Exit.then K9 Q (.exit 0) a9 w10)
      rw [if_pos rfl]
      refine g9 _ _ ?_
      refine seq_then fun K11 g11 => ?_
      obtain ⟨ra, rn, rc, hvr⟩ := own_slice hW9.own
      rw [hvr] at hW9
      refine ev_r13 _ _ _ c.M arg most _ w10 a9 _ _ u.how u.val (finish u S2 arg).steps (finish u S2 arg).forks ra (some ⟨c.FB, 0, none⟩) (some ⟨c.WB, 0, none⟩) rn rc c.futs c.futs c.futs c.futs false _ ha9 hW9.row hW9.res hW9.err ?_ fun a10 ha10 => g11 _ _ ?_
      · repeat refine all_lt ?_ rfl
        exact all_none
      · obtain ⟨k1, k2, k3⟩ := res_set hW9.res hW9.err u.how u.val (finish u S2 arg).steps (finish u S2 arg).forks (.slice ra rn rc) (.slice (some ⟨c.FB, 0, none⟩) c.futs c.futs) (.slice (some ⟨c.WB, 0, none⟩) c.futs c.futs) false
        refine wp_ret ?_
        have hown := hW9.own
        rw [List.take_length] at hown
        have fres : ∀ {b m : Nat} {t : TypeId} {f : Nat → Value}, w10.rowIs b t m f → t ≠ 34 → t ≠ 35 → ¬ (b = w.heap.size + 1 ∨ b = w.heap.size + 2) := fun hb h1 h2 e => by
          rcases e with e | e
          · exact row_far hb hW9.res h1 e
          · exact row_far hb hW9.err h2 e
        have hsteps : (finish u S2 arg).steps = S2.steps ∧ (finish u S2 arg).forks = S2.forks ∧ (finish u S2 arg).futs = S2.futs ∧ (finish u S2 arg).was = S2.was := by unfold finish; split <;> exact ⟨rfl, rfl, rfl, rfl⟩
        have hfu := k3.row hW9.fut (fres hW9.fut (by decide) (by decide))
        have hwa := k3.row hW9.was (fres hW9.was (by decide) (by decide))
        have hbb := bl_ch hW9.ch k3 (fun i hi e => by omega)
        have hnb : ∀ b, (Value.slice ra rn rc).ownBlock = some b → b < w10.heap.size ∧ ¬ (b = w.heap.size + 1 ∨ b = w.heap.size + 2) := fun b hb => by
          obtain ⟨_, cur, hcur⟩ := own_type hown hb
          refine ⟨?_, fun e => ?_⟩
          · rcases Nat.lt_or_ge b w10.heap.size with q | q
            · exact q
            · rw [Array.getElem?_eq_none q] at hcur; cases hcur
          · rcases e with e | e
            · exact own_row hown hW9.res (by decide) (by rw [hb, e])
            · exact own_row hown hW9.err (by decide) (by rw [hb, e])
        have hoo := own_keep hown (fun b hb => k3.block b (hnb b hb).1 (hnb b hb).2)
        obtain ⟨e1, e2, e3, e4⟩ := hsteps
        have hfin : ∀ w11 : World, w11.rowIs (w.heap.size + 1) 34 8 (resV u.how u.val (.slice ra rn rc) (.slice (some ⟨c.FB, 0, none⟩) c.futs c.futs) (.slice (some ⟨c.WB, 0, none⟩) c.futs c.futs) (finish u S2 arg).steps (finish u S2 arg).forks false) → w11.rowIs (w.heap.size + 2) 35 1 (fun _ => .int .i64 0) →
            w11.ownsRow w.heap.size 67 5 (.slice ra rn rc) (finish u S2 arg).ran.length (rcs5 (finish u S2 arg).ran) → w11.rowIs c.FB 3 c.futs (fun j => .int .i64 ((finish u S2 arg).futs j)) → w11.rowIs c.WB 4 c.futs (fun j => .bool ((finish u S2 arg).was j)) → Bl w w11 → Q .ret a10 w11 := by
          intro w11 k1 k2 k3 k4 k5 k6
          rw [e1, e2, hcFB, hcWB, hcfu] at k1
          rw [hcFB, hcfu, e3] at k4
          rw [hcWB, hcfu, e4] at k5
          exact hok a10 w11 c.M FB WB ra rn rc ha10 ho k1 k2 k3 k4 k5 (by omega) (by omega) k6
        exact hfin _ k1 k2 hoo hfu hwa hbb
theorem leaves_nil {P : Program} {fn : Func} {tmps : Array Value} {R : Ending → World → Prop} {w : World} {v : Value} (hr : (results fn tmps).run P w = .ok v w) (h : R (.returned v) w) : Leaves P fn tmps R [] .returning w := ⟨v, hr, h⟩
theorem settle_over (l : List PanicEntry) (h : NoG l) : settle (.panicking ({ v := overV, recovered := true } :: l)) = .returning := by
  have : l.dropWhile (!·.goexit) = [] := by
    induction l with
    | nil => rfl
    | cons p l ih =>
      rw [List.dropWhile_cons]
      have hp := h p (by simp)
      rw [hp]
      simp only [Bool.not_false, if_true]
      exact ih (fun q hq => h q (by simp [hq]))
  show (match l.dropWhile (!·.goexit) with | [] => FrameMode.returning | rest => .panicking rest) = _
  rw [this]
def resAgg (how val : Int) (vr vf vw : Value) (steps forks : Int) (over : Bool) : Value := .agg #[.int .i64 how, .int .i64 val, vr, vf, vw, .int .i64 steps, .int .i64 forks, .bool over]
set_option maxRecDepth 100000 in
set_option maxHeartbeats 8000000 in
/-- A program's run that comes to its end. -/
theorem eval_any (pa : Option Addr) (pc futs : Nat) (depth fuel arg most : Int) (fs : List (List Ins)) (w : World) (hP : PV fs futs depth fuel) (hC : CodeAt w.heap.size w pa fs) (hm0 : 0 ≤ most) (hm1 : most ≤ 20000) (n : Nat) (u : RT) (S2 : RS)
    (hev : evLoop fs depth fuel most n (rt0 0 arg rootK fuel) s0e = some (u, S2)) (hov : S2.over = false) :
    Calls Tryz.prog 8 #[progV pa fs.length pc futs depth fuel, .int .i64 arg, .int .i64 most] w fun e w' => ∃ (FB WB : Nat) (ra : Option Addr) (rn rc : Nat), e = .returned (.tuple #[resAgg u.how u.val (.slice ra rn rc) (.slice (some ⟨FB, 0, none⟩) futs futs) (.slice (some ⟨WB, 0, none⟩) futs futs) S2.steps S2.forks false, .int .i64 0]) ∧
      w'.ownsRow w.heap.size 67 5 (.slice ra rn rc) (finish u S2 arg).ran.length (rcs5 (finish u S2 arg).ran) ∧ w'.rowIs FB 3 futs (fun j => .int .i64 (S2.futs j)) ∧ w'.rowIs WB 4 futs (fun j => .bool (S2.was j)) ∧ w.heap.size ≤ FB ∧ w.heap.size ≤ WB ∧ Bl w w' := by
  unfold progV
  go_enter_defers Tryz.func8, Tryz.ntmps8
  refine eval_wp pa pc futs depth fuel arg most fs w hP hC hm0 hm1 n u S2 hev _ _ rfl rfl rfl rfl rfl (fun a' w' M FB WB ra rn rc ha ho h1 h2 h3 h4 h5 h6 h7 h8 => ?_) (fun a' w' M l ha ho _ _ _ _ => by rw [hov] at ho; cases ho)
  show Leaves Tryz.prog Tryz.f8 a'.tmps _ a'.defers .returning w'
  rw [ha.dfs]
  unfold closeR
  refine leaves_cons (by simp) rfl ((close_quiet (w.heap.size + 1) (w.heap.size + 2) w').mono fun e u' w'' hp => ?_)
  obtain ⟨rfl, rfl, rfl⟩ := hp
  exact leaves_nil (res42 a' w'' _ _ u.how u.val S2.steps S2.forks ra _ _ rn rc _ _ _ _ false ha.sz ha.t6 ha.t7 h1 h2) ⟨FB, WB, ra, rn, rc, rfl, h3, h4, h5, h6, h7, h8⟩
set_option maxRecDepth 100000 in
set_option maxHeartbeats 8000000 in
/-- A program's run that is cut. -/
theorem eval_over (pa : Option Addr) (pc futs : Nat) (depth fuel arg most : Int) (fs : List (List Ins)) (w : World) (hP : PV fs futs depth fuel) (hC : CodeAt w.heap.size w pa fs) (hm0 : 0 ≤ most) (hm1 : most ≤ 20000) (n : Nat) (u : RT) (S2 : RS)
    (hev : evLoop fs depth fuel most n (rt0 0 arg rootK fuel) s0e = some (u, S2)) (hov : S2.over = true) :
    Calls Tryz.prog 8 #[progV pa fs.length pc futs depth fuel, .int .i64 arg, .int .i64 most] w fun e w' => e = .returned (.tuple #[resAgg 0 0 (.slice none 0 0) (.slice none 0 0) (.slice none 0 0) 0 0 true, .int .i64 0]) ∧ Bl w w' := by
  unfold progV
  go_enter_defers Tryz.func8, Tryz.ntmps8
  refine eval_wp pa pc futs depth fuel arg most fs w hP hC hm0 hm1 n u S2 hev _ _ rfl rfl rfl rfl rfl (fun a' w' M FB WB ra rn rc ha ho _ _ _ _ _ _ _ _ => by rw [hov] at ho; cases ho) (fun a' w' M l ha ho hl h1 h2 h3 => ?_)
  show Leaves Tryz.prog Tryz.f8 a'.tmps _ a'.defers (.panicking _) w'
  rw [ha.dfs]
  unfold closeR
  refine leaves_cons (by simp) rfl ((close_over (w.heap.size + 1) (w.heap.size + 2) l _ w' h1 h2).mono fun e u' w'' hp => ?_)
  obtain ⟨rfl, rfl, rfl⟩ := hp
  obtain ⟨k1, k2, k3⟩ := res_set h1 h2 0 0 0 0 (.slice none 0 0) (.slice none 0 0) (.slice none 0 0) true
  show Leaves _ _ _ _ [] (settle _) _
  rw [settle_over l hl]
  exact leaves_nil (res42 a' _ _ _ 0 0 0 0 none none none 0 0 0 0 0 0 true ha.sz ha.t6 ha.t7 k1 k2) ⟨rfl, bl_ch h3 k3 (fun i hi e => by omega)⟩
end Go.Proofs.YtonndofbnhnkpaaGreat.Evl
namespace Go.Proofs.YtonndofbnhnkpaaGreat.Evl
open Go.RowKit Num KeyM KeyW StatW Blk VmA VmG Prg EvM Rf PutA CodA
/-- A slice of functions: where each lies. -/
theorem codeAt_of {K : Nat} {w : World} {b : Nat} {fs : List (List Ins)} (hb : b < K) (h : ∀ (i : Nat) (f : List Ins), fs[i]? = some f → ∃ g fc, w.cell? ⟨b, i, none⟩ = some (.slice (some ⟨g, 0, none⟩) f.length fc) ∧ g < K ∧ ∃ fr, w.heap[g]? = some (.cells (icells f).toArray 53 fr)) : CodeAt K w (some ⟨b, 0, none⟩) fs := by
  intro i f hf
  obtain ⟨g, fc, h1, h2, fr, h3⟩ := h i f hf
  refine ⟨b, 0, rfl, hb, some ⟨g, 0, none⟩, fc, by rw [Nat.zero_add]; exact h1, ?_⟩
  exact code_fn h3 h2
theorem awake_pv : PV [[⟨1, 0, 5, 0⟩, ⟨15, 0, 0, 0⟩]] 0 0 9 := by
  refine ⟨by decide, by decide, by decide, by decide, by decide, by decide, by decide, by decide, ?_⟩
  intro f hf
  obtain rfl := List.mem_singleton.1 hf
  refine ⟨by decide, by decide, ?_, ⟨⟨15, 0, 0, 0⟩, rfl, by decide⟩⟩
  intro x hx
  simp only [List.mem_cons, List.not_mem_nil, or_false] at hx
  rcases hx with rfl | rfl <;> simp [InsIn, InsOk, Rg]
theorem awake_ev : ∃ u S2, evLoop [[⟨1, 0, 5, 0⟩, ⟨15, 0, 0, 0⟩]] 0 9 100 5 (rt0 0 1 rootK 9) s0e = some (u, S2) ∧ u.how = 1 ∧ u.val = 5 ∧ S2.steps = 2 ∧ S2.over = false ∧ S2.ran = [] := ⟨_, _, rfl, rfl, rfl, rfl, rfl, rfl⟩
set_option maxRecDepth 100000 in
set_option maxHeartbeats 8000000 in
theorem awake44 (w : World) : Calls Tryz.prog 6 #[] w fun e w' => e = .returned (.bool true) ∧ Bl w w' := by
  obtain ⟨u, S2, hev, e1, e2, e3, e4, e5⟩ := awake_ev
  have hc := code_one w [⟨1, 0, 5, 0⟩, ⟨15, 0, 0, 0⟩]
  have hb : Bl w (((w.alloc (.cells (icells [⟨1, 0, 5, 0⟩, ⟨15, 0, 0, 0⟩]).toArray 53)).alloc (.cells #[.slice (some ⟨w.heap.size, 0, none⟩) 2 2] 51))) := ((Bl.refl _).alloc _).alloc _
  have hs : ((w.alloc (.cells (icells [⟨1, 0, 5, 0⟩, ⟨15, 0, 0, 0⟩]).toArray 53)).alloc (.cells #[.slice (some ⟨w.heap.size, 0, none⟩) 2 2] 51)).heap.size = w.heap.size + 2 := by simp
  have hE := eval_any (some ⟨w.heap.size + 1, 0, none⟩) 1 0 0 9 1 100 _ ((w.alloc (.cells (icells [⟨1, 0, 5, 0⟩, ⟨15, 0, 0, 0⟩]).toArray 53)).alloc (.cells #[.slice (some ⟨w.heap.size, 0, none⟩) 2 2] 51)) awake_pv (by rw [hs]; exact hc) (by decide) (by decide) 5 u S2 hev e4
  have hfin : (finish u S2 1).ran.length = 1 := by unfold finish; rw [if_neg (by rw [e4]; decide), e5]; rfl
  rw [e1, e2, e3, hfin] at hE
  unfold progV resAgg at hE
  simp only [icells, icell, List.flatMap_cons, List.flatMap_nil, List.append_nil, List.cons_append, List.nil_append] at hE hb
  have HB := Lib.hid hb
  clear hev e1 e2 e3 e4 e5 hfin hc hs hb
  go_enter Tryz.func6, Tryz.ntmps6
  go_wp2_with fail
  refine hE.mono ?_
  rintro e w2 ⟨FB, WB, ra, rn, rc, rfl, ho, _, _, _, _, hb2⟩
  have hrn : rn = 1 := by
    obtain ⟨_, ⟨h2, h3⟩ | ⟨g, cap, cur, h2, _⟩⟩ := ho
    · cases h3
    · injection h2
  subst hrn
  have HB2 := Lib.hid hb2
  clear hb2 ho hE
  go_wp2_with fail
  refine bodyPost_ret (v := .bool true) (by simp [results, Tryz.results6, go_sem]) rfl ⟨rfl, ?_⟩
  exact Bl.trans HB.out (Bl.trans HB2.out (by repeat (first | exact Bl.refl _ | exact Bl.alloc (Bl.refl _) _)))
end Go.Proofs.YtonndofbnhnkpaaGreat.Evl
