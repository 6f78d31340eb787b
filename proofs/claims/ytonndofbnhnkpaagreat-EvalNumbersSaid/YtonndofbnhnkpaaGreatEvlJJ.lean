/- The program's package eval: the pieces of a fork. The program's package eval: a fork, to its end. -/
import Derived.Test.YtonndofbnhnkpaaGreatEvlFJ
set_option linter.unusedVariables false
set_option linter.unusedSimpArgs false
set_option linter.unusedSectionVars false
namespace Go.Proofs.YtonndofbnhnkpaaGreat.Evl
open Go.RowKit Num KeyM KeyW StatW Blk VmA VmG Prg EvM Rf
/-- A piece of a body. -/
def nth : Nat → Code → Code
  | 0, .seq x _ => x
  | n + 1, .seq _ y => nth n y
  | _, c => c
def bodyOf (f : Func) : Code := f.body.getD .skip
/-- The world once a fork is under way. -/
structure At2 (c : Mc) (w w1 : World) (B X : Nat) (t : RT) (S : RS) (H : Nat → Nat) (x : Ins) : Prop where
  m : IsM c w1 S
  e : IsE c w1 B t H
  x : w1.rowIs X 53 4 (four (.int .i64 x.op) (.int .i64 x.a) (.int .i64 x.b) (.int .i64 x.c))
  ch : Ch (fun k => Mvs c k ∨ k = B) w w1
theorem At1.at2 {c : Mc} {w w1 : World} {B X : Nat} {t : RT} {S : RS} {H : Nat → Nat} {x : Ins} (h : At1 c w w1 B X t S H x) : At2 c w w1 B X t S H x := ⟨h.m, h.e, h.x, Ch.of_bl h.bl⟩
theorem At2.bl {c : Mc} {w w1 w2 : World} {B X : Nat} {t : RT} {S : RS} {H : Nat → Nat} {x : Ins} (h : At2 c w w1 B X t S H x) (hb : Bl w1 w2) : At2 c w w2 B X t S H x := ⟨h.m.bl hb, h.e.bl hb, row_bl h.x hb, h.ch.trans (Ch.of_bl hb)⟩
theorem At2.drew {c : Mc} {w w1 : World} {B X : Nat} {t : RT} {S : RS} {H : Nat → Nat} {x : Ins} (h : At2 c w w1 B X t S H x) : At2 c w w1.drew B X t S H x := h.bl (Bl.drew (Bl.refl _))
/-- The frame of a fork. -/
structure FkA (a : Act) (B X : Nat) : Prop where
  sz : a.tmps.size = 82
  dfs : a.defers = []
  t0 : a.tmps[0]? = some (.pointer (some ⟨B, 0, none⟩))
  t3 : a.tmps[3]? = some (.pointer (some ⟨X, 0, none⟩))
theorem get_of {a : Array Value} {i : Nat} {v : Value} (h : a[i]? = some v) : ∃ hi : i < a.size, a[i] = v := Array.getElem?_eq_some_iff.1 h
def idxk2 : List (Nat × Nat) := [(0, 7), (1, 8), (2, 9), (3, 10), (4, 11), (5, 12), (6, 13), (7, 14), (8, 15), (9, 16), (10, 17), (11, 18), (12, 19), (13, 20)]
def Vk2 (B M : Nat) (key dp D : Int) (bd : Bool) : Nat → Value := fun sl => match sl with
  | 7 => .pointer (some ⟨B, 0, none⟩)
  | 8 => .pointer (some ⟨B, 0, none⟩)
  | 9 => .pointer (some ⟨B, 1, none⟩)
  | 10 => .int .i64 key
  | 11 => .int .i64 D
  | 12 => .pointer (some ⟨B, 0, none⟩)
  | 13 => .pointer (some ⟨B, 0, none⟩)
  | 14 => .pointer (some ⟨B, 0, none⟩)
  | 15 => .pointer (some ⟨M, 0, none⟩)
  | 16 => .pointer (some ⟨M, 0, none⟩)
  | 17 => .pointer (some ⟨M, 0, none⟩)
  | 18 => .pointer (some ⟨M, 2, none⟩)
  | 19 => .int .i64 dp
  | 20 => .bool bd
  | _ => undef
set_option maxRecDepth 100000 in
set_option maxHeartbeats 8000000 in
theorem fork_r1 (c : Mc) (t : RT) (S : RS) (x : Ins) (w w1 : World) (B X : Nat) (H : Nat → Nat) (a : Act) (Q : Exit → Act → World → Prop) (ha : FkA a B X) (hA : At2 c w w1 B X t S H x)
    (hQ : ∀ (a' : Act) (w' : World), FkA a' B X → a'.tmps[20]? = some (.bool (decide (c.depth ≤ dep t.key))) → At2 c w w' B X t S H x → Bl w1 w' → Q .normal a' w') : (nth 0 (nth 1 (bodyOf Tryz.f58))).wp Tryz.prog Q a w1 := by
  simp only [nth, bodyOf, Tryz.f58, Option.getD]
  obtain ⟨D, hD⟩ : ∃ D, D = dep t.key := ⟨_, rfl⟩
  have hkd := fun w => KeyW.depth_any t.key w
  simp only [← hD] at hkd hQ
  clear hD
  obtain ⟨bd, hbd⟩ : ∃ bd, bd = decide (c.depth ≤ D) := ⟨_, rfl⟩
  rw [← hbd] at hQ
  have HBD := Lib.hid hbd
  have HA := Lib.hid hA
  clear hA hbd
  refine Tab.region_tab4 (by kernel_rfl) idxk2 82 (Vk2 B c.M t.key c.depth D bd) (fun _ w' => Bl w1.drew w') (by kernel_rfl) ha.sz (by kernel_rfl) (Bl.refl _) ?_ ?_
  · intro L a' w2 hT hsz hd hb2
    have hb := Bl.trans (Bl.drew (Bl.refl w1)) hb2
    exact hQ a' w2 ⟨hT.sz.trans ha.sz, hT.dfs.trans ha.dfs, (hT.out 0 (by decide)).trans ha.t0, (hT.out 3 (by decide)).trans ha.t3⟩ (hT.tab (13, 20) (by decide) (hd 13 (by decide))) (HA.out.bl hb) hb
  · intro i' o L a' w8 K' Q' hT hsz hb8 hL ho hd hold hcl hK
    have hi' : i' < 14 := (Array.getElem?_eq_some_iff.1 ho).1
    have HT : Hid (∀ qq ∈ idxk2, L[qq.1]? = some true → a'.tmps[qq.2]? = some (Vk2 B c.M t.key c.depth D bd qq.2)) := hT.tab
    have h8 := HA.out.bl (Bl.trans (Bl.drew (Bl.refl w1)) hb8)
    have y0 : w8.cell? ⟨B, 0, none⟩ = some (.pointer (some ⟨c.M, 0, none⟩)) := h8.e.row.cell (i := 0) (by omega)
    have y1 : w8.cell? ⟨B, 1, none⟩ = some (.int .i64 t.key) := h8.e.row.cell (i := 1) (by omega)
    have z2 : w8.cell? ⟨c.M, 2, none⟩ = some (.int .i64 c.depth) := h8.m.row.cell (i := 2) (by omega)
    have lB := h8.e.row.lt
    have lM := h8.m.row.lt
    clear h8 hQ
    obtain rfl | rfl | rfl | rfl | rfl | rfl | rfl | rfl | rfl | rfl | rfl | rfl | rfl | rfl : i' = 0 ∨ i' = 1 ∨ i' = 2 ∨ i' = 3 ∨ i' = 4 ∨ i' = 5 ∨ i' = 6 ∨ i' = 7 ∨ i' = 8 ∨ i' = 9 ∨ i' = 10 ∨ i' = 11 ∨ i' = 12 ∨ i' = 13 := by omega
    · have s0 : a'.tmps[0]? = some (.pointer (some ⟨B, 0, none⟩)) := (hT.out 0 (by decide)).trans ha.t0
      cases ho
      clear hd HT hT hold hcl
      go_simp
      exact hK _ hb8
    · have s7 : a'.tmps[7]? = some (.pointer (some ⟨B, 0, none⟩)) := HT.out (0, 7) (by decide) (by cases ho; exact hd ⟨0, .data⟩ (by simp) rfl)
      cases ho
      clear hd HT hT hold hcl
      go_simp
      exact hK _ hb8
    · have s8 : a'.tmps[8]? = some (.pointer (some ⟨B, 0, none⟩)) := HT.out (1, 8) (by decide) (by cases ho; exact hd ⟨1, .data⟩ (by simp) rfl)
      cases ho
      clear hd HT hT hold hcl
      go_simp
      exact hK _ hb8
    · have s9 : a'.tmps[9]? = some (.pointer (some ⟨B, 1, none⟩)) := HT.out (2, 9) (by decide) (by cases ho; exact hd ⟨2, .data⟩ (by simp) rfl)
      cases ho
      clear hd HT hT hold hcl
      go_simp
      exact hK _ hb8
    · have s10 : a'.tmps[10]? = some (.int .i64 t.key) := HT.out (3, 10) (by decide) (by cases ho; exact hd ⟨3, .data⟩ (by simp) rfl)
      cases ho
      clear hd HT hT hold hcl
      go_simp
      go_at_call 80
      refine (hkd _).mono ?_
      rintro e w9 ⟨rfl, hb9⟩
      go_simp
      exact hK _ (Bl.trans hb8 hb9)
    · have s0 : a'.tmps[0]? = some (.pointer (some ⟨B, 0, none⟩)) := (hT.out 0 (by decide)).trans ha.t0
      cases ho
      clear hd HT hT hold hcl
      go_simp
      exact hK _ hb8
    · have s12 : a'.tmps[12]? = some (.pointer (some ⟨B, 0, none⟩)) := HT.out (5, 12) (by decide) (by cases ho; exact hd ⟨5, .data⟩ (by simp) rfl)
      cases ho
      clear hd HT hT hold hcl
      go_simp
      exact hK _ hb8
    · have s13 : a'.tmps[13]? = some (.pointer (some ⟨B, 0, none⟩)) := HT.out (6, 13) (by decide) (by cases ho; exact hd ⟨6, .data⟩ (by simp) rfl)
      cases ho
      clear hd HT hT hold hcl
      go_simp
      exact hK _ hb8
    · have s14 : a'.tmps[14]? = some (.pointer (some ⟨B, 0, none⟩)) := HT.out (7, 14) (by decide) (by cases ho; exact hd ⟨7, .data⟩ (by simp) rfl)
      cases ho
      clear hd HT hT hold hcl
      go_simp
      exact hK _ hb8
    · have s15 : a'.tmps[15]? = some (.pointer (some ⟨c.M, 0, none⟩)) := HT.out (8, 15) (by decide) (by cases ho; exact hd ⟨8, .data⟩ (by simp) rfl)
      cases ho
      clear hd HT hT hold hcl
      go_simp
      exact hK _ hb8
    · have s16 : a'.tmps[16]? = some (.pointer (some ⟨c.M, 0, none⟩)) := HT.out (9, 16) (by decide) (by cases ho; exact hd ⟨9, .data⟩ (by simp) rfl)
      cases ho
      clear hd HT hT hold hcl
      go_simp
      exact hK _ hb8
    · have s17 : a'.tmps[17]? = some (.pointer (some ⟨c.M, 0, none⟩)) := HT.out (10, 17) (by decide) (by cases ho; exact hd ⟨10, .data⟩ (by simp) rfl)
      cases ho
      clear hd HT hT hold hcl
      go_simp
      exact hK _ hb8
    · have s18 : a'.tmps[18]? = some (.pointer (some ⟨c.M, 2, none⟩)) := HT.out (11, 18) (by decide) (by cases ho; exact hd ⟨11, .data⟩ (by simp) rfl)
      cases ho
      clear hd HT hT hold hcl
      go_simp
      exact hK _ hb8
    · have s11 : a'.tmps[11]? = some (.int .i64 D) := HT.out (4, 11) (by decide) (by cases ho; exact hd ⟨4, .data⟩ (by simp) rfl)
      have s19 : a'.tmps[19]? = some (.int .i64 c.depth) := HT.out (12, 19) (by decide) (by cases ho; exact hd ⟨12, .data⟩ (by simp) rfl)
      cases ho
      clear hd HT hT hold hcl
      have hbd := HBD.out
      go_simp
      rw [← hbd]
      exact hK _ hb8
set_option maxRecDepth 100000 in
set_option maxHeartbeats 8000000 in
theorem fork_r3 (F : Int) (w1 : World) (B X : Nat) (a : Act) (Q : Exit → Act → World → Prop) (ha : FkA a B X) (lB : B < w1.heap.size) (f14 : w1.cell? ⟨B, 14, none⟩ = some (.int .i64 F))
    (hQ : ∀ a' : Act, FkA a' B X → a'.tmps[27]? = some (.bool (decide (1000 ≤ F))) → Q .normal a' w1) : (nth 0 (nth 2 (bodyOf Tryz.f58))).wp Tryz.prog Q a w1 := by
  simp only [nth, bodyOf, Tryz.f58, Option.getD]
  obtain ⟨hsz, hdf, t0, t3⟩ := ha
  obtain ⟨_, t0'⟩ := get_of t0
  go_wp2_with fail
  exact hQ _ ⟨by simp [hsz], rfl, by simp [Array.getElem?_setIfInBounds, t0], by simp [Array.getElem?_setIfInBounds, t3]⟩ (by simp [Array.getElem?_setIfInBounds, hsz])
theorem At2.ne {c : Mc} {w w1 : World} {B X : Nat} {t : RT} {S : RS} {H : Nat → Nat} {x : Ins} (h : At2 c w w1 B X t S H x) : X ≠ B ∧ X ≠ c.M ∧ B ≠ c.M := by
  have ne : ∀ {b m : Nat} {t : TypeId} {g : Nat → Value} {b' m' : Nat} {t' : TypeId} {g' : Nat → Value}, w1.rowIs b t m g → w1.rowIs b' t' m' g' → t ≠ t' → b ≠ b' := fun hr hr' ht' e => by
    obtain ⟨cur, hcur⟩ := row_type hr
    exact ty_ne hr' hcur ht' e
  exact ⟨ne h.x h.e.row (by decide), ne h.x h.m.row (by decide), ne h.e.row h.m.row (by decide)⟩
theorem At2.setF {c : Mc} {w w1 : World} {B X : Nat} {t : RT} {S : RS} {H : Nat → Nat} {x : Ins} (h : At2 c w w1 B X t S H x) (hK : c.K ≤ B) (v : Int) : At2 c w (w1.setCell ⟨B, 14, none⟩ (.int .i64 v)) B X { t with forks := v } S H x :=
  ⟨h.m.on h.e.row (by decide) (by decide) (by decide) hK ((Ch.refl _ _).setB _), h.e.setForks v, row_setO h.x h.ne.1 _, h.ch.set (Or.inl (Or.inr rfl)) _⟩
theorem At2.setM {c : Mc} {w w1 : World} {B X : Nat} {t : RT} {S : RS} {H : Nat → Nat} {x : Ins} (h : At2 c w w1 B X t S H x) (v : Int) : At2 c w (w1.setCell ⟨c.M, 11, none⟩ (.int .i64 v)) B X t { S with forks := v } H x :=
  ⟨isM_forks h.m v, h.e.on h.m ((Ch.refl _ _).set (Or.inl (Or.inl rfl)) _), row_setO h.x h.ne.2.1 _, h.ch.set (Or.inl (Or.inl (Or.inl rfl))) _⟩
set_option maxRecDepth 100000 in
set_option maxHeartbeats 8000000 in
theorem fork_r5 (F : Int) (f : Nat → Value) (w1 : World) (B X : Nat) (a : Act) (Q : Exit → Act → World → Prop) (ha : FkA a B X) (hr : w1.rowIs B 87 15 f) (f14 : w1.cell? ⟨B, 14, none⟩ = some (.int .i64 F)) (h0 : 0 ≤ F) (h1 : F < 1000)
    (hQ : ∀ a' : Act, FkA a' B X → Q .normal a' (w1.setCell ⟨B, 14, none⟩ (.int .i64 (F + 1)))) : (nth 3 (bodyOf Tryz.f58)).wp Tryz.prog Q a w1 := by
  simp only [nth, bodyOf, Tryz.f58, Option.getD]
  obtain ⟨hsz, hdf, t0, t3⟩ := ha
  obtain ⟨_, t0'⟩ := get_of t0
  have lB := hr.lt
  have fr := hr.frozen 14
  clear hr
  go_wp2_with fail
  exact ⟨by simp [hsz], rfl, by simp [Array.getElem?_setIfInBounds, t0], by simp [Array.getElem?_setIfInBounds, t3]⟩
set_option maxRecDepth 100000 in
set_option maxHeartbeats 8000000 in
theorem fork_r6 (F : Int) (f : Nat → Value) (w1 : World) (B X M : Nat) (a : Act) (Q : Exit → Act → World → Prop) (ha : FkA a B X) (hr : w1.rowIs M 58 14 f) (lB : B < w1.heap.size) (fB : w1.cell? ⟨B, 0, none⟩ = some (.pointer (some ⟨M, 0, none⟩))) (f11 : w1.cell? ⟨M, 11, none⟩ = some (.int .i64 F)) (h0 : 0 ≤ F) (h1 : F < 100000)
    (hQ : ∀ a' : Act, FkA a' B X → Q .normal a' (w1.setCell ⟨M, 11, none⟩ (.int .i64 (F + 1)))) : (nth 4 (bodyOf Tryz.f58)).wp Tryz.prog Q a w1 := by
  simp only [nth, bodyOf, Tryz.f58, Option.getD]
  obtain ⟨hsz, hdf, t0, t3⟩ := ha
  obtain ⟨_, t0'⟩ := get_of t0
  have lM := hr.lt
  have fr := hr.frozen 11
  clear hr
  go_wp2_with fail
  exact ⟨by simp [hsz], rfl, by simp [Array.getElem?_setIfInBounds, t0], by simp [Array.getElem?_setIfInBounds, t3]⟩
def idxk7 : List (Nat × Nat) := [(0, 50), (1, 51), (2, 52), (3, 53), (4, 54), (5, 55), (6, 56), (7, 57), (8, 58), (9, 49), (10, 59), (11, 60), (12, 4), (13, 5)]
def Vk7 (B : Nat) (key fk k' : Int) : Nat → Value := fun sl => match sl with
  | 50 => .pointer (some ⟨B, 0, none⟩)
  | 51 => .pointer (some ⟨B, 0, none⟩)
  | 52 => .pointer (some ⟨B, 1, none⟩)
  | 53 => .int .i64 key
  | 54 => .pointer (some ⟨B, 0, none⟩)
  | 55 => .pointer (some ⟨B, 0, none⟩)
  | 56 => .pointer (some ⟨B, 14, none⟩)
  | 57 => .int .i64 fk
  | 58 => .tuple #[.int .i64 k', .bool true]
  | 49 => .tuple #[.int .i64 k', .bool true]
  | 59 => .int .i64 k'
  | 60 => .bool true
  | 4 => .int .i64 k'
  | 5 => .bool true
  | _ => undef
set_option maxRecDepth 100000 in
set_option maxHeartbeats 8000000 in
theorem fork_r7 (c : Mc) (t : RT) (S : RS) (x : Ins) (w w1 : World) (B X : Nat) (H : Nat → Nat) (a : Act) (Q : Exit → Act → World → Prop) (ha : FkA a B X) (hA : At2 c w w1 B X t S H x) (k' : Int) (hkc : ∀ w, Calls Tryz.prog 81 #[.int .i64 t.key, .int .i64 t.forks] w fun e w' => e = .returned (.tuple #[.int .i64 k', .bool true]) ∧ Bl w w')
    (hQ : ∀ (a' : Act) (w' : World), FkA a' B X → a'.tmps[4]? = some (.int .i64 k') → At2 c w w' B X t S H x → Q .normal a' w') : (nth 5 (bodyOf Tryz.f58)).wp Tryz.prog Q a w1 := by
  simp only [nth, bodyOf, Tryz.f58, Option.getD]
  have HA := Lib.hid hA
  clear hA
  refine Tab.region_tab4 (by kernel_rfl) idxk7 82 (Vk7 B t.key t.forks k') (fun _ w' => Bl w1.drew w') (by kernel_rfl) ha.sz (by kernel_rfl) (Bl.refl _) ?_ ?_
  · intro L a' w2 hT hsz hd hb2
    have hb := Bl.trans (Bl.drew (Bl.refl w1)) hb2
    exact hQ a' w2 ⟨hT.sz.trans ha.sz, hT.dfs.trans ha.dfs, (hT.out 0 (by decide)).trans ha.t0, (hT.out 3 (by decide)).trans ha.t3⟩ (hT.tab (12, 4) (by decide) (hd 12 (by decide))) (HA.out.bl hb)
  · intro i' o L a' w8 K' Q' hT hsz hb8 hL ho hd hold hcl hK
    have hi' : i' < 14 := (Array.getElem?_eq_some_iff.1 ho).1
    have HT : Hid (∀ qq ∈ idxk7, L[qq.1]? = some true → a'.tmps[qq.2]? = some (Vk7 B t.key t.forks k' qq.2)) := hT.tab
    have h8 := HA.out.bl (Bl.trans (Bl.drew (Bl.refl w1)) hb8)
    have y1 : w8.cell? ⟨B, 1, none⟩ = some (.int .i64 t.key) := h8.e.row.cell (i := 1) (by omega)
    have y14 : w8.cell? ⟨B, 14, none⟩ = some (.int .i64 t.forks) := h8.e.row.cell (i := 14) (by omega)
    have lB := h8.e.row.lt
    clear h8 hQ
    obtain rfl | rfl | rfl | rfl | rfl | rfl | rfl | rfl | rfl | rfl | rfl | rfl | rfl | rfl : i' = 0 ∨ i' = 1 ∨ i' = 2 ∨ i' = 3 ∨ i' = 4 ∨ i' = 5 ∨ i' = 6 ∨ i' = 7 ∨ i' = 8 ∨ i' = 9 ∨ i' = 10 ∨ i' = 11 ∨ i' = 12 ∨ i' = 13 := by omega
    · have s0 : a'.tmps[0]? = some (.pointer (some ⟨B, 0, none⟩)) := (hT.out 0 (by decide)).trans ha.t0
      cases ho
      clear hd HT hT hold hcl
      go_simp
      exact hK _ hb8
    · have s50 : a'.tmps[50]? = some (.pointer (some ⟨B, 0, none⟩)) := HT.out (0, 50) (by decide) (by cases ho; exact hd ⟨0, .data⟩ (by simp) rfl)
      cases ho
      clear hd HT hT hold hcl
      go_simp
      exact hK _ hb8
    · have s51 : a'.tmps[51]? = some (.pointer (some ⟨B, 0, none⟩)) := HT.out (1, 51) (by decide) (by cases ho; exact hd ⟨1, .data⟩ (by simp) rfl)
      cases ho
      clear hd HT hT hold hcl
      go_simp
      exact hK _ hb8
    · have s52 : a'.tmps[52]? = some (.pointer (some ⟨B, 1, none⟩)) := HT.out (2, 52) (by decide) (by cases ho; exact hd ⟨2, .data⟩ (by simp) rfl)
      cases ho
      clear hd HT hT hold hcl
      go_simp
      exact hK _ hb8
    · have s0 : a'.tmps[0]? = some (.pointer (some ⟨B, 0, none⟩)) := (hT.out 0 (by decide)).trans ha.t0
      cases ho
      clear hd HT hT hold hcl
      go_simp
      exact hK _ hb8
    · have s54 : a'.tmps[54]? = some (.pointer (some ⟨B, 0, none⟩)) := HT.out (4, 54) (by decide) (by cases ho; exact hd ⟨4, .data⟩ (by simp) rfl)
      cases ho
      clear hd HT hT hold hcl
      go_simp
      exact hK _ hb8
    · have s55 : a'.tmps[55]? = some (.pointer (some ⟨B, 0, none⟩)) := HT.out (5, 55) (by decide) (by cases ho; exact hd ⟨5, .data⟩ (by simp) rfl)
      cases ho
      clear hd HT hT hold hcl
      go_simp
      exact hK _ hb8
    · have s56 : a'.tmps[56]? = some (.pointer (some ⟨B, 14, none⟩)) := HT.out (6, 56) (by decide) (by cases ho; exact hd ⟨6, .data⟩ (by simp) rfl)
      cases ho
      clear hd HT hT hold hcl
      go_simp
      exact hK _ hb8
    · have s53 : a'.tmps[53]? = some (.int .i64 t.key) := HT.out (3, 53) (by decide) (by cases ho; exact hd ⟨3, .data⟩ (by simp) rfl)
      have s57 : a'.tmps[57]? = some (.int .i64 t.forks) := HT.out (7, 57) (by decide) (by cases ho; exact hd ⟨7, .data⟩ (by simp) rfl)
      cases ho
      clear hd HT hT hold hcl
      go_simp
      go_at_call 81
      refine (hkc _).mono ?_
      rintro e w9 ⟨rfl, hb9⟩
      go_simp
      exact hK _ (Bl.trans hb8 hb9)
    · have s58 : a'.tmps[58]? = some (.tuple #[.int .i64 k', .bool true]) := HT.out (8, 58) (by decide) (by cases ho; exact hd ⟨8, .data⟩ (by simp) rfl)
      cases ho
      clear hd HT hT hold hcl
      go_simp
      exact hK _ hb8
    · have s49 : a'.tmps[49]? = some (.tuple #[.int .i64 k', .bool true]) := HT.out (9, 49) (by decide) (by cases ho; exact hd ⟨9, .data⟩ (by simp) rfl)
      cases ho
      clear hd HT hT hold hcl
      go_simp
      exact hK _ hb8
    · have s49 : a'.tmps[49]? = some (.tuple #[.int .i64 k', .bool true]) := HT.out (9, 49) (by decide) (by cases ho; exact hd ⟨9, .data⟩ (by simp) rfl)
      cases ho
      clear hd HT hT hold hcl
      go_simp
      exact hK _ hb8
    · have s59 : a'.tmps[59]? = some (.int .i64 k') := HT.out (10, 59) (by decide) (by cases ho; exact hd ⟨10, .data⟩ (by simp) rfl)
      cases ho
      clear hd HT hT hold hcl
      go_simp
      exact hK _ hb8
    · have s60 : a'.tmps[60]? = some (.bool true) := HT.out (11, 60) (by decide) (by cases ho; exact hd ⟨11, .data⟩ (by simp) rfl)
      cases ho
      clear hd HT hT hold hcl
      go_simp
      exact hK _ hb8
def idxk8 : List (Nat × Nat) := [(0, 61), (1, 62), (2, 63), (3, 64), (4, 65), (5, 66), (6, 67), (7, 68), (8, 69), (9, 70), (10, 71), (11, 72), (12, 73), (13, 74), (14, 75), (15, 6)]
def Vk8 (M B X b d : Nat) (k' v how val : Int) : Nat → Value := fun sl => match sl with
  | 61 => .pointer (some ⟨B, 0, none⟩)
  | 62 => .pointer (some ⟨B, 0, none⟩)
  | 63 => .pointer (some ⟨B, 0, none⟩)
  | 64 => .pointer (some ⟨M, 0, none⟩)
  | 65 => .int .i64 k'
  | 66 => .pointer (some ⟨X, 2, none⟩)
  | 67 => .int .i64 (b : Int)
  | 68 => .pointer (some ⟨B, 0, none⟩)
  | 69 => .pointer (some ⟨X, 3, none⟩)
  | 70 => .int .i64 (d : Int)
  | 71 => .pointer (some ⟨B, 0, none⟩)
  | 72 => .pointer (some ⟨B, 2, none⟩)
  | 73 => .pointer (some ⟨B, 2 + d, none⟩)
  | 74 => .int .i64 v
  | 75 => .agg #[.int .i64 how, .int .i64 val]
  | 6 => undef
  | _ => undef
/-- None of them is a goroutine's end. -/
def NoG (l : List PanicEntry) : Prop := ∀ p ∈ l, p.goexit = false
/-- How a task's run is left. -/
structure RunPost (c : Mc) (w : World) (how val : Int) (S2 : RS) (e : Ending) (w' : World) : Prop where
  ok : S2.over = false → e = .returned (.agg #[.int .i64 how, .int .i64 val])
  bad : S2.over = true → ∃ l, NoG l ∧ e = .panicked ({ v := overV, recovered := false } :: l)
  m : IsM c w' S2
  ch : Ch (Mvs c) w w'
/-- The eighth region under way. -/
structure W8 (c : Mc) (w : World) (B X : Nat) (t : RT) (S S2 : RS) (H : Nat → Nat) (a b d : Nat) (k' how val : Int) (L : Array Bool) (V : Nat → Value) (w' : World) : Prop where
  stat : ∀ q ∈ idxk8, q.2 ≠ 6 → L[q.1]? = some true → V q.2 = Vk8 c.M B X b d k' (t.regs d) how val q.2
  at2 : At2 c w w' B X t (if L[14]? = some true then S2 else S) H ⟨9, a, b, d⟩
  ov : L[14]? = some true → S2.over = false
  box : L[15]? = some true → ∃ g, V 6 = .pointer (some ⟨g, 0, none⟩) ∧ w.heap.size ≤ g ∧ (∀ i, i < 4 → t.has i = true → H i ≠ g) ∧ w'.rowIs g 29 2 (if L[16]? = some true then two (.int .i64 how) (.int .i64 val) else two (.int .i64 0) (.int .i64 0))
section
variable {c : Mc} {w w8 w9 : World} {B X : Nat} {t : RT} {S S2 : RS} {H : Nat → Nat} {a b d : Nat} {k' how val : Int} {L : Array Bool} {V : Nat → Value}
theorem W8.start (h : At2 c w w8 B X t S H ⟨9, a, b, d⟩) : W8 c w B X t S S2 H a b d k' how val (Array.replicate 17 false) (Vk8 c.M B X b d k' (t.regs d) how val) w8.drew :=
  ⟨fun _ _ _ _ => rfl, by rw [if_neg (by decide)]; exact h.drew, fun h => by rw [Array.getElem?_replicate] at h; simp at h, fun h => by rw [Array.getElem?_replicate] at h; simp at h⟩
theorem W8.stat' (h : W8 c w B X t S S2 H a b d k' how val L V w8) (i s : Nat) (hs : s ≠ 6) (hu : ∀ q ∈ idxk8, q = (i, s) ∨ (q.1 ≠ i ∧ q.2 ≠ s)) :
    ∀ q ∈ idxk8, q.2 ≠ 6 → (L.setIfInBounds i true)[q.1]? = some true → Tab.upd V s (Vk8 c.M B X b d k' (t.regs d) how val s) q.2 = Vk8 c.M B X b d k' (t.regs d) how val q.2 := fun q hq h6 hL => by
  rcases hu q hq with rfl | ⟨g1, g2⟩
  · rw [Tab.upd_self]
  · rw [Tab.upd_ne _ _ g2]
    exact h.stat q hq h6 (by rwa [Tab.get_ne g1] at hL)
theorem W8.step (h : W8 c w B X t S S2 H a b d k' how val L V w8) (i s : Nat) (hs : s ≠ 6) (h14 : i ≠ 14) (h15 : i ≠ 15) (h16 : i ≠ 16) (hu : ∀ q ∈ idxk8, q = (i, s) ∨ (q.1 ≠ i ∧ q.2 ≠ s)) : W8 c w B X t S S2 H a b d k' how val (L.setIfInBounds i true) (Tab.upd V s (Vk8 c.M B X b d k' (t.regs d) how val s)) w8 :=
  ⟨h.stat' i s hs hu, by rw [Tab.get_ne h14.symm]; exact h.at2, fun hL => h.ov (by rwa [Tab.get_ne h14.symm] at hL), fun hL => by
    rw [Tab.get_ne h15.symm] at hL
    rw [Tab.get_ne h16.symm, Tab.upd_ne _ _ hs.symm]
    exact h.box hL⟩
theorem W8.call (h : W8 c w B X t S S2 H a b d k' how val L V w8) (hL : L[14]? = some false) (hov : S2.over = false) (hm : IsM c w9 S2) (hc : Ch (Mvs c) w8 w9) : W8 c w B X t S S2 H a b d k' how val (L.setIfInBounds 14 true) (Tab.upd V 75 (.agg #[.int .i64 how, .int .i64 val])) w9 := by
  have h2 := h.at2
  rw [if_neg (by rw [hL]; decide)] at h2
  refine ⟨h.stat' 14 75 (by decide) (by decide), ?_, fun _ => hov, fun hL' => ?_⟩
  · rw [if_pos (Tab.get_self hL)]
    exact ⟨hm, h2.e.on h2.m hc, hc.row h2.x (h2.m.far_b h2.x (by decide) (by decide) (by decide)), h2.ch.trans (hc.mono fun _ _ e => Or.inl e)⟩
  · rw [Tab.get_ne (by decide)] at hL'
    rw [Tab.get_ne (by decide), Tab.upd_ne _ _ (by decide)]
    obtain ⟨g, g1, g2, g3, g4⟩ := h.box hL'
    exact ⟨g, g1, g2, g3, hc.row g4 (h2.m.far_b g4 (by decide) (by decide) (by decide))⟩
theorem W8.alloc (h : W8 c w B X t S S2 H a b d k' how val L V w8) (hL : L[15]? = some false) (h16 : L[16]? = some false) : W8 c w B X t S S2 H a b d k' how val (L.setIfInBounds 15 true) (Tab.upd V 6 (.pointer (some ⟨w8.heap.size, 0, none⟩))) (w8.alloc (.cells #[.int .i64 0, .int .i64 0] 29)) := by
  have h2 := h.at2
  refine ⟨fun q hq h6 hL' => ?_, ?_, fun hL' => h.ov (by rwa [Tab.get_ne (by decide)] at hL'), fun _ => ⟨w8.heap.size, Tab.upd_self _ _ _, h2.ch.size, fun i hi hh e => ?_, ?_⟩⟩
  · rw [Tab.upd_ne _ _ h6]
    refine h.stat q hq h6 ?_
    have hne : ∀ q ∈ idxk8, q.2 ≠ 6 → q.1 ≠ 15 := by decide
    rwa [Tab.get_ne (hne q hq h6)] at hL'
  · rw [Tab.get_ne (by decide)]
    exact h2.bl ((Bl.refl _).alloc _)
  · have := (h2.e.hands i hi hh).lt
    omega
  · rw [if_neg (by rw [Tab.get_ne (by decide), h16]; decide)]
    exact World.rowIs_alloc w8 #[.int .i64 0, .int .i64 0] 29 _ (fun i hi => by
      have hi2 : i < 2 := hi
      (obtain rfl | rfl : i = 0 ∨ i = 1 := (by omega)) <;> rfl)
theorem W8.store (h : W8 c w B X t S S2 H a b d k' how val L V w8) (hK : c.K ≤ w.heap.size) (h14 : L[14]? = some true) (h15 : L[15]? = some true) (hL : L[16]? = some false) {g : Nat} (hg : V 6 = .pointer (some ⟨g, 0, none⟩)) : W8 c w B X t S S2 H a b d k' how val (L.setIfInBounds 16 true) V ((w8.setCell ⟨g, 0, none⟩ (.int .i64 how)).setCell ⟨g, 1, none⟩ (.int .i64 val)) := by
  have h2 := h.at2
  obtain ⟨g', g1, g2, g3, g4⟩ := h.box h15
  obtain rfl : g = g' := by rw [hg] at g1; injection g1 with g1; injection g1 with g1; injection g1
  rw [if_neg (by rw [hL]; decide)] at g4
  have hch : Ch (· = g) w8 ((w8.setCell ⟨g, 0, none⟩ (.int .i64 how)).setCell ⟨g, 1, none⟩ (.int .i64 val)) := ((Ch.refl _ _).setB _).setB _
  have ne : ∀ {b' m' : Nat} {t' : TypeId} {g' : Nat → Value}, w8.rowIs b' t' m' g' → 29 ≠ t' → ¬ b' = g := fun hr' ht' e => by
    obtain ⟨cur, hcur⟩ := row_type hr'
    exact ty_ne g4 hcur (fun e => ht' e.symm) e
  refine ⟨fun q hq h6 hL' => h.stat q hq h6 ?_, ?_, fun hL' => h.ov (by rwa [Tab.get_ne (by decide)] at hL'), fun _ => ⟨g, hg, g2, g3, ?_⟩⟩
  · have hne : ∀ q ∈ idxk8, q.2 ≠ 6 → q.1 ≠ 16 := by decide
    rwa [Tab.get_ne (hne q hq h6)] at hL'
  · rw [Tab.get_ne (by decide)]
    exact ⟨h2.m.on g4 (by decide) (by decide) (by decide) (by omega) hch, ⟨hch.row h2.e.row (ne h2.e.row (by decide)), fun i hi hh => hch.row (h2.e.hands i hi hh) (g3 i hi hh)⟩, hch.row h2.x (ne h2.x (by decide)), (h2.ch.set (Or.inr g2) _).set (Or.inr g2) _⟩
  · rw [if_pos (Tab.get_self hL)]
    exact World.rowIs.congr ((g4.set 0 (.int .i64 how)).set 1 (.int .i64 val)) (fun i hi => by (obtain rfl | rfl : i = 0 ∨ i = 1 := (by omega)) <;> rfl)
end
set_option maxRecDepth 100000 in
set_option maxHeartbeats 8000000 in
theorem fork_r8 (c : Mc) (t : RT) (S S2 : RS) (a0 b d : Nat) (w w1 : World) (B X : Nat) (H : Nat → Nat) (a : Act) (Q : Exit → Act → World → Prop) (ha : FkA a B X) (hA : At2 c w w1 B X t S H ⟨9, a0, b, d⟩) (hd8 : d < 8) (hKK : c.K ≤ w.heap.size) (k' how val : Int) (h4 : a.tmps[4]? = some (.int .i64 k'))
    (hC : ∀ w, IsM c w S → Calls Tryz.prog 18 #[.pointer (some ⟨c.M, 0, none⟩), .int .i64 k', .int .i64 b, .int .i64 (t.regs d)] w fun e w' => RunPost c w how val S2 e w')
    (hQ : ∀ (a' : Act) (w' : World) (g : Nat), FkA a' B X → a'.tmps[6]? = some (.pointer (some ⟨g, 0, none⟩)) → At2 c w w' B X t S2 H ⟨9, a0, b, d⟩ → w'.rowIs g 29 2 (two (.int .i64 how) (.int .i64 val)) → S2.over = false → Q .normal a' w')
    (hQp : ∀ (a' : Act) (w' : World) (l : List PanicEntry), a'.defers = [] → S2.over = true → NoG l → IsM c w' S2 → Ch (fun k => Mvs c k ∨ k = B) w w' → Q (.panic ({ v := overV, recovered := false } :: l)) a' w') : (nth 6 (bodyOf Tryz.f58)).wp Tryz.prog Q a w1 := by
  simp only [nth, bodyOf, Tryz.f58, Option.getD]
  refine Tab.region_tab7 (by kernel_rfl) idxk8 82 (W8 c w B X t S S2 H a0 b d k' how val) (by kernel_rfl) ha.sz (by kernel_rfl) ⟨_, W8.start hA⟩ ?_ ?_
  · intro L V a' w2 hT hsz hd hW
    clear hC hQp
    obtain ⟨g, g1, g2, g3, g4⟩ := hW.box (hd 15 (by decide))
    have h2 := hW.at2
    rw [if_pos (hd 14 (by decide))] at h2
    rw [if_pos (hd 16 (by decide))] at g4
    exact hQ a' w2 g ⟨hT.sz.trans ha.sz, hT.dfs.trans ha.dfs, (hT.out 0 (by decide)).trans ha.t0, (hT.out 3 (by decide)).trans ha.t3⟩ ((hT.tab (15, 6) (by decide) (hd 15 (by decide))).trans (congrArg some g1)) h2 g4 (hW.ov (hd 14 (by decide)))
  · intro i' o L V a' w8 K' hT hsz hW hL ho hd hold hcl hK
    have hi' : i' < 17 := (Array.getElem?_eq_some_iff.1 ho).1
    have HT : Hid (∀ qq ∈ idxk8, L[qq.1]? = some true → a'.tmps[qq.2]? = some (V qq.2)) := hT.tab
    have HW := Lib.hid hW
    have lB := hW.at2.e.row.lt
    have lM := hW.at2.m.row.lt
    have lX := hW.at2.x.lt
    have d1 : (d : Int) < 8 := by omega
    have d2 : (0 : Int) ≤ (d : Int) := by omega
    clear hold hQ hW hA
    obtain rfl | rfl | rfl | rfl | rfl | rfl | rfl | rfl | rfl | rfl | rfl | rfl | rfl | rfl | rfl | rfl | rfl : i' = 0 ∨ i' = 1 ∨ i' = 2 ∨ i' = 3 ∨ i' = 4 ∨ i' = 5 ∨ i' = 6 ∨ i' = 7 ∨ i' = 8 ∨ i' = 9 ∨ i' = 10 ∨ i' = 11 ∨ i' = 12 ∨ i' = 13 ∨ i' = 14 ∨ i' = 15 ∨ i' = 16 := by omega
    · have s0 : a'.tmps[0]? = some (.pointer (some ⟨B, 0, none⟩)) := (hT.out 0 (by decide)).trans ha.t0
      cases ho
      clear hd HT hT hcl
      go_simp
      exact hK _ _ (HW.out.step 0 61 (by decide) (by decide) (by decide) (by decide) (by decide))
    · have s61 : a'.tmps[61]? = some (.pointer (some ⟨B, 0, none⟩)) := (HT.out (0, 61) (by decide) (by cases ho; exact hd ⟨0, .data⟩ (by simp) rfl)).trans (congrArg some (HW.out.stat (0, 61) (by decide) (by decide) (by cases ho; exact hd ⟨0, .data⟩ (by simp) rfl)))
      cases ho
      clear hd HT hT hcl
      go_simp
      exact hK _ _ (HW.out.step 1 62 (by decide) (by decide) (by decide) (by decide) (by decide))
    · have s62 : a'.tmps[62]? = some (.pointer (some ⟨B, 0, none⟩)) := (HT.out (1, 62) (by decide) (by cases ho; exact hd ⟨1, .data⟩ (by simp) rfl)).trans (congrArg some (HW.out.stat (1, 62) (by decide) (by decide) (by cases ho; exact hd ⟨1, .data⟩ (by simp) rfl)))
      cases ho
      clear hd HT hT hcl
      go_simp
      exact hK _ _ (HW.out.step 2 63 (by decide) (by decide) (by decide) (by decide) (by decide))
    · have s63 : a'.tmps[63]? = some (.pointer (some ⟨B, 0, none⟩)) := (HT.out (2, 63) (by decide) (by cases ho; exact hd ⟨2, .data⟩ (by simp) rfl)).trans (congrArg some (HW.out.stat (2, 63) (by decide) (by decide) (by cases ho; exact hd ⟨2, .data⟩ (by simp) rfl)))
      have y0 : w8.cell? ⟨B, 0, none⟩ = some (.pointer (some ⟨c.M, 0, none⟩)) := HW.out.at2.e.row.cell (i := 0) (by omega)
      cases ho
      clear hd HT hT hcl
      go_simp
      exact hK _ _ (HW.out.step 3 64 (by decide) (by decide) (by decide) (by decide) (by decide))
    · have s4 : a'.tmps[4]? = some (.int .i64 k') := (hT.out 4 (by decide)).trans h4
      cases ho
      clear hd HT hT hcl
      go_simp
      exact hK _ _ (HW.out.step 4 65 (by decide) (by decide) (by decide) (by decide) (by decide))
    · have s3 : a'.tmps[3]? = some (.pointer (some ⟨X, 0, none⟩)) := (hT.out 3 (by decide)).trans ha.t3
      cases ho
      clear hd HT hT hcl
      go_simp
      exact hK _ _ (HW.out.step 5 66 (by decide) (by decide) (by decide) (by decide) (by decide))
    · have s66 : a'.tmps[66]? = some (.pointer (some ⟨X, 2, none⟩)) := (HT.out (5, 66) (by decide) (by cases ho; exact hd ⟨5, .data⟩ (by simp) rfl)).trans (congrArg some (HW.out.stat (5, 66) (by decide) (by decide) (by cases ho; exact hd ⟨5, .data⟩ (by simp) rfl)))
      obtain ⟨⟨x0, x1, x2, x3⟩, _⟩ := row4_cells HW.out.at2.x
      cases ho
      clear hd HT hT hcl
      go_simp
      exact hK _ _ (HW.out.step 6 67 (by decide) (by decide) (by decide) (by decide) (by decide))
    · have s0 : a'.tmps[0]? = some (.pointer (some ⟨B, 0, none⟩)) := (hT.out 0 (by decide)).trans ha.t0
      cases ho
      clear hd HT hT hcl
      go_simp
      exact hK _ _ (HW.out.step 7 68 (by decide) (by decide) (by decide) (by decide) (by decide))
    · have s3 : a'.tmps[3]? = some (.pointer (some ⟨X, 0, none⟩)) := (hT.out 3 (by decide)).trans ha.t3
      cases ho
      clear hd HT hT hcl
      go_simp
      exact hK _ _ (HW.out.step 8 69 (by decide) (by decide) (by decide) (by decide) (by decide))
    · have s69 : a'.tmps[69]? = some (.pointer (some ⟨X, 3, none⟩)) := (HT.out (8, 69) (by decide) (by cases ho; exact hd ⟨8, .data⟩ (by simp) rfl)).trans (congrArg some (HW.out.stat (8, 69) (by decide) (by decide) (by cases ho; exact hd ⟨8, .data⟩ (by simp) rfl)))
      obtain ⟨⟨x0, x1, x2, x3⟩, _⟩ := row4_cells HW.out.at2.x
      cases ho
      clear hd HT hT hcl
      go_simp
      exact hK _ _ (HW.out.step 9 70 (by decide) (by decide) (by decide) (by decide) (by decide))
    · have s68 : a'.tmps[68]? = some (.pointer (some ⟨B, 0, none⟩)) := (HT.out (7, 68) (by decide) (by cases ho; exact hd ⟨7, .data⟩ (by simp) rfl)).trans (congrArg some (HW.out.stat (7, 68) (by decide) (by decide) (by cases ho; exact hd ⟨7, .data⟩ (by simp) rfl)))
      cases ho
      clear hd HT hT hcl
      go_simp
      exact hK _ _ (HW.out.step 10 71 (by decide) (by decide) (by decide) (by decide) (by decide))
    · have s71 : a'.tmps[71]? = some (.pointer (some ⟨B, 0, none⟩)) := (HT.out (10, 71) (by decide) (by cases ho; exact hd ⟨10, .data⟩ (by simp) rfl)).trans (congrArg some (HW.out.stat (10, 71) (by decide) (by decide) (by cases ho; exact hd ⟨10, .data⟩ (by simp) rfl)))
      cases ho
      clear hd HT hT hcl
      go_simp
      exact hK _ _ (HW.out.step 11 72 (by decide) (by decide) (by decide) (by decide) (by decide))
    · have s72 : a'.tmps[72]? = some (.pointer (some ⟨B, 2, none⟩)) := (HT.out (11, 72) (by decide) (by cases ho; exact hd ⟨11, .data⟩ (by simp) rfl)).trans (congrArg some (HW.out.stat (11, 72) (by decide) (by decide) (by cases ho; exact hd ⟨11, .data⟩ (by simp) rfl)))
      have s70 : a'.tmps[70]? = some (.int .i64 (d : Int)) := (HT.out (9, 70) (by decide) (by cases ho; exact hd ⟨9, .data⟩ (by simp) rfl)).trans (congrArg some (HW.out.stat (9, 70) (by decide) (by decide) (by cases ho; exact hd ⟨9, .data⟩ (by simp) rfl)))
      cases ho
      clear hd HT hT hcl
      go_simp
      exact hK _ _ (HW.out.step 12 73 (by decide) (by decide) (by decide) (by decide) (by decide))
    · have s73 : a'.tmps[73]? = some (.pointer (some ⟨B, 2 + d, none⟩)) := (HT.out (12, 73) (by decide) (by cases ho; exact hd ⟨12, .data⟩ (by simp) rfl)).trans (congrArg some (HW.out.stat (12, 73) (by decide) (by decide) (by cases ho; exact hd ⟨12, .data⟩ (by simp) rfl)))
      have yr := ec_reg HW.out.at2.e hd8
      cases ho
      clear hd HT hT hcl
      go_simp
      exact hK _ _ (HW.out.step 13 74 (by decide) (by decide) (by decide) (by decide) (by decide))
    · have l16 : L[16]? = some false := Tab.notyet hsz (hcl 16 _ rfl) 14 ⟨⟨14, .data⟩, by simp, rfl, rfl⟩ hL
      have s64 : a'.tmps[64]? = some (.pointer (some ⟨c.M, 0, none⟩)) := (HT.out (3, 64) (by decide) (by cases ho; exact hd ⟨3, .data⟩ (by simp) rfl)).trans (congrArg some (HW.out.stat (3, 64) (by decide) (by decide) (by cases ho; exact hd ⟨3, .data⟩ (by simp) rfl)))
      have s65 : a'.tmps[65]? = some (.int .i64 k') := (HT.out (4, 65) (by decide) (by cases ho; exact hd ⟨4, .data⟩ (by simp) rfl)).trans (congrArg some (HW.out.stat (4, 65) (by decide) (by decide) (by cases ho; exact hd ⟨4, .data⟩ (by simp) rfl)))
      have s67 : a'.tmps[67]? = some (.int .i64 (b : Int)) := (HT.out (6, 67) (by decide) (by cases ho; exact hd ⟨6, .data⟩ (by simp) rfl)).trans (congrArg some (HW.out.stat (6, 67) (by decide) (by decide) (by cases ho; exact hd ⟨6, .data⟩ (by simp) rfl)))
      have s74 : a'.tmps[74]? = some (.int .i64 (t.regs d)) := (HT.out (13, 74) (by decide) (by cases ho; exact hd ⟨13, .data⟩ (by simp) rfl)).trans (congrArg some (HW.out.stat (13, 74) (by decide) (by decide) (by cases ho; exact hd ⟨13, .data⟩ (by simp) rfl)))
      cases ho
      have HDF := Lib.hid (hT.dfs.trans ha.dfs)
      clear hd HT hT hcl
      have hm8 := HW.out.at2.m
      rw [if_neg (by rw [hL]; decide)] at hm8
      have hc8 := hC w8 hm8
      clear hm8
      go_simp
      go_at_call 18
      refine hc8.mono ?_
      rintro e w9 hp
      cases hov : S2.over
      · rw [hp.ok hov]
        have hw9 := HW.out.call hL hov hp.m hp.ch
        have HW9 := Lib.hid hw9
        clear hw9 hp
        go_simp
        exact hK _ _ HW9.out
      · obtain ⟨l, hgl, hl⟩ := hp.bad hov
        rw [hl]
        have HP := Lib.hid hp
        have HP2 := HW.out.at2
        rw [if_neg (by rw [hL]; decide)] at HP2
        have HP3 := Lib.hid HP2
        clear hp HP2
        go_simp
        exact hQp _ _ l HDF.out hov hgl HP.out.m (HP3.out.ch.trans (HP.out.ch.mono fun _ _ e => Or.inl e))
    · have l16 : L[16]? = some false := Tab.notyet hsz (hcl 16 _ rfl) 15 ⟨⟨15, .data⟩, by simp, rfl, rfl⟩ hL
      cases ho
      clear hd HT hT hcl
      go_simp
      exact hK _ _ (HW.out.alloc hL l16)
    · have l14 : L[14]? = some true := (by cases ho; exact hd ⟨14, .data⟩ (by simp) rfl)
      have l15 : L[15]? = some true := (by cases ho; exact hd ⟨15, .data⟩ (by simp) rfl)
      obtain ⟨g, hg, g2, g3, g4⟩ := HW.out.box l15
      rw [if_neg (by rw [hL]; decide)] at g4
      have cg0 : w8.cell? ⟨g, 0, none⟩ = some (.int .i64 0) := g4.cell (i := 0) (by omega)
      have cg1 : w8.cell? ⟨g, 1, none⟩ = some (.int .i64 0) := g4.cell (i := 1) (by omega)
      have lg := g4.lt
      have fg0 := g4.frozen 0
      have fg1 := g4.frozen 1
      clear g2 g3 g4
      have s6 : a'.tmps[6]? = some (.pointer (some ⟨g, 0, none⟩)) := (HT.out (15, 6) (by decide) l15).trans (congrArg some hg)
      have s75 : a'.tmps[75]? = some (.agg #[.int .i64 how, .int .i64 val]) := (HT.out (14, 75) (by decide) (by cases ho; exact hd ⟨14, .data⟩ (by simp) rfl)).trans (congrArg some (HW.out.stat (14, 75) (by decide) (by decide) (by cases ho; exact hd ⟨14, .data⟩ (by simp) rfl)))
      cases ho
      clear hd HT hT hcl
      go_simp
      exact hK (.tuple #[]) _ (HW.out.store hKK l14 l15 hL hg)
end Go.Proofs.YtonndofbnhnkpaaGreat.Evl
namespace Go.Proofs.YtonndofbnhnkpaaGreat.Evl
open Go.RowKit Num KeyM KeyW StatW Blk VmA VmG Prg EvM Rf
theorem seq_then {P : Program} {x y : Code} {Q : Exit → Act → World → Prop} {a : Act} {w : World} (h : ∀ K : Act → World → Prop, (∀ a' w', y.wp P Q a' w' → K a' w') → x.wp P (Exit.then K Q) a w) : (Code.seq x y).wp P Q a w := wp_seq (h _ fun _ _ h => h)
/-- A hand takes the end of a task. -/
theorem IsE.take {c : Mc} {w : World} {B : Nat} {t : RT} {H : Nat → Nat} (h : IsE c w B t H) (k : Nat) (hk : k < 4) (g : Nat) (a b : Int) (hg : w.rowIs g 29 2 (two (.int .i64 a) (.int .i64 b))) :
    IsE c (w.setCell ⟨B, 10 + k, none⟩ (.pointer (some ⟨g, 0, none⟩))) B { t with has := EvM.upd t.has k true, hh := EvM.upd t.hh k a, hv := EvM.upd t.hv k b } (fun i => if i = k then g else H i) := by
  refine ⟨e_take hk (h.row.set (10 + k) _), fun i hi h1 => ?_⟩
  have ne : ∀ {b : Nat} {f : Nat → Value}, w.rowIs b 29 2 f → b ≠ B := fun hr e => by
    obtain ⟨cur, hcur⟩ := row_type hr
    exact ty_ne h.row hcur (by decide) e
  show World.rowIs _ (if i = k then g else H i) 29 2 (two (.int .i64 (if i = k then a else t.hh i)) (.int .i64 (if i = k then b else t.hv i)))
  change (if i = k then true else t.has i) = true at h1
  by_cases e : i = k
  · rw [if_pos e, if_pos e, if_pos e]
    exact row_setO hg (ne hg) _
  · rw [if_neg e] at h1
    rw [if_neg e, if_neg e, if_neg e]
    exact row_setO (h.hands i hi h1) (ne (h.hands i hi h1)) _
def idxk9 : List (Nat × Nat) := [(0, 76), (1, 77), (2, 78), (3, 79), (4, 80), (5, 81)]
def Vk9 (B X k : Nat) : Nat → Value := fun sl => match sl with
  | 76 => .pointer (some ⟨B, 0, none⟩)
  | 77 => .pointer (some ⟨X, 1, none⟩)
  | 78 => .int .i64 (k : Int)
  | 79 => .pointer (some ⟨B, 0, none⟩)
  | 80 => .pointer (some ⟨B, 10, none⟩)
  | 81 => .pointer (some ⟨B, 10 + k, none⟩)
  | _ => undef
set_option maxRecDepth 100000 in
set_option maxHeartbeats 8000000 in
theorem fork_r9 (f : Nat → Value) (k g : Nat) (v0 : Value) (w1 : World) (B X : Nat) (a : Act) (Q : Exit → Act → World → Prop) (ha : FkA a B X) (t6 : a.tmps[6]? = some (.pointer (some ⟨g, 0, none⟩))) (hk4 : k < 4) (hr : w1.rowIs B 87 15 f) (lX : X < w1.heap.size) (hx : w1.cell? ⟨X, 1, none⟩ = some (.int .i64 (k : Int))) (hB : w1.cell? ⟨B, 10 + k, none⟩ = some v0)
    (hQ : ∀ a' : Act, a'.tmps.size = 82 → a'.defers = [] → Q .normal a' (w1.drew.setCell ⟨B, 10 + k, none⟩ (.pointer (some ⟨g, 0, none⟩)))) : (nth 7 (bodyOf Tryz.f58)).wp Tryz.prog Q a w1 := by
  simp only [nth, bodyOf, Tryz.f58, Option.getD]
  refine Tab.region_rs (by kernel_rfl) idxk9 82 (Vk9 B X k) 6 (w1.drew.setCell ⟨B, 10 + k, none⟩ (.pointer (some ⟨g, 0, none⟩))) (by kernel_rfl) ha.sz (by kernel_rfl) (by kernel_rfl) ?_ ?_
  · intro a' hT
    exact hQ a' (hT.sz.trans ha.sz) (hT.dfs.trans ha.dfs)
  · intro i' o L a' K' Q' hT hL ho hd hold hcl hK
    have hi' : i' < 7 := (Array.getElem?_eq_some_iff.1 ho).1
    have HT : Hid (∀ q ∈ idxk9, L[q.1]? = some true → a'.tmps[q.2]? = some (Vk9 B X k q.2)) := hT.tab
    have x1 : w1.drew.cell? ⟨X, 1, none⟩ = some (.int .i64 (k : Int)) := hx
    have b1 : w1.drew.cell? ⟨B, 10 + k, none⟩ = some v0 := hB
    have f1 := (World.rowIs.drew hr).frozen (10 + k)
    have lB := (World.rowIs.drew hr).lt
    have lX1 : X < w1.drew.heap.size := lX
    have k1 : (k : Int) < 4 := by omega
    have k2 : (0 : Int) ≤ (k : Int) := by omega
    clear hr hx hB hQ
    obtain rfl | rfl | rfl | rfl | rfl | rfl | rfl : i' = 0 ∨ i' = 1 ∨ i' = 2 ∨ i' = 3 ∨ i' = 4 ∨ i' = 5 ∨ i' = 6 := by omega
    · have s0 : a'.tmps[0]? = some (.pointer (some ⟨B, 0, none⟩)) := (hT.out 0 (by decide)).trans ha.t0
      cases ho
      clear hd HT hT hold hcl
      go_simp
      exact hK
    · have s3 : a'.tmps[3]? = some (.pointer (some ⟨X, 0, none⟩)) := (hT.out 3 (by decide)).trans ha.t3
      cases ho
      clear hd HT hT hold hcl
      go_simp
      exact hK
    · have s77 : a'.tmps[77]? = some (.pointer (some ⟨X, 1, none⟩)) := HT.out (1, 77) (by decide) (by cases ho; exact hd ⟨1, .data⟩ (by simp) rfl)
      cases ho
      clear hd HT hT hold hcl
      go_simp
      exact hK
    · have s76 : a'.tmps[76]? = some (.pointer (some ⟨B, 0, none⟩)) := HT.out (0, 76) (by decide) (by cases ho; exact hd ⟨0, .data⟩ (by simp) rfl)
      cases ho
      clear hd HT hT hold hcl
      go_simp
      exact hK
    · have s79 : a'.tmps[79]? = some (.pointer (some ⟨B, 0, none⟩)) := HT.out (3, 79) (by decide) (by cases ho; exact hd ⟨3, .data⟩ (by simp) rfl)
      cases ho
      clear hd HT hT hold hcl
      go_simp
      exact hK
    · have s80 : a'.tmps[80]? = some (.pointer (some ⟨B, 10, none⟩)) := HT.out (4, 80) (by decide) (by cases ho; exact hd ⟨4, .data⟩ (by simp) rfl)
      have s78 : a'.tmps[78]? = some (.int .i64 (k : Int)) := HT.out (2, 78) (by decide) (by cases ho; exact hd ⟨2, .data⟩ (by simp) rfl)
      cases ho
      clear hd HT hT hold hcl
      go_simp
      exact hK
    · have s81 : a'.tmps[81]? = some (.pointer (some ⟨B, 10 + k, none⟩)) := HT.out (5, 81) (by decide) (by cases ho; exact hd ⟨5, .data⟩ (by simp) rfl)
      have s6 : a'.tmps[6]? = some (.pointer (some ⟨g, 0, none⟩)) := (hT.out 6 (by decide)).trans t6
      cases ho
      clear hd HT hT hold hcl
      go_simp
      exact hK
theorem fork_c2 (a : Act) (w : World) (B X : Nat) (Q : Exit → Act → World → Prop) (ha : FkA a B X) (h : a.tmps[20]? = some (.bool false)) (hQ : Q .normal a w) : (nth 1 (nth 1 (bodyOf Tryz.f58))).wp Tryz.prog Q a w := by
  simp only [nth, bodyOf, Tryz.f58, Option.getD]
  refine wp_cond_false (by show a.tmps.getD 20 undef = _; rw [Array.getD_eq_getD_getElem?, h]; rfl) ?_
  go_wp2_with fail
  exact hQ
theorem fork_c4 (a : Act) (w : World) (B X : Nat) (Q : Exit → Act → World → Prop) (ha : FkA a B X) (h : a.tmps[27]? = some (.bool false)) (hQ : Q .normal a w) : (nth 1 (nth 2 (bodyOf Tryz.f58))).wp Tryz.prog Q a w := by
  simp only [nth, bodyOf, Tryz.f58, Option.getD]
  refine wp_cond_false (by show a.tmps.getD 27 undef = _; rw [Array.getD_eq_getD_getElem?, h]; rfl) ?_
  go_wp2_with fail
  exact hQ
set_option maxRecDepth 100000 in
set_option maxHeartbeats 8000000 in
theorem fork_c2y (a : Act) (w : World) (B X : Nat) (Q : Exit → Act → World → Prop) (ha : FkA a B X) (h : a.tmps[20]? = some (.bool true)) (hQ : ∀ a' : Act, a'.defers = [] → Q (.panic [{ v := stopV 6 0, recovered := false }]) a' w) : (nth 1 (nth 1 (bodyOf Tryz.f58))).wp Tryz.prog Q a w := by
  simp only [nth, bodyOf, Tryz.f58, Option.getD]
  obtain ⟨hsz, hdf, t0, t3⟩ := ha
  obtain ⟨_, t0'⟩ := get_of t0
  refine wp_cond (t := true) (by show a.tmps.getD 20 undef = _; rw [Array.getD_eq_getD_getElem?, h]; rfl) ?_
  simp only [if_true]
  go_wp2_with fail
  refine (stops_any _ _ _).mono ?_
  rintro e w9 ⟨rfl, rfl⟩
  go_wp2_with fail
  first | exact hQ _ rfl | rfl
set_option maxRecDepth 100000 in
set_option maxHeartbeats 8000000 in
theorem fork_c4y (a : Act) (w : World) (B X : Nat) (Q : Exit → Act → World → Prop) (ha : FkA a B X) (h : a.tmps[27]? = some (.bool true)) (hQ : ∀ a' : Act, a'.defers = [] → Q (.panic [{ v := stopV 9 0, recovered := false }]) a' w) : (nth 1 (nth 2 (bodyOf Tryz.f58))).wp Tryz.prog Q a w := by
  simp only [nth, bodyOf, Tryz.f58, Option.getD]
  obtain ⟨hsz, hdf, t0, t3⟩ := ha
  obtain ⟨_, t0'⟩ := get_of t0
  refine wp_cond (t := true) (by show a.tmps.getD 27 undef = _; rw [Array.getD_eq_getD_getElem?, h]; rfl) ?_
  simp only [if_true]
  go_wp2_with fail
  refine (stops_any _ _ _).mono ?_
  rintro e w9 ⟨rfl, rfl⟩
  go_wp2_with fail
  first | exact hQ _ rfl | rfl
set_option maxRecDepth 100000 in
set_option maxHeartbeats 8000000 in
theorem fork_r0 (x : Ins) (w : World) (B : Nat) (a : Act) (Q : Exit → Act → World → Prop) (hsz : a.tmps.size = 82) (hdf : a.defers = []) (t0 : a.tmps[0]? = some (.pointer (some ⟨B, 0, none⟩))) (t1 : a.tmps[1]? = some (.agg #[.int .i64 x.op, .int .i64 x.a, .int .i64 x.b, .int .i64 x.c]))
    (hQ : ∀ a' : Act, FkA a' B w.heap.size → Q .normal a' (w.alloc (.cells #[.int .i64 x.op, .int .i64 x.a, .int .i64 x.b, .int .i64 x.c] 53))) : (nth 0 (bodyOf Tryz.f58)).wp Tryz.prog Q a w := by
  simp only [nth, bodyOf, Tryz.f58, Option.getD]
  obtain ⟨_, t0'⟩ := get_of t0
  obtain ⟨_, t1'⟩ := get_of t1
  go_wp2_with fail
  exact ⟨by simp [hsz], by first | rfl | exact hdf, by simp [Array.getElem?_setIfInBounds, t0], by simp [Array.getElem?_setIfInBounds, hsz]⟩
theorem body139 : bodyOf Tryz.f58 = .seq (nth 0 (bodyOf Tryz.f58)) (.seq (.seq (nth 0 (nth 1 (bodyOf Tryz.f58))) (nth 1 (nth 1 (bodyOf Tryz.f58)))) (.seq (.seq (nth 0 (nth 2 (bodyOf Tryz.f58))) (nth 1 (nth 2 (bodyOf Tryz.f58)))) (.seq (nth 3 (bodyOf Tryz.f58)) (.seq (nth 4 (bodyOf Tryz.f58)) (.seq (nth 5 (bodyOf Tryz.f58)) (.seq (nth 6 (bodyOf Tryz.f58)) (nth 7 (bodyOf Tryz.f58)))))))) := by kernel_rfl
theorem kid (t : RT) (hk : chk t.key = true) (hd : dep t.key < 5) (h0 : 0 ≤ t.forks) (h1 : t.forks < 1000) (w : World) : Calls Tryz.prog 81 #[.int .i64 t.key, .int .i64 (t.forks + 1)] w fun e w' => e = .returned (.tuple #[.int .i64 (child t.key (t.forks + 1)), .bool true]) ∧ Bl w w' :=
  KeyW.child_yes t.key (t.forks + 1) w hk hd (by omega) (by omega)
/-- A fork's frame at the beginning. -/
structure FkB (a : Act) (B : Nat) (x : Ins) : Prop where
  sz : a.tmps.size = 82
  dfs : a.defers = []
  t0 : a.tmps[0]? = some (.pointer (some ⟨B, 0, none⟩))
  t1 : a.tmps[1]? = some (.agg #[.int .i64 x.op, .int .i64 x.a, .int .i64 x.b, .int .i64 x.c])
theorem fork_wp (c : Mc) (t : RT) (S S2 : RS) (a0 b d : Nat) (how val : Int) (w : World) (B : Nat) (H : Nat → Nat) (a : Act) (Q : Exit → Act → World → Prop) (ha : FkB a B ⟨9, a0, b, d⟩) (hM : IsM c w S) (hE : IsE c w B t H) (hKB : c.K ≤ B)
    (hdp : ¬ c.depth ≤ dep t.key) (hd5 : dep t.key < 5) (hm : ¬ 1000 ≤ t.forks) (hm0 : 0 ≤ t.forks) (hS0 : 0 ≤ S.forks) (hS1 : S.forks < 100000) (ha4 : a0 < 4) (hd8 : d < 8) (hk : chk t.key = true)
    (hC : ∀ w, IsM c w { S with forks := S.forks + 1 } → Calls Tryz.prog 18 #[.pointer (some ⟨c.M, 0, none⟩), .int .i64 (child t.key (t.forks + 1)), .int .i64 b, .int .i64 (t.regs d)] w fun e w' => RunPost c w how val S2 e w')
    (hQ : ∀ (a' : Act) (w' : World), a'.tmps.size = 82 → a'.defers = [] → IsM c w' S2 → (∃ H', IsE c w' B { t with forks := t.forks + 1, has := EvM.upd t.has a0 true, hh := EvM.upd t.hh a0 how, hv := EvM.upd t.hv a0 val } H') → Ch (fun k => Mvs c k ∨ k = B) w w' → S2.over = false → Q .normal a' w')
    (hQp : ∀ (a' : Act) (w' : World) (l : List PanicEntry), a'.defers = [] → S2.over = true → NoG l → IsM c w' S2 → Ch (fun k => Mvs c k ∨ k = B) w w' → Q (.panic ({ v := overV, recovered := false } :: l)) a' w') : (bodyOf Tryz.f58).wp Tryz.prog Q a w := by
  have hA : At2 c w (w.alloc (.cells #[.int .i64 9, .int .i64 a0, .int .i64 b, .int .i64 d] 53)) B w.heap.size t S H ⟨9, a0, b, d⟩ := (At1.of (x := ⟨9, a0, b, d⟩) hM hE).at2
  have hKK : c.K ≤ w.heap.size := by have := hM.row.lt; have := hM.far.1; omega
  rw [body139]
  refine seq_then fun K1 g1 => ?_
  refine fork_r0 ⟨9, a0, b, d⟩ w B a _ ha.sz ha.dfs ha.t0 ha.t1 fun a1 ha1 => g1 _ _ ?_
  refine seq_then fun K2 g2 => ?_
  refine seq_then fun K3 g3 => ?_
  refine fork_r1 c t S ⟨9, a0, b, d⟩ w _ B _ H a1 _ ha1 hA fun a2 w2 ha2 h20 hA2 hb2 => g3 _ _ ?_
  refine fork_c2 a2 w2 B _ _ ha2 (by rw [h20]; congr; simpa using hdp) (g2 _ _ ?_)
  refine seq_then fun K4 g4 => ?_
  refine seq_then fun K5 g5 => ?_
  refine fork_r3 t.forks w2 B _ a2 _ ha2 hA2.e.row.lt (hA2.e.row.cell (i := 14) (by omega)) fun a3 ha3 h27 => g5 _ _ ?_
  refine fork_c4 a3 w2 B _ _ ha3 (by rw [h27]; congr; simpa using hm) (g4 _ _ ?_)
  refine seq_then fun K6 g6 => ?_
  refine fork_r5 t.forks _ w2 B _ a3 _ ha3 hA2.e.row (hA2.e.row.cell (i := 14) (by omega)) hm0 (by omega) fun a4 ha4' => g6 _ _ ?_
  have hA3 := hA2.setF hKB (t.forks + 1)
  refine seq_then fun K7 g7 => ?_
  refine fork_r6 S.forks _ _ B _ c.M a4 _ ha4' hA3.m.row hA3.e.row.lt (hA3.e.row.cell (i := 0) (by omega)) (hA3.m.row.cell (i := 11) (by omega)) hS0 (by omega) fun a5 ha5 => g7 _ _ ?_
  have hA4 := hA3.setM (S.forks + 1)
  refine seq_then fun K8 g8 => ?_
  refine fork_r7 c _ _ ⟨9, a0, b, d⟩ w _ B _ H a5 _ ha5 hA4 (child t.key (t.forks + 1)) (kid t hk hd5 hm0 (by omega)) fun a6 w6 ha6 h4 hA6 => g8 _ _ ?_
  refine seq_then fun K9 g9 => ?_
  refine fork_r8 c _ _ S2 a0 b d w w6 B _ H a6 _ ha6 hA6 hd8 hKK (child t.key (t.forks + 1)) how val h4 hC (fun a7 w7 g ha7 h6 hA7 hg hov => g9 _ _ ?_) (fun a7 w7 l hd7 hov hl hm7 hc7 => hQp a7 w7 l hd7 hov hl hm7 hc7)
  refine fork_r9 _ a0 g _ w7 B _ a7 _ ha7 h6 ha4 hA7.e.row hA7.x.lt (row4_cells hA7.x).1.2.1 (ec_hand hA7.e ha4) fun a8 hs8 hd8' => ?_
  refine hQ a8 _ hs8 hd8' ?_ ?_ ?_ hov
  · exact (hA7.drew.m).on hA7.drew.e.row (by decide) (by decide) (by decide) hKB ((Ch.refl _ _).setB _)
  · exact ⟨_, hA7.drew.e.take a0 ha4 g how val (World.rowIs.drew hg)⟩
  · exact hA7.drew.ch.set (Or.inl (Or.inr rfl)) _
theorem fork_deep_wp (c : Mc) (t : RT) (S : RS) (a0 b d : Nat) (w : World) (B : Nat) (H : Nat → Nat) (a : Act) (Q : Exit → Act → World → Prop) (ha : FkB a B ⟨9, a0, b, d⟩) (hM : IsM c w S) (hE : IsE c w B t H)
    (hdp : c.depth ≤ dep t.key) (hQ : ∀ (a' : Act) (w' : World), a'.defers = [] → Bl w w' → Q (.panic [{ v := stopV 6 0, recovered := false }]) a' w') : (bodyOf Tryz.f58).wp Tryz.prog Q a w := by
  have hA : At2 c w (w.alloc (.cells #[.int .i64 9, .int .i64 a0, .int .i64 b, .int .i64 d] 53)) B w.heap.size t S H ⟨9, a0, b, d⟩ := (At1.of (x := ⟨9, a0, b, d⟩) hM hE).at2
  rw [body139]
  refine seq_then fun K1 g1 => ?_
  refine fork_r0 ⟨9, a0, b, d⟩ w B a _ ha.sz ha.dfs ha.t0 ha.t1 fun a1 ha1 => g1 _ _ ?_
  refine seq_then fun K2 g2 => ?_
  refine seq_then fun K3 g3 => ?_
  refine fork_r1 c t S ⟨9, a0, b, d⟩ w _ B _ H a1 _ ha1 hA fun a2 w2 ha2 h20 hA2 hb2 => g3 _ _ ?_
  exact fork_c2y a2 w2 B _ _ ha2 (by rw [h20]; congr; simpa using hdp) fun a' hd => hQ a' w2 hd (Bl.trans ((Bl.refl _).alloc _) hb2)
theorem fork_many_wp (c : Mc) (t : RT) (S : RS) (a0 b d : Nat) (w : World) (B : Nat) (H : Nat → Nat) (a : Act) (Q : Exit → Act → World → Prop) (ha : FkB a B ⟨9, a0, b, d⟩) (hM : IsM c w S) (hE : IsE c w B t H)
    (hdp : ¬ c.depth ≤ dep t.key) (hm : 1000 ≤ t.forks) (hQ : ∀ (a' : Act) (w' : World), a'.defers = [] → Bl w w' → Q (.panic [{ v := stopV 9 0, recovered := false }]) a' w') : (bodyOf Tryz.f58).wp Tryz.prog Q a w := by
  have hA : At2 c w (w.alloc (.cells #[.int .i64 9, .int .i64 a0, .int .i64 b, .int .i64 d] 53)) B w.heap.size t S H ⟨9, a0, b, d⟩ := (At1.of (x := ⟨9, a0, b, d⟩) hM hE).at2
  rw [body139]
  refine seq_then fun K1 g1 => ?_
  refine fork_r0 ⟨9, a0, b, d⟩ w B a _ ha.sz ha.dfs ha.t0 ha.t1 fun a1 ha1 => g1 _ _ ?_
  refine seq_then fun K2 g2 => ?_
  refine seq_then fun K3 g3 => ?_
  refine fork_r1 c t S ⟨9, a0, b, d⟩ w _ B _ H a1 _ ha1 hA fun a2 w2 ha2 h20 hA2 hb2 => g3 _ _ ?_
  refine fork_c2 a2 w2 B _ _ ha2 (by rw [h20]; congr; simpa using hdp) (g2 _ _ ?_)
  refine seq_then fun K4 g4 => ?_
  refine seq_then fun K5 g5 => ?_
  refine fork_r3 t.forks w2 B _ a2 _ ha2 hA2.e.row.lt (hA2.e.row.cell (i := 14) (by omega)) fun a3 ha3 h27 => g5 _ _ ?_
  exact fork_c4y a3 w2 B _ _ ha3 (by rw [h27]; congr; simpa using hm) fun a' hd => hQ a' w2 hd (Bl.trans ((Bl.refl _).alloc _) hb2)
/-- How a fork is left: r is the task and the machine behind it. -/
structure ForkPost (c : Mc) (w : World) (B : Nat) (v : Value) (r : RT × RS) (e : Ending) (w' : World) : Prop where
  ok : r.1.how = 0 → r.2.over = false → e = .returned v ∧ ∃ H', IsE c w' B r.1 H'
  bad : r.1.how ≠ 0 → r.2.over = false → e = .panicked [{ v := stopV r.1.how r.1.val, recovered := false }]
  over : r.2.over = true → ∃ l, NoG l ∧ e = .panicked ({ v := overV, recovered := false } :: l)
  m : IsM c w' r.2
  ch : Ch (fun k => Mvs c k ∨ k = B) w w'
set_option maxRecDepth 100000 in
set_option maxHeartbeats 8000000 in
theorem fork_kid (c : Mc) (t : RT) (S S2 : RS) (a0 b d : Nat) (how val : Int) (w : World) (B : Nat) (H : Nat → Nat) (hM : IsM c w S) (hE : IsE c w B t H) (hKB : c.K ≤ B) (h0 : t.how = 0)
    (hdp : ¬ c.depth ≤ dep t.key) (hd5 : dep t.key < 5) (hm : ¬ 1000 ≤ t.forks) (hm0 : 0 ≤ t.forks) (hS0 : 0 ≤ S.forks) (hS1 : S.forks < 100000) (ha4 : a0 < 4) (hd8 : d < 8) (hk : chk t.key = true)
    (hC : ∀ w, IsM c w { S with forks := S.forks + 1 } → Calls Tryz.prog 18 #[.pointer (some ⟨c.M, 0, none⟩), .int .i64 (child t.key (t.forks + 1)), .int .i64 b, .int .i64 (t.regs d)] w fun e w' => RunPost c w how val S2 e w') :
    Calls Tryz.prog 58 #[.pointer (some ⟨B, 0, none⟩), .agg #[.int .i64 9, .int .i64 a0, .int .i64 b, .int .i64 d]] w fun e w' => ForkPost c w B (.tuple #[]) ({ t with forks := t.forks + 1, has := EvM.upd t.has a0 true, hh := EvM.upd t.hh a0 how, hv := EvM.upd t.hv a0 val }, S2) e w' := by
  go_enter Tryz.func58, Tryz.ntmps58
  refine fork_wp c t S S2 a0 b d how val w B H _ _ ⟨rfl, rfl, rfl, rfl⟩ hM hE hKB hdp hd5 hm hm0 hS0 hS1 ha4 hd8 hk hC (fun a' w' hs hd hm he hc ho => ?_) (fun a' w' l hd ho hl hm hc => ?_)
  · exact bodyPost_ret (v := .tuple #[]) (by simp [results, Tryz.results58, go_sem]) hd ⟨fun _ _ => ⟨rfl, he⟩, fun h => absurd h0 h, fun h => (by change S2.over = true at h; rw [ho] at h; cases h), hm, hc⟩
  · exact ⟨hd, fun _ h => (by change S2.over = false at h; rw [ho] at h; cases h), fun _ h => (by change S2.over = false at h; rw [ho] at h; cases h), fun _ => ⟨l, hl, rfl⟩, hm, hc⟩
set_option maxRecDepth 100000 in
set_option maxHeartbeats 8000000 in
theorem fork_too (c : Mc) (t : RT) (S : RS) (a0 b d : Nat) (w : World) (B : Nat) (H : Nat → Nat) (hM : IsM c w S) (hE : IsE c w B t H) (hv0 : t.val = 0) (ho : S.over = false) (how : Int) (hw : (c.depth ≤ dep t.key ∧ how = 6) ∨ (¬ c.depth ≤ dep t.key ∧ 1000 ≤ t.forks ∧ how = 9)) :
    Calls Tryz.prog 58 #[.pointer (some ⟨B, 0, none⟩), .agg #[.int .i64 9, .int .i64 a0, .int .i64 b, .int .i64 d]] w fun e w' => ForkPost c w B (.tuple #[]) ({ t with how := how }, S) e w' := by
  have hP : ∀ w', Bl w w' → how ≠ 0 → ForkPost c w B (.tuple #[]) ({ t with how := how }, S) (.panicked [{ v := stopV how 0, recovered := false }]) w' := fun w' hb hn =>
    ⟨fun h => absurd h hn, fun _ _ => by show _ = Ending.panicked [{ v := stopV how t.val, recovered := false }]; rw [hv0], fun h => (by change S.over = true at h; rw [ho] at h; cases h), hM.bl hb, Ch.of_bl hb⟩
  go_enter Tryz.func58, Tryz.ntmps58
  rcases hw with ⟨h1, rfl⟩ | ⟨h1, h2, rfl⟩
  · exact fork_deep_wp c t S a0 b d w B H _ _ ⟨rfl, rfl, rfl, rfl⟩ hM hE h1 fun a' w' hd hb => ⟨hd, hP w' hb (by decide)⟩
  · exact fork_many_wp c t S a0 b d w B H _ _ ⟨rfl, rfl, rfl, rfl⟩ hM hE h1 h2 fun a' w' hd hb => ⟨hd, hP w' hb (by decide)⟩
/-- What a step does, and how it is left: any step. -/
def StpSays (c : Mc) (t : RT) (S : RS) (x : Ins) (r : RT × RS) : Prop := ∀ (w : World) (B : Nat) (H : Nat → Nat), IsM c w S → IsE c w B t H → c.K ≤ B →
  Calls Tryz.prog 33 #[.pointer (some ⟨B, 0, none⟩), .agg #[.int .i64 x.op, .int .i64 x.a, .int .i64 x.b, .int .i64 x.c], .int .i64 t.place] w fun e w' => ForkPost c w B (.int .i64 r.1.place) r e w'
theorem StepSays.stp {c : Mc} {t : RT} {S : RS} {x : Ins} {r : RT × RS} (h : StepSays c t S x r) (ho : r.2.over = false) : StpSays c t S x r := fun w B H hM hE hK =>
  (h w B H hM hE hK).mono fun e w' hp => ⟨fun h _ => hp.ok h, fun h _ => hp.bad h, fun h => (by rw [ho] at h; cases h), hp.m, hp.ch⟩
set_option maxRecDepth 100000 in
set_option maxHeartbeats 8000000 in
theorem step_fork (c : Mc) (t : RT) (S : RS) (a b d : Nat) (r : RT × RS) (hpl : r.1.place = t.place)
    (hF : ∀ (w : World) (B : Nat) (H : Nat → Nat), IsM c w S → IsE c w B t H → c.K ≤ B → Calls Tryz.prog 58 #[.pointer (some ⟨B, 0, none⟩), .agg #[.int .i64 9, .int .i64 a, .int .i64 b, .int .i64 d]] w fun e w' => ForkPost c w B (.tuple #[]) r e w') : StpSays c t S ⟨9, a, b, d⟩ r := by
  intro w B H hM hE hK
  rw [hpl]
  have hA := At1.of (x := ⟨9, a, b, d⟩) hM hE
  have hx := hA.x
  obtain ⟨⟨x0, x1, x2, x3⟩, _⟩ := row4_cells hx
  have hfu := hF _ B H hA.m hA.e hK
  have HA := Lib.hid hA
  have lX := hx.lt
  clear hM hE hA hx hF hpl
  go_enter Tryz.func33, Tryz.ntmps33
  go_wp2_with fail
  refine hfu.mono ?_
  intro e w3 hp
  have hc : Ch (fun k => Mvs c k ∨ k = B) w w3 := (Ch.of_bl HA.out.bl).trans hp.ch
  have hm := hp.m
  clear hfu
  cases ho : r.2.over
  · by_cases h0 : r.1.how = 0
    · obtain ⟨rfl, he⟩ := hp.ok h0 ho
      have HP : Hid (ForkPost c w B (.int .i64 t.place) r (.returned (.int .i64 t.place)) w3) := ⟨fun _ _ => ⟨rfl, he⟩, fun h => absurd h0 h, fun h => (by rw [ho] at h; cases h), hm, hc⟩
      clear hp hc hm he h0 ho HA
      go_wp2_with fail
      exact bodyPost_ret (v := .int .i64 t.place) (by simp [results, Tryz.results33, go_sem]) rfl HP.out
    · have hb := hp.bad h0 ho
      subst hb
      have HP : Hid (ForkPost c w B (.int .i64 t.place) r (.panicked [{ v := stopV r.1.how r.1.val, recovered := false }]) w3) := ⟨fun h => absurd h h0, fun _ _ => rfl, fun h => (by rw [ho] at h; cases h), hm, hc⟩
      clear hp hc hm h0 ho HA
      go_wp2_with fail
      exact ⟨rfl, HP.out⟩
  · obtain ⟨l, hl, rfl⟩ := hp.over ho
    have HP : Hid (ForkPost c w B (.int .i64 t.place) r (.panicked ({ v := overV, recovered := false } :: l)) w3) := ⟨fun _ h => (by rw [ho] at h; cases h), fun _ h => (by rw [ho] at h; cases h), fun _ => ⟨l, hl, rfl⟩, hm, hc⟩
    clear hp hc hm ho HA hl
    go_wp2_with fail
    exact ⟨rfl, HP.out⟩
end Go.Proofs.YtonndofbnhnkpaaGreat.Evl
