/- The program's package eval: a step that reckons. The program's package eval: steps that jump, end, divide. The program's package eval: what is in a hand; joins and cancels. -/
import Derived.Test.YtonndofbnhnkpaaGreatEvlB
import Derived.Test.YtonndofbnhnkpaaGreatEvB
set_option linter.unusedVariables false
set_option linter.unusedSimpArgs false
set_option linter.unusedSectionVars false
namespace Go.Proofs.YtonndofbnhnkpaaGreat.Evl
open Go.RowKit Num KeyM KeyW StatW Blk VmA VmG Prg EvM Rf
/-- How a step is left. -/
structure StepPost (c : Mc) (w : World) (B : Nat) (r : RT × RS) (e : Ending) (w' : World) : Prop where
  ok : r.1.how = 0 → e = .returned (.int .i64 r.1.place) ∧ ∃ H', IsE c w' B r.1 H'
  bad : r.1.how ≠ 0 → e = .panicked [{ v := stopV r.1.how r.1.val, recovered := false }]
  m : IsM c w' r.2
  ch : Ch (fun k => Mvs c k ∨ k = B) w w'
/-- What a step does, and how it is left. -/
def StepSays (c : Mc) (t : RT) (S : RS) (x : Ins) (r : RT × RS) : Prop := ∀ (w : World) (B : Nat) (H : Nat → Nat), IsM c w S → IsE c w B t H → c.K ≤ B →
  Calls Tryz.prog 33 #[.pointer (some ⟨B, 0, none⟩), .agg #[.int .i64 x.op, .int .i64 x.a, .int .i64 x.b, .int .i64 x.c], .int .i64 t.place] w fun e w' => StepPost c w B r e w'
/-- The world once a task has begun a step. -/
structure At1 (c : Mc) (w w1 : World) (B X : Nat) (t : RT) (S : RS) (H : Nat → Nat) (x : Ins) : Prop where
  m : IsM c w1 S
  e : IsE c w1 B t H
  x : w1.rowIs X 53 4 (four (.int .i64 x.op) (.int .i64 x.a) (.int .i64 x.b) (.int .i64 x.c))
  bl : Bl w w1
theorem At1.of {c : Mc} {w : World} {B : Nat} {t : RT} {S : RS} {H : Nat → Nat} {x : Ins} (hm : IsM c w S) (he : IsE c w B t H) : At1 c w (w.alloc (.cells #[.int .i64 x.op, .int .i64 x.a, .int .i64 x.b, .int .i64 x.c] 53)) B w.heap.size t S H x :=
  ⟨hm.bl ((Bl.refl _).alloc _), he.bl ((Bl.refl _).alloc _), row4_alloc w _ _ _ _ 53, (Bl.refl _).alloc _⟩
theorem At1.drew {c : Mc} {w w1 : World} {B X : Nat} {t : RT} {S : RS} {H : Nat → Nat} {x : Ins} (h : At1 c w w1 B X t S H x) : At1 c w w1.drew B X t S H x :=
  ⟨h.m.bl (Bl.drew (Bl.refl _)), h.e.bl (Bl.drew (Bl.refl _)), World.rowIs.drew h.x, Bl.drew h.bl⟩
def idxb2 : List (Nat × Nat) := [(0, 28), (1, 29), (2, 30), (3, 31), (4, 32), (5, 33), (6, 34), (7, 35), (8, 36), (9, 37), (10, 38), (11, 39), (12, 40), (13, 41), (14, 42), (15, 43), (16, 44), (17, 45)]
def Vb2 (B X : Nat) (t : RT) (a b d : Nat) : Nat → Value := fun sl => match sl with
  | 28 => .pointer (some ⟨B, 2, none⟩)
  | 29 => .pointer (some ⟨X, 1, none⟩)
  | 30 => .int .i64 (a : Int)
  | 31 => .pointer (some ⟨B, 2, none⟩)
  | 32 => .pointer (some ⟨X, 2, none⟩)
  | 33 => .int .i64 (b : Int)
  | 34 => .pointer (some ⟨B, 2, none⟩)
  | 35 => .pointer (some ⟨B, 2 + b, none⟩)
  | 36 => .int .i64 (t.regs b)
  | 37 => .pointer (some ⟨B, 2, none⟩)
  | 38 => .pointer (some ⟨X, 3, none⟩)
  | 39 => .int .i64 (d : Int)
  | 40 => .pointer (some ⟨B, 2, none⟩)
  | 41 => .pointer (some ⟨B, 2 + d, none⟩)
  | 42 => .int .i64 (t.regs d)
  | 43 => .int .i64 (add (t.regs b) (t.regs d))
  | 44 => .pointer (some ⟨B, 2, none⟩)
  | 45 => .pointer (some ⟨B, 2 + a, none⟩)
  | _ => undef
set_option maxRecDepth 100000 in
set_option maxHeartbeats 8000000 in
theorem step_add (c : Mc) (t : RT) (S : RS) (a b d : Nat) (ha : a < 8) (hb : b < 8) (hd8 : d < 8) (h0 : t.how = 0) : StepSays c t S ⟨2, a, b, d⟩ (t.setReg a (add (t.regs b) (t.regs d)), S) := by
  intro w B H hM hE hK
  have hA := At1.of (x := ⟨2, a, b, d⟩) hM hE
  have HA := Lib.hid hA
  clear hM hE hA
  go_enter Tryz.func33, Tryz.ntmps33
  go_wp2_with fail
  refine at_w (fun w1 => At1 c w w1 B w.heap.size t S H ⟨2, a, b, d⟩) HA.out ?_
  rintro w1 hA1
  generalize w.heap.size = X at *
  have HA1 := Lib.hid hA1
  have hA2 := hA1.drew
  clear HA hA1
  refine Tab.region_rs (by kernel_rfl) idxb2 204 (Vb2 B X t a b d) 18 (w1.drew.setCell ⟨B, 2 + a, none⟩ (.int .i64 (add (t.regs b) (t.regs d)))) (by kernel_rfl) (by rfl) (by kernel_rfl) (by kernel_rfl) ?_ ?_
  · intro a' hT
    have r2 : a'.tmps[2]? = some (.int .i64 t.place) := (hT.out 2 (by decide)).trans rfl
    obtain ⟨_, r2'⟩ := Array.getElem?_eq_some_iff.1 r2
    have hdf : a'.defers = [] := hT.dfs
    have hsz : a'.tmps.size = 204 := hT.sz.trans rfl
    have hE2 := hA2.e.setReg a ha (add (t.regs b) (t.regs d))
    have hM2 : IsM c (w1.drew.setCell ⟨B, 2 + a, none⟩ (.int .i64 (add (t.regs b) (t.regs d)))) S := hA2.m.on hA2.e.row (by decide) (by decide) (by decide) hK ((Ch.refl _ _).setB _)
    have hC2 : Ch (fun k => Mvs c k ∨ k = B) w (w1.drew.setCell ⟨B, 2 + a, none⟩ (.int .i64 (add (t.regs b) (t.regs d)))) := (Ch.of_bl hA2.bl).set (Or.inl (Or.inr rfl)) _
    clear hT
    go_wp2_with fail
    refine bodyPost_ret (v := .int .i64 t.place) (by simp [results, Tryz.results33, go_sem, hsz, r2']) rfl ⟨fun _ => ⟨rfl, H, hE2⟩, fun h => absurd h0 h, hM2, hC2⟩
  · intro i' o L a' K' Q' hT hL ho hd hold hcl hK
    have hi' : i' < 19 := (Array.getElem?_eq_some_iff.1 ho).1
    have HT : Hid (∀ q ∈ idxb2, L[q.1]? = some true → a'.tmps[q.2]? = some (Vb2 B X t a b d q.2)) := hT.tab
    obtain ⟨⟨x0, x1, x2, x3⟩, _⟩ := row4_cells hA2.x
    have e1 := ec_reg hA2.e ha
    have e2 := ec_reg hA2.e hb
    have e3 := ec_reg hA2.e hd8
    have f1 := hA2.e.row.frozen (2 + a)
    have lB := hA2.e.row.lt
    have lX := hA2.x.lt
    have a1 : (a : Int) < 8 := by omega
    have a2 : (0 : Int) ≤ (a : Int) := by omega
    have b1 : (b : Int) < 8 := by omega
    have b2 : (0 : Int) ≤ (b : Int) := by omega
    have d1 : (d : Int) < 8 := by omega
    have d2 : (0 : Int) ≤ (d : Int) := by omega
    obtain rfl | rfl | rfl | rfl | rfl | rfl | rfl | rfl | rfl | rfl | rfl | rfl | rfl | rfl | rfl | rfl | rfl | rfl | rfl : i' = 0 ∨ i' = 1 ∨ i' = 2 ∨ i' = 3 ∨ i' = 4 ∨ i' = 5 ∨ i' = 6 ∨ i' = 7 ∨ i' = 8 ∨ i' = 9 ∨ i' = 10 ∨ i' = 11 ∨ i' = 12 ∨ i' = 13 ∨ i' = 14 ∨ i' = 15 ∨ i' = 16 ∨ i' = 17 ∨ i' = 18 := by omega
    · have s7 : a'.tmps[7]? = some (.pointer (some ⟨B, 2, none⟩)) := (hT.out 7 (by decide)).trans rfl
      cases ho
      clear hd HT hT hold hcl
      go_simp
      exact hK
    · have s4 : a'.tmps[4]? = some (.pointer (some ⟨X, 0, none⟩)) := (hT.out 4 (by decide)).trans rfl
      cases ho
      clear hd HT hT hold hcl
      go_simp
      exact hK
    · have s29 : a'.tmps[29]? = some (.pointer (some ⟨X, 1, none⟩)) := HT.out (1, 29) (by decide) (by cases ho; exact hd ⟨1, .data⟩ (by simp) rfl)
      cases ho
      clear hd HT hT hold hcl
      go_simp
      exact hK
    · have s7 : a'.tmps[7]? = some (.pointer (some ⟨B, 2, none⟩)) := (hT.out 7 (by decide)).trans rfl
      cases ho
      clear hd HT hT hold hcl
      go_simp
      exact hK
    · have s4 : a'.tmps[4]? = some (.pointer (some ⟨X, 0, none⟩)) := (hT.out 4 (by decide)).trans rfl
      cases ho
      clear hd HT hT hold hcl
      go_simp
      exact hK
    · have s32 : a'.tmps[32]? = some (.pointer (some ⟨X, 2, none⟩)) := HT.out (4, 32) (by decide) (by cases ho; exact hd ⟨4, .data⟩ (by simp) rfl)
      cases ho
      clear hd HT hT hold hcl
      go_simp
      exact hK
    · have s31 : a'.tmps[31]? = some (.pointer (some ⟨B, 2, none⟩)) := HT.out (3, 31) (by decide) (by cases ho; exact hd ⟨3, .data⟩ (by simp) rfl)
      cases ho
      clear hd HT hT hold hcl
      go_simp
      exact hK
    · have s34 : a'.tmps[34]? = some (.pointer (some ⟨B, 2, none⟩)) := HT.out (6, 34) (by decide) (by cases ho; exact hd ⟨6, .data⟩ (by simp) rfl)
      have s33 : a'.tmps[33]? = some (.int .i64 (b : Int)) := HT.out (5, 33) (by decide) (by cases ho; exact hd ⟨5, .data⟩ (by simp) rfl)
      cases ho
      clear hd HT hT hold hcl
      go_simp
      exact hK
    · have s35 : a'.tmps[35]? = some (.pointer (some ⟨B, 2 + b, none⟩)) := HT.out (7, 35) (by decide) (by cases ho; exact hd ⟨7, .data⟩ (by simp) rfl)
      cases ho
      clear hd HT hT hold hcl
      go_simp
      exact hK
    · have s7 : a'.tmps[7]? = some (.pointer (some ⟨B, 2, none⟩)) := (hT.out 7 (by decide)).trans rfl
      cases ho
      clear hd HT hT hold hcl
      go_simp
      exact hK
    · have s4 : a'.tmps[4]? = some (.pointer (some ⟨X, 0, none⟩)) := (hT.out 4 (by decide)).trans rfl
      cases ho
      clear hd HT hT hold hcl
      go_simp
      exact hK
    · have s38 : a'.tmps[38]? = some (.pointer (some ⟨X, 3, none⟩)) := HT.out (10, 38) (by decide) (by cases ho; exact hd ⟨10, .data⟩ (by simp) rfl)
      cases ho
      clear hd HT hT hold hcl
      go_simp
      exact hK
    · have s37 : a'.tmps[37]? = some (.pointer (some ⟨B, 2, none⟩)) := HT.out (9, 37) (by decide) (by cases ho; exact hd ⟨9, .data⟩ (by simp) rfl)
      cases ho
      clear hd HT hT hold hcl
      go_simp
      exact hK
    · have s40 : a'.tmps[40]? = some (.pointer (some ⟨B, 2, none⟩)) := HT.out (12, 40) (by decide) (by cases ho; exact hd ⟨12, .data⟩ (by simp) rfl)
      have s39 : a'.tmps[39]? = some (.int .i64 (d : Int)) := HT.out (11, 39) (by decide) (by cases ho; exact hd ⟨11, .data⟩ (by simp) rfl)
      cases ho
      clear hd HT hT hold hcl
      go_simp
      exact hK
    · have s41 : a'.tmps[41]? = some (.pointer (some ⟨B, 2 + d, none⟩)) := HT.out (13, 41) (by decide) (by cases ho; exact hd ⟨13, .data⟩ (by simp) rfl)
      cases ho
      clear hd HT hT hold hcl
      go_simp
      exact hK
    · have s36 : a'.tmps[36]? = some (.int .i64 (t.regs b)) := HT.out (8, 36) (by decide) (by cases ho; exact hd ⟨8, .data⟩ (by simp) rfl)
      have s42 : a'.tmps[42]? = some (.int .i64 (t.regs d)) := HT.out (14, 42) (by decide) (by cases ho; exact hd ⟨14, .data⟩ (by simp) rfl)
      cases ho
      clear hd HT hT hold hcl
      go_simp
      go_at_call 53
      refine (Val.add_any _ _ _).mono ?_
      rintro e w9 ⟨rfl, rfl⟩
      go_simp
      exact hK
    · have s28 : a'.tmps[28]? = some (.pointer (some ⟨B, 2, none⟩)) := HT.out (0, 28) (by decide) (by cases ho; exact hd ⟨0, .data⟩ (by simp) rfl)
      cases ho
      clear hd HT hT hold hcl
      go_simp
      exact hK
    · have s44 : a'.tmps[44]? = some (.pointer (some ⟨B, 2, none⟩)) := HT.out (16, 44) (by decide) (by cases ho; exact hd ⟨16, .data⟩ (by simp) rfl)
      have s30 : a'.tmps[30]? = some (.int .i64 (a : Int)) := HT.out (2, 30) (by decide) (by cases ho; exact hd ⟨2, .data⟩ (by simp) rfl)
      cases ho
      clear hd HT hT hold hcl
      go_simp
      exact hK
    · have s45 : a'.tmps[45]? = some (.pointer (some ⟨B, 2 + a, none⟩)) := HT.out (17, 45) (by decide) (by cases ho; exact hd ⟨17, .data⟩ (by simp) rfl)
      have s43 : a'.tmps[43]? = some (.int .i64 (add (t.regs b) (t.regs d))) := HT.out (15, 43) (by decide) (by cases ho; exact hd ⟨15, .data⟩ (by simp) rfl)
      cases ho
      clear hd HT hT hold hcl
      go_simp
      exact hK
def idxb3 : List (Nat × Nat) := [(0, 48), (1, 49), (2, 50), (3, 51), (4, 52), (5, 53), (6, 54), (7, 55), (8, 56), (9, 57), (10, 58), (11, 59), (12, 60), (13, 61), (14, 62), (15, 63), (16, 64), (17, 65)]
def Vb3 (B X : Nat) (t : RT) (a b d : Nat) : Nat → Value := fun sl => match sl with
  | 48 => .pointer (some ⟨B, 2, none⟩)
  | 49 => .pointer (some ⟨X, 1, none⟩)
  | 50 => .int .i64 (a : Int)
  | 51 => .pointer (some ⟨B, 2, none⟩)
  | 52 => .pointer (some ⟨X, 2, none⟩)
  | 53 => .int .i64 (b : Int)
  | 54 => .pointer (some ⟨B, 2, none⟩)
  | 55 => .pointer (some ⟨B, 2 + b, none⟩)
  | 56 => .int .i64 (t.regs b)
  | 57 => .pointer (some ⟨B, 2, none⟩)
  | 58 => .pointer (some ⟨X, 3, none⟩)
  | 59 => .int .i64 (d : Int)
  | 60 => .pointer (some ⟨B, 2, none⟩)
  | 61 => .pointer (some ⟨B, 2 + d, none⟩)
  | 62 => .int .i64 (t.regs d)
  | 63 => .int .i64 (sub (t.regs b) (t.regs d))
  | 64 => .pointer (some ⟨B, 2, none⟩)
  | 65 => .pointer (some ⟨B, 2 + a, none⟩)
  | _ => undef
set_option maxRecDepth 100000 in
set_option maxHeartbeats 8000000 in
theorem step_sub (c : Mc) (t : RT) (S : RS) (a b d : Nat) (ha : a < 8) (hb : b < 8) (hd8 : d < 8) (h0 : t.how = 0) : StepSays c t S ⟨3, a, b, d⟩ (t.setReg a (sub (t.regs b) (t.regs d)), S) := by
  intro w B H hM hE hK
  have hA := At1.of (x := ⟨3, a, b, d⟩) hM hE
  have HA := Lib.hid hA
  clear hM hE hA
  go_enter Tryz.func33, Tryz.ntmps33
  go_wp2_with fail
  refine at_w (fun w1 => At1 c w w1 B w.heap.size t S H ⟨3, a, b, d⟩) HA.out ?_
  rintro w1 hA1
  generalize w.heap.size = X at *
  have HA1 := Lib.hid hA1
  have hA2 := hA1.drew
  clear HA hA1
  refine Tab.region_rs (by kernel_rfl) idxb3 204 (Vb3 B X t a b d) 18 (w1.drew.setCell ⟨B, 2 + a, none⟩ (.int .i64 (sub (t.regs b) (t.regs d)))) (by kernel_rfl) (by rfl) (by kernel_rfl) (by kernel_rfl) ?_ ?_
  · intro a' hT
    have r2 : a'.tmps[2]? = some (.int .i64 t.place) := (hT.out 2 (by decide)).trans rfl
    obtain ⟨_, r2'⟩ := Array.getElem?_eq_some_iff.1 r2
    have hdf : a'.defers = [] := hT.dfs
    have hsz : a'.tmps.size = 204 := hT.sz.trans rfl
    have hE2 := hA2.e.setReg a ha (sub (t.regs b) (t.regs d))
    have hM2 : IsM c (w1.drew.setCell ⟨B, 2 + a, none⟩ (.int .i64 (sub (t.regs b) (t.regs d)))) S := hA2.m.on hA2.e.row (by decide) (by decide) (by decide) hK ((Ch.refl _ _).setB _)
    have hC2 : Ch (fun k => Mvs c k ∨ k = B) w (w1.drew.setCell ⟨B, 2 + a, none⟩ (.int .i64 (sub (t.regs b) (t.regs d)))) := (Ch.of_bl hA2.bl).set (Or.inl (Or.inr rfl)) _
    clear hT
    go_wp2_with fail
    refine bodyPost_ret (v := .int .i64 t.place) (by simp [results, Tryz.results33, go_sem, hsz, r2']) rfl ⟨fun _ => ⟨rfl, H, hE2⟩, fun h => absurd h0 h, hM2, hC2⟩
  · intro i' o L a' K' Q' hT hL ho hd hold hcl hK
    have hi' : i' < 19 := (Array.getElem?_eq_some_iff.1 ho).1
    have HT : Hid (∀ q ∈ idxb3, L[q.1]? = some true → a'.tmps[q.2]? = some (Vb3 B X t a b d q.2)) := hT.tab
    obtain ⟨⟨x0, x1, x2, x3⟩, _⟩ := row4_cells hA2.x
    have e1 := ec_reg hA2.e ha
    have e2 := ec_reg hA2.e hb
    have e3 := ec_reg hA2.e hd8
    have f1 := hA2.e.row.frozen (2 + a)
    have lB := hA2.e.row.lt
    have lX := hA2.x.lt
    have a1 : (a : Int) < 8 := by omega
    have a2 : (0 : Int) ≤ (a : Int) := by omega
    have b1 : (b : Int) < 8 := by omega
    have b2 : (0 : Int) ≤ (b : Int) := by omega
    have d1 : (d : Int) < 8 := by omega
    have d2 : (0 : Int) ≤ (d : Int) := by omega
    obtain rfl | rfl | rfl | rfl | rfl | rfl | rfl | rfl | rfl | rfl | rfl | rfl | rfl | rfl | rfl | rfl | rfl | rfl | rfl : i' = 0 ∨ i' = 1 ∨ i' = 2 ∨ i' = 3 ∨ i' = 4 ∨ i' = 5 ∨ i' = 6 ∨ i' = 7 ∨ i' = 8 ∨ i' = 9 ∨ i' = 10 ∨ i' = 11 ∨ i' = 12 ∨ i' = 13 ∨ i' = 14 ∨ i' = 15 ∨ i' = 16 ∨ i' = 17 ∨ i' = 18 := by omega
    · have s7 : a'.tmps[7]? = some (.pointer (some ⟨B, 2, none⟩)) := (hT.out 7 (by decide)).trans rfl
      cases ho
      clear hd HT hT hold hcl
      go_simp
      exact hK
    · have s4 : a'.tmps[4]? = some (.pointer (some ⟨X, 0, none⟩)) := (hT.out 4 (by decide)).trans rfl
      cases ho
      clear hd HT hT hold hcl
      go_simp
      exact hK
    · have s49 : a'.tmps[49]? = some (.pointer (some ⟨X, 1, none⟩)) := HT.out (1, 49) (by decide) (by cases ho; exact hd ⟨1, .data⟩ (by simp) rfl)
      cases ho
      clear hd HT hT hold hcl
      go_simp
      exact hK
    · have s7 : a'.tmps[7]? = some (.pointer (some ⟨B, 2, none⟩)) := (hT.out 7 (by decide)).trans rfl
      cases ho
      clear hd HT hT hold hcl
      go_simp
      exact hK
    · have s4 : a'.tmps[4]? = some (.pointer (some ⟨X, 0, none⟩)) := (hT.out 4 (by decide)).trans rfl
      cases ho
      clear hd HT hT hold hcl
      go_simp
      exact hK
    · have s52 : a'.tmps[52]? = some (.pointer (some ⟨X, 2, none⟩)) := HT.out (4, 52) (by decide) (by cases ho; exact hd ⟨4, .data⟩ (by simp) rfl)
      cases ho
      clear hd HT hT hold hcl
      go_simp
      exact hK
    · have s51 : a'.tmps[51]? = some (.pointer (some ⟨B, 2, none⟩)) := HT.out (3, 51) (by decide) (by cases ho; exact hd ⟨3, .data⟩ (by simp) rfl)
      cases ho
      clear hd HT hT hold hcl
      go_simp
      exact hK
    · have s54 : a'.tmps[54]? = some (.pointer (some ⟨B, 2, none⟩)) := HT.out (6, 54) (by decide) (by cases ho; exact hd ⟨6, .data⟩ (by simp) rfl)
      have s53 : a'.tmps[53]? = some (.int .i64 (b : Int)) := HT.out (5, 53) (by decide) (by cases ho; exact hd ⟨5, .data⟩ (by simp) rfl)
      cases ho
      clear hd HT hT hold hcl
      go_simp
      exact hK
    · have s55 : a'.tmps[55]? = some (.pointer (some ⟨B, 2 + b, none⟩)) := HT.out (7, 55) (by decide) (by cases ho; exact hd ⟨7, .data⟩ (by simp) rfl)
      cases ho
      clear hd HT hT hold hcl
      go_simp
      exact hK
    · have s7 : a'.tmps[7]? = some (.pointer (some ⟨B, 2, none⟩)) := (hT.out 7 (by decide)).trans rfl
      cases ho
      clear hd HT hT hold hcl
      go_simp
      exact hK
    · have s4 : a'.tmps[4]? = some (.pointer (some ⟨X, 0, none⟩)) := (hT.out 4 (by decide)).trans rfl
      cases ho
      clear hd HT hT hold hcl
      go_simp
      exact hK
    · have s58 : a'.tmps[58]? = some (.pointer (some ⟨X, 3, none⟩)) := HT.out (10, 58) (by decide) (by cases ho; exact hd ⟨10, .data⟩ (by simp) rfl)
      cases ho
      clear hd HT hT hold hcl
      go_simp
      exact hK
    · have s57 : a'.tmps[57]? = some (.pointer (some ⟨B, 2, none⟩)) := HT.out (9, 57) (by decide) (by cases ho; exact hd ⟨9, .data⟩ (by simp) rfl)
      cases ho
      clear hd HT hT hold hcl
      go_simp
      exact hK
    · have s60 : a'.tmps[60]? = some (.pointer (some ⟨B, 2, none⟩)) := HT.out (12, 60) (by decide) (by cases ho; exact hd ⟨12, .data⟩ (by simp) rfl)
      have s59 : a'.tmps[59]? = some (.int .i64 (d : Int)) := HT.out (11, 59) (by decide) (by cases ho; exact hd ⟨11, .data⟩ (by simp) rfl)
      cases ho
      clear hd HT hT hold hcl
      go_simp
      exact hK
    · have s61 : a'.tmps[61]? = some (.pointer (some ⟨B, 2 + d, none⟩)) := HT.out (13, 61) (by decide) (by cases ho; exact hd ⟨13, .data⟩ (by simp) rfl)
      cases ho
      clear hd HT hT hold hcl
      go_simp
      exact hK
    · have s56 : a'.tmps[56]? = some (.int .i64 (t.regs b)) := HT.out (8, 56) (by decide) (by cases ho; exact hd ⟨8, .data⟩ (by simp) rfl)
      have s62 : a'.tmps[62]? = some (.int .i64 (t.regs d)) := HT.out (14, 62) (by decide) (by cases ho; exact hd ⟨14, .data⟩ (by simp) rfl)
      cases ho
      clear hd HT hT hold hcl
      go_simp
      go_at_call 54
      refine (Val.sub_any _ _ _).mono ?_
      rintro e w9 ⟨rfl, rfl⟩
      go_simp
      exact hK
    · have s48 : a'.tmps[48]? = some (.pointer (some ⟨B, 2, none⟩)) := HT.out (0, 48) (by decide) (by cases ho; exact hd ⟨0, .data⟩ (by simp) rfl)
      cases ho
      clear hd HT hT hold hcl
      go_simp
      exact hK
    · have s64 : a'.tmps[64]? = some (.pointer (some ⟨B, 2, none⟩)) := HT.out (16, 64) (by decide) (by cases ho; exact hd ⟨16, .data⟩ (by simp) rfl)
      have s50 : a'.tmps[50]? = some (.int .i64 (a : Int)) := HT.out (2, 50) (by decide) (by cases ho; exact hd ⟨2, .data⟩ (by simp) rfl)
      cases ho
      clear hd HT hT hold hcl
      go_simp
      exact hK
    · have s65 : a'.tmps[65]? = some (.pointer (some ⟨B, 2 + a, none⟩)) := HT.out (17, 65) (by decide) (by cases ho; exact hd ⟨17, .data⟩ (by simp) rfl)
      have s63 : a'.tmps[63]? = some (.int .i64 (sub (t.regs b) (t.regs d))) := HT.out (15, 63) (by decide) (by cases ho; exact hd ⟨15, .data⟩ (by simp) rfl)
      cases ho
      clear hd HT hT hold hcl
      go_simp
      exact hK
def idxb4 : List (Nat × Nat) := [(0, 68), (1, 69), (2, 70), (3, 71), (4, 72), (5, 73), (6, 74), (7, 75), (8, 76), (9, 77), (10, 78), (11, 79), (12, 80), (13, 81), (14, 82), (15, 83), (16, 84), (17, 85)]
def Vb4 (B X : Nat) (t : RT) (a b d : Nat) : Nat → Value := fun sl => match sl with
  | 68 => .pointer (some ⟨B, 2, none⟩)
  | 69 => .pointer (some ⟨X, 1, none⟩)
  | 70 => .int .i64 (a : Int)
  | 71 => .pointer (some ⟨B, 2, none⟩)
  | 72 => .pointer (some ⟨X, 2, none⟩)
  | 73 => .int .i64 (b : Int)
  | 74 => .pointer (some ⟨B, 2, none⟩)
  | 75 => .pointer (some ⟨B, 2 + b, none⟩)
  | 76 => .int .i64 (t.regs b)
  | 77 => .pointer (some ⟨B, 2, none⟩)
  | 78 => .pointer (some ⟨X, 3, none⟩)
  | 79 => .int .i64 (d : Int)
  | 80 => .pointer (some ⟨B, 2, none⟩)
  | 81 => .pointer (some ⟨B, 2 + d, none⟩)
  | 82 => .int .i64 (t.regs d)
  | 83 => .int .i64 (mul (t.regs b) (t.regs d))
  | 84 => .pointer (some ⟨B, 2, none⟩)
  | 85 => .pointer (some ⟨B, 2 + a, none⟩)
  | _ => undef
set_option maxRecDepth 100000 in
set_option maxHeartbeats 8000000 in
theorem step_mul (c : Mc) (t : RT) (S : RS) (a b d : Nat) (ha : a < 8) (hb : b < 8) (hd8 : d < 8) (h0 : t.how = 0) : StepSays c t S ⟨4, a, b, d⟩ (t.setReg a (mul (t.regs b) (t.regs d)), S) := by
  intro w B H hM hE hK
  have hA := At1.of (x := ⟨4, a, b, d⟩) hM hE
  have HA := Lib.hid hA
  clear hM hE hA
  go_enter Tryz.func33, Tryz.ntmps33
  go_wp2_with fail
  refine at_w (fun w1 => At1 c w w1 B w.heap.size t S H ⟨4, a, b, d⟩) HA.out ?_
  rintro w1 hA1
  generalize w.heap.size = X at *
  have HA1 := Lib.hid hA1
  have hA2 := hA1.drew
  clear HA hA1
  refine Tab.region_rs (by kernel_rfl) idxb4 204 (Vb4 B X t a b d) 18 (w1.drew.setCell ⟨B, 2 + a, none⟩ (.int .i64 (mul (t.regs b) (t.regs d)))) (by kernel_rfl) (by rfl) (by kernel_rfl) (by kernel_rfl) ?_ ?_
  · intro a' hT
    have r2 : a'.tmps[2]? = some (.int .i64 t.place) := (hT.out 2 (by decide)).trans rfl
    obtain ⟨_, r2'⟩ := Array.getElem?_eq_some_iff.1 r2
    have hdf : a'.defers = [] := hT.dfs
    have hsz : a'.tmps.size = 204 := hT.sz.trans rfl
    have hE2 := hA2.e.setReg a ha (mul (t.regs b) (t.regs d))
    have hM2 : IsM c (w1.drew.setCell ⟨B, 2 + a, none⟩ (.int .i64 (mul (t.regs b) (t.regs d)))) S := hA2.m.on hA2.e.row (by decide) (by decide) (by decide) hK ((Ch.refl _ _).setB _)
    have hC2 : Ch (fun k => Mvs c k ∨ k = B) w (w1.drew.setCell ⟨B, 2 + a, none⟩ (.int .i64 (mul (t.regs b) (t.regs d)))) := (Ch.of_bl hA2.bl).set (Or.inl (Or.inr rfl)) _
    clear hT
    go_wp2_with fail
    refine bodyPost_ret (v := .int .i64 t.place) (by simp [results, Tryz.results33, go_sem, hsz, r2']) rfl ⟨fun _ => ⟨rfl, H, hE2⟩, fun h => absurd h0 h, hM2, hC2⟩
  · intro i' o L a' K' Q' hT hL ho hd hold hcl hK
    have hi' : i' < 19 := (Array.getElem?_eq_some_iff.1 ho).1
    have HT : Hid (∀ q ∈ idxb4, L[q.1]? = some true → a'.tmps[q.2]? = some (Vb4 B X t a b d q.2)) := hT.tab
    obtain ⟨⟨x0, x1, x2, x3⟩, _⟩ := row4_cells hA2.x
    have e1 := ec_reg hA2.e ha
    have e2 := ec_reg hA2.e hb
    have e3 := ec_reg hA2.e hd8
    have f1 := hA2.e.row.frozen (2 + a)
    have lB := hA2.e.row.lt
    have lX := hA2.x.lt
    have a1 : (a : Int) < 8 := by omega
    have a2 : (0 : Int) ≤ (a : Int) := by omega
    have b1 : (b : Int) < 8 := by omega
    have b2 : (0 : Int) ≤ (b : Int) := by omega
    have d1 : (d : Int) < 8 := by omega
    have d2 : (0 : Int) ≤ (d : Int) := by omega
    obtain rfl | rfl | rfl | rfl | rfl | rfl | rfl | rfl | rfl | rfl | rfl | rfl | rfl | rfl | rfl | rfl | rfl | rfl | rfl : i' = 0 ∨ i' = 1 ∨ i' = 2 ∨ i' = 3 ∨ i' = 4 ∨ i' = 5 ∨ i' = 6 ∨ i' = 7 ∨ i' = 8 ∨ i' = 9 ∨ i' = 10 ∨ i' = 11 ∨ i' = 12 ∨ i' = 13 ∨ i' = 14 ∨ i' = 15 ∨ i' = 16 ∨ i' = 17 ∨ i' = 18 := by omega
    · have s7 : a'.tmps[7]? = some (.pointer (some ⟨B, 2, none⟩)) := (hT.out 7 (by decide)).trans rfl
      cases ho
      clear hd HT hT hold hcl
      go_simp
      exact hK
    · have s4 : a'.tmps[4]? = some (.pointer (some ⟨X, 0, none⟩)) := (hT.out 4 (by decide)).trans rfl
      cases ho
      clear hd HT hT hold hcl
      go_simp
      exact hK
    · have s69 : a'.tmps[69]? = some (.pointer (some ⟨X, 1, none⟩)) := HT.out (1, 69) (by decide) (by cases ho; exact hd ⟨1, .data⟩ (by simp) rfl)
      cases ho
      clear hd HT hT hold hcl
      go_simp
      exact hK
    · have s7 : a'.tmps[7]? = some (.pointer (some ⟨B, 2, none⟩)) := (hT.out 7 (by decide)).trans rfl
      cases ho
      clear hd HT hT hold hcl
      go_simp
      exact hK
    · have s4 : a'.tmps[4]? = some (.pointer (some ⟨X, 0, none⟩)) := (hT.out 4 (by decide)).trans rfl
      cases ho
      clear hd HT hT hold hcl
      go_simp
      exact hK
    · have s72 : a'.tmps[72]? = some (.pointer (some ⟨X, 2, none⟩)) := HT.out (4, 72) (by decide) (by cases ho; exact hd ⟨4, .data⟩ (by simp) rfl)
      cases ho
      clear hd HT hT hold hcl
      go_simp
      exact hK
    · have s71 : a'.tmps[71]? = some (.pointer (some ⟨B, 2, none⟩)) := HT.out (3, 71) (by decide) (by cases ho; exact hd ⟨3, .data⟩ (by simp) rfl)
      cases ho
      clear hd HT hT hold hcl
      go_simp
      exact hK
    · have s74 : a'.tmps[74]? = some (.pointer (some ⟨B, 2, none⟩)) := HT.out (6, 74) (by decide) (by cases ho; exact hd ⟨6, .data⟩ (by simp) rfl)
      have s73 : a'.tmps[73]? = some (.int .i64 (b : Int)) := HT.out (5, 73) (by decide) (by cases ho; exact hd ⟨5, .data⟩ (by simp) rfl)
      cases ho
      clear hd HT hT hold hcl
      go_simp
      exact hK
    · have s75 : a'.tmps[75]? = some (.pointer (some ⟨B, 2 + b, none⟩)) := HT.out (7, 75) (by decide) (by cases ho; exact hd ⟨7, .data⟩ (by simp) rfl)
      cases ho
      clear hd HT hT hold hcl
      go_simp
      exact hK
    · have s7 : a'.tmps[7]? = some (.pointer (some ⟨B, 2, none⟩)) := (hT.out 7 (by decide)).trans rfl
      cases ho
      clear hd HT hT hold hcl
      go_simp
      exact hK
    · have s4 : a'.tmps[4]? = some (.pointer (some ⟨X, 0, none⟩)) := (hT.out 4 (by decide)).trans rfl
      cases ho
      clear hd HT hT hold hcl
      go_simp
      exact hK
    · have s78 : a'.tmps[78]? = some (.pointer (some ⟨X, 3, none⟩)) := HT.out (10, 78) (by decide) (by cases ho; exact hd ⟨10, .data⟩ (by simp) rfl)
      cases ho
      clear hd HT hT hold hcl
      go_simp
      exact hK
    · have s77 : a'.tmps[77]? = some (.pointer (some ⟨B, 2, none⟩)) := HT.out (9, 77) (by decide) (by cases ho; exact hd ⟨9, .data⟩ (by simp) rfl)
      cases ho
      clear hd HT hT hold hcl
      go_simp
      exact hK
    · have s80 : a'.tmps[80]? = some (.pointer (some ⟨B, 2, none⟩)) := HT.out (12, 80) (by decide) (by cases ho; exact hd ⟨12, .data⟩ (by simp) rfl)
      have s79 : a'.tmps[79]? = some (.int .i64 (d : Int)) := HT.out (11, 79) (by decide) (by cases ho; exact hd ⟨11, .data⟩ (by simp) rfl)
      cases ho
      clear hd HT hT hold hcl
      go_simp
      exact hK
    · have s81 : a'.tmps[81]? = some (.pointer (some ⟨B, 2 + d, none⟩)) := HT.out (13, 81) (by decide) (by cases ho; exact hd ⟨13, .data⟩ (by simp) rfl)
      cases ho
      clear hd HT hT hold hcl
      go_simp
      exact hK
    · have s76 : a'.tmps[76]? = some (.int .i64 (t.regs b)) := HT.out (8, 76) (by decide) (by cases ho; exact hd ⟨8, .data⟩ (by simp) rfl)
      have s82 : a'.tmps[82]? = some (.int .i64 (t.regs d)) := HT.out (14, 82) (by decide) (by cases ho; exact hd ⟨14, .data⟩ (by simp) rfl)
      cases ho
      clear hd HT hT hold hcl
      go_simp
      go_at_call 55
      refine (Val.mul_any _ _ _).mono ?_
      rintro e w9 ⟨rfl, rfl⟩
      go_simp
      exact hK
    · have s68 : a'.tmps[68]? = some (.pointer (some ⟨B, 2, none⟩)) := HT.out (0, 68) (by decide) (by cases ho; exact hd ⟨0, .data⟩ (by simp) rfl)
      cases ho
      clear hd HT hT hold hcl
      go_simp
      exact hK
    · have s84 : a'.tmps[84]? = some (.pointer (some ⟨B, 2, none⟩)) := HT.out (16, 84) (by decide) (by cases ho; exact hd ⟨16, .data⟩ (by simp) rfl)
      have s70 : a'.tmps[70]? = some (.int .i64 (a : Int)) := HT.out (2, 70) (by decide) (by cases ho; exact hd ⟨2, .data⟩ (by simp) rfl)
      cases ho
      clear hd HT hT hold hcl
      go_simp
      exact hK
    · have s85 : a'.tmps[85]? = some (.pointer (some ⟨B, 2 + a, none⟩)) := HT.out (17, 85) (by decide) (by cases ho; exact hd ⟨17, .data⟩ (by simp) rfl)
      have s83 : a'.tmps[83]? = some (.int .i64 (mul (t.regs b) (t.regs d))) := HT.out (15, 83) (by decide) (by cases ho; exact hd ⟨15, .data⟩ (by simp) rfl)
      cases ho
      clear hd HT hT hold hcl
      go_simp
      exact hK
def idxb6 : List (Nat × Nat) := [(0, 88), (1, 89), (2, 90), (3, 91), (4, 92), (5, 93), (6, 94), (7, 95), (8, 96), (9, 97), (10, 98), (11, 99), (12, 100), (13, 101), (14, 102), (15, 103), (16, 104), (17, 105)]
def Vb6 (B X : Nat) (t : RT) (a b d : Nat) : Nat → Value := fun sl => match sl with
  | 88 => .pointer (some ⟨B, 2, none⟩)
  | 89 => .pointer (some ⟨X, 1, none⟩)
  | 90 => .int .i64 (a : Int)
  | 91 => .pointer (some ⟨B, 2, none⟩)
  | 92 => .pointer (some ⟨X, 2, none⟩)
  | 93 => .int .i64 (b : Int)
  | 94 => .pointer (some ⟨B, 2, none⟩)
  | 95 => .pointer (some ⟨B, 2 + b, none⟩)
  | 96 => .int .i64 (t.regs b)
  | 97 => .pointer (some ⟨B, 2, none⟩)
  | 98 => .pointer (some ⟨X, 3, none⟩)
  | 99 => .int .i64 (d : Int)
  | 100 => .pointer (some ⟨B, 2, none⟩)
  | 101 => .pointer (some ⟨B, 2 + d, none⟩)
  | 102 => .int .i64 (t.regs d)
  | 103 => .int .i64 (lessv (t.regs b) (t.regs d))
  | 104 => .pointer (some ⟨B, 2, none⟩)
  | 105 => .pointer (some ⟨B, 2 + a, none⟩)
  | _ => undef
set_option maxRecDepth 100000 in
set_option maxHeartbeats 8000000 in
theorem step_lessv (c : Mc) (t : RT) (S : RS) (a b d : Nat) (ha : a < 8) (hb : b < 8) (hd8 : d < 8) (h0 : t.how = 0) : StepSays c t S ⟨6, a, b, d⟩ (t.setReg a (lessv (t.regs b) (t.regs d)), S) := by
  intro w B H hM hE hK
  have hA := At1.of (x := ⟨6, a, b, d⟩) hM hE
  have HA := Lib.hid hA
  clear hM hE hA
  go_enter Tryz.func33, Tryz.ntmps33
  go_wp2_with fail
  refine at_w (fun w1 => At1 c w w1 B w.heap.size t S H ⟨6, a, b, d⟩) HA.out ?_
  rintro w1 hA1
  generalize w.heap.size = X at *
  have HA1 := Lib.hid hA1
  have hA2 := hA1.drew
  clear HA hA1
  refine Tab.region_rs (by kernel_rfl) idxb6 204 (Vb6 B X t a b d) 18 (w1.drew.setCell ⟨B, 2 + a, none⟩ (.int .i64 (lessv (t.regs b) (t.regs d)))) (by kernel_rfl) (by rfl) (by kernel_rfl) (by kernel_rfl) ?_ ?_
  · intro a' hT
    have r2 : a'.tmps[2]? = some (.int .i64 t.place) := (hT.out 2 (by decide)).trans rfl
    obtain ⟨_, r2'⟩ := Array.getElem?_eq_some_iff.1 r2
    have hdf : a'.defers = [] := hT.dfs
    have hsz : a'.tmps.size = 204 := hT.sz.trans rfl
    have hE2 := hA2.e.setReg a ha (lessv (t.regs b) (t.regs d))
    have hM2 : IsM c (w1.drew.setCell ⟨B, 2 + a, none⟩ (.int .i64 (lessv (t.regs b) (t.regs d)))) S := hA2.m.on hA2.e.row (by decide) (by decide) (by decide) hK ((Ch.refl _ _).setB _)
    have hC2 : Ch (fun k => Mvs c k ∨ k = B) w (w1.drew.setCell ⟨B, 2 + a, none⟩ (.int .i64 (lessv (t.regs b) (t.regs d)))) := (Ch.of_bl hA2.bl).set (Or.inl (Or.inr rfl)) _
    clear hT
    go_wp2_with fail
    refine bodyPost_ret (v := .int .i64 t.place) (by simp [results, Tryz.results33, go_sem, hsz, r2']) rfl ⟨fun _ => ⟨rfl, H, hE2⟩, fun h => absurd h0 h, hM2, hC2⟩
  · intro i' o L a' K' Q' hT hL ho hd hold hcl hK
    have hi' : i' < 19 := (Array.getElem?_eq_some_iff.1 ho).1
    have HT : Hid (∀ q ∈ idxb6, L[q.1]? = some true → a'.tmps[q.2]? = some (Vb6 B X t a b d q.2)) := hT.tab
    obtain ⟨⟨x0, x1, x2, x3⟩, _⟩ := row4_cells hA2.x
    have e1 := ec_reg hA2.e ha
    have e2 := ec_reg hA2.e hb
    have e3 := ec_reg hA2.e hd8
    have f1 := hA2.e.row.frozen (2 + a)
    have lB := hA2.e.row.lt
    have lX := hA2.x.lt
    have a1 : (a : Int) < 8 := by omega
    have a2 : (0 : Int) ≤ (a : Int) := by omega
    have b1 : (b : Int) < 8 := by omega
    have b2 : (0 : Int) ≤ (b : Int) := by omega
    have d1 : (d : Int) < 8 := by omega
    have d2 : (0 : Int) ≤ (d : Int) := by omega
    obtain rfl | rfl | rfl | rfl | rfl | rfl | rfl | rfl | rfl | rfl | rfl | rfl | rfl | rfl | rfl | rfl | rfl | rfl | rfl : i' = 0 ∨ i' = 1 ∨ i' = 2 ∨ i' = 3 ∨ i' = 4 ∨ i' = 5 ∨ i' = 6 ∨ i' = 7 ∨ i' = 8 ∨ i' = 9 ∨ i' = 10 ∨ i' = 11 ∨ i' = 12 ∨ i' = 13 ∨ i' = 14 ∨ i' = 15 ∨ i' = 16 ∨ i' = 17 ∨ i' = 18 := by omega
    · have s7 : a'.tmps[7]? = some (.pointer (some ⟨B, 2, none⟩)) := (hT.out 7 (by decide)).trans rfl
      cases ho
      clear hd HT hT hold hcl
      go_simp
      exact hK
    · have s4 : a'.tmps[4]? = some (.pointer (some ⟨X, 0, none⟩)) := (hT.out 4 (by decide)).trans rfl
      cases ho
      clear hd HT hT hold hcl
      go_simp
      exact hK
    · have s89 : a'.tmps[89]? = some (.pointer (some ⟨X, 1, none⟩)) := HT.out (1, 89) (by decide) (by cases ho; exact hd ⟨1, .data⟩ (by simp) rfl)
      cases ho
      clear hd HT hT hold hcl
      go_simp
      exact hK
    · have s7 : a'.tmps[7]? = some (.pointer (some ⟨B, 2, none⟩)) := (hT.out 7 (by decide)).trans rfl
      cases ho
      clear hd HT hT hold hcl
      go_simp
      exact hK
    · have s4 : a'.tmps[4]? = some (.pointer (some ⟨X, 0, none⟩)) := (hT.out 4 (by decide)).trans rfl
      cases ho
      clear hd HT hT hold hcl
      go_simp
      exact hK
    · have s92 : a'.tmps[92]? = some (.pointer (some ⟨X, 2, none⟩)) := HT.out (4, 92) (by decide) (by cases ho; exact hd ⟨4, .data⟩ (by simp) rfl)
      cases ho
      clear hd HT hT hold hcl
      go_simp
      exact hK
    · have s91 : a'.tmps[91]? = some (.pointer (some ⟨B, 2, none⟩)) := HT.out (3, 91) (by decide) (by cases ho; exact hd ⟨3, .data⟩ (by simp) rfl)
      cases ho
      clear hd HT hT hold hcl
      go_simp
      exact hK
    · have s94 : a'.tmps[94]? = some (.pointer (some ⟨B, 2, none⟩)) := HT.out (6, 94) (by decide) (by cases ho; exact hd ⟨6, .data⟩ (by simp) rfl)
      have s93 : a'.tmps[93]? = some (.int .i64 (b : Int)) := HT.out (5, 93) (by decide) (by cases ho; exact hd ⟨5, .data⟩ (by simp) rfl)
      cases ho
      clear hd HT hT hold hcl
      go_simp
      exact hK
    · have s95 : a'.tmps[95]? = some (.pointer (some ⟨B, 2 + b, none⟩)) := HT.out (7, 95) (by decide) (by cases ho; exact hd ⟨7, .data⟩ (by simp) rfl)
      cases ho
      clear hd HT hT hold hcl
      go_simp
      exact hK
    · have s7 : a'.tmps[7]? = some (.pointer (some ⟨B, 2, none⟩)) := (hT.out 7 (by decide)).trans rfl
      cases ho
      clear hd HT hT hold hcl
      go_simp
      exact hK
    · have s4 : a'.tmps[4]? = some (.pointer (some ⟨X, 0, none⟩)) := (hT.out 4 (by decide)).trans rfl
      cases ho
      clear hd HT hT hold hcl
      go_simp
      exact hK
    · have s98 : a'.tmps[98]? = some (.pointer (some ⟨X, 3, none⟩)) := HT.out (10, 98) (by decide) (by cases ho; exact hd ⟨10, .data⟩ (by simp) rfl)
      cases ho
      clear hd HT hT hold hcl
      go_simp
      exact hK
    · have s97 : a'.tmps[97]? = some (.pointer (some ⟨B, 2, none⟩)) := HT.out (9, 97) (by decide) (by cases ho; exact hd ⟨9, .data⟩ (by simp) rfl)
      cases ho
      clear hd HT hT hold hcl
      go_simp
      exact hK
    · have s100 : a'.tmps[100]? = some (.pointer (some ⟨B, 2, none⟩)) := HT.out (12, 100) (by decide) (by cases ho; exact hd ⟨12, .data⟩ (by simp) rfl)
      have s99 : a'.tmps[99]? = some (.int .i64 (d : Int)) := HT.out (11, 99) (by decide) (by cases ho; exact hd ⟨11, .data⟩ (by simp) rfl)
      cases ho
      clear hd HT hT hold hcl
      go_simp
      exact hK
    · have s101 : a'.tmps[101]? = some (.pointer (some ⟨B, 2 + d, none⟩)) := HT.out (13, 101) (by decide) (by cases ho; exact hd ⟨13, .data⟩ (by simp) rfl)
      cases ho
      clear hd HT hT hold hcl
      go_simp
      exact hK
    · have s96 : a'.tmps[96]? = some (.int .i64 (t.regs b)) := HT.out (8, 96) (by decide) (by cases ho; exact hd ⟨8, .data⟩ (by simp) rfl)
      have s102 : a'.tmps[102]? = some (.int .i64 (t.regs d)) := HT.out (14, 102) (by decide) (by cases ho; exact hd ⟨14, .data⟩ (by simp) rfl)
      cases ho
      clear hd HT hT hold hcl
      go_simp
      go_at_call 56
      refine (Val.less_any _ _ _).mono ?_
      rintro e w9 ⟨rfl, rfl⟩
      go_simp
      exact hK
    · have s88 : a'.tmps[88]? = some (.pointer (some ⟨B, 2, none⟩)) := HT.out (0, 88) (by decide) (by cases ho; exact hd ⟨0, .data⟩ (by simp) rfl)
      cases ho
      clear hd HT hT hold hcl
      go_simp
      exact hK
    · have s104 : a'.tmps[104]? = some (.pointer (some ⟨B, 2, none⟩)) := HT.out (16, 104) (by decide) (by cases ho; exact hd ⟨16, .data⟩ (by simp) rfl)
      have s90 : a'.tmps[90]? = some (.int .i64 (a : Int)) := HT.out (2, 90) (by decide) (by cases ho; exact hd ⟨2, .data⟩ (by simp) rfl)
      cases ho
      clear hd HT hT hold hcl
      go_simp
      exact hK
    · have s105 : a'.tmps[105]? = some (.pointer (some ⟨B, 2 + a, none⟩)) := HT.out (17, 105) (by decide) (by cases ho; exact hd ⟨17, .data⟩ (by simp) rfl)
      have s103 : a'.tmps[103]? = some (.int .i64 (lessv (t.regs b) (t.regs d))) := HT.out (15, 103) (by decide) (by cases ho; exact hd ⟨15, .data⟩ (by simp) rfl)
      cases ho
      clear hd HT hT hold hcl
      go_simp
      exact hK
def idxb1 : List (Nat × Nat) := [(0, 18), (1, 19), (2, 20), (3, 21), (4, 22), (5, 23), (6, 24), (7, 25)]
def Vb1 (B X : Nat) (t : RT) (a : Nat) (v : Int) : Nat → Value := fun sl => match sl with
  | 18 => .pointer (some ⟨B, 2, none⟩)
  | 19 => .pointer (some ⟨X, 1, none⟩)
  | 20 => .int .i64 (a : Int)
  | 21 => .pointer (some ⟨X, 2, none⟩)
  | 22 => .int .i64 v
  | 23 => .int .i64 (wrap32 v)
  | 24 => .pointer (some ⟨B, 2, none⟩)
  | 25 => .pointer (some ⟨B, 2 + a, none⟩)
  | _ => undef
set_option maxRecDepth 100000 in
set_option maxHeartbeats 8000000 in
theorem step_const (c : Mc) (t : RT) (S : RS) (a : Nat) (v : Int) (ha : a < 8) (hv : wrap32 v = v) (h0 : t.how = 0) : StepSays c t S ⟨1, a, v, 0⟩ (t.setReg a v, S) := by
  intro w B H hM hE hK
  have HV := Lib.hid hv
  clear hv
  have hA := At1.of (x := ⟨1, a, v, 0⟩) hM hE
  have HA := Lib.hid hA
  clear hM hE hA
  go_enter Tryz.func33, Tryz.ntmps33
  go_wp2_with fail
  refine at_w (fun w1 => At1 c w w1 B w.heap.size t S H ⟨1, a, v, 0⟩) HA.out ?_
  rintro w1 hA1
  generalize w.heap.size = X at *
  have HA1 := Lib.hid hA1
  have hA2 := hA1.drew
  clear HA hA1
  refine Tab.region_rs (by kernel_rfl) idxb1 204 (Vb1 B X t a v) 8 (w1.drew.setCell ⟨B, 2 + a, none⟩ (.int .i64 (wrap32 v))) (by kernel_rfl) (by rfl) (by kernel_rfl) (by kernel_rfl) ?_ ?_
  · intro a' hT
    have r2 : a'.tmps[2]? = some (.int .i64 t.place) := (hT.out 2 (by decide)).trans rfl
    obtain ⟨_, r2'⟩ := Array.getElem?_eq_some_iff.1 r2
    have hdf : a'.defers = [] := hT.dfs
    have hsz : a'.tmps.size = 204 := hT.sz.trans rfl
    have hE2 := hA2.e.setReg a ha (wrap32 v)
    have ev : t.setReg (a : Int) (wrap32 v) = t.setReg (a : Int) v := by rw [HV.out]
    rw [ev] at hE2
    clear ev
    have hM2 : IsM c (w1.drew.setCell ⟨B, 2 + a, none⟩ (.int .i64 (wrap32 v))) S := hA2.m.on hA2.e.row (by decide) (by decide) (by decide) hK ((Ch.refl _ _).setB _)
    have hC2 : Ch (fun k => Mvs c k ∨ k = B) w (w1.drew.setCell ⟨B, 2 + a, none⟩ (.int .i64 (wrap32 v))) := (Ch.of_bl hA2.bl).set (Or.inl (Or.inr rfl)) _
    clear hT
    go_wp2_with fail
    refine bodyPost_ret (v := .int .i64 t.place) (by simp [results, Tryz.results33, go_sem, hsz, r2']) rfl ⟨fun _ => ⟨rfl, H, hE2⟩, fun h => absurd h0 h, hM2, hC2⟩
  · intro i' o L a' K' Q' hT hL ho hd hold hcl hK
    have hi' : i' < 9 := (Array.getElem?_eq_some_iff.1 ho).1
    have HT : Hid (∀ q ∈ idxb1, L[q.1]? = some true → a'.tmps[q.2]? = some (Vb1 B X t a v q.2)) := hT.tab
    obtain ⟨⟨x0, x1, x2, x3⟩, _⟩ := row4_cells hA2.x
    have lB := hA2.e.row.lt
    have lX := hA2.x.lt
    have e1 := ec_reg hA2.e ha
    have f1 := hA2.e.row.frozen (2 + a)
    have a1 : (a : Int) < 8 := by omega
    have a2 : (0 : Int) ≤ (a : Int) := by omega
    obtain rfl | rfl | rfl | rfl | rfl | rfl | rfl | rfl | rfl : i' = 0 ∨ i' = 1 ∨ i' = 2 ∨ i' = 3 ∨ i' = 4 ∨ i' = 5 ∨ i' = 6 ∨ i' = 7 ∨ i' = 8 := by omega
    · have s7 : a'.tmps[7]? = some (.pointer (some ⟨B, 2, none⟩)) := (hT.out 7 (by decide)).trans rfl
      cases ho
      clear hd HT hT hold hcl
      go_simp
      exact hK
    · have s4 : a'.tmps[4]? = some (.pointer (some ⟨X, 0, none⟩)) := (hT.out 4 (by decide)).trans rfl
      cases ho
      clear hd HT hT hold hcl
      go_simp
      exact hK
    · have s19 : a'.tmps[19]? = some (.pointer (some ⟨X, 1, none⟩)) := HT.out (1, 19) (by decide) (by cases ho; exact hd ⟨1, .data⟩ (by simp) rfl)
      cases ho
      clear hd HT hT hold hcl
      go_simp
      exact hK
    · have s4 : a'.tmps[4]? = some (.pointer (some ⟨X, 0, none⟩)) := (hT.out 4 (by decide)).trans rfl
      cases ho
      clear hd HT hT hold hcl
      go_simp
      exact hK
    · have s21 : a'.tmps[21]? = some (.pointer (some ⟨X, 2, none⟩)) := HT.out (3, 21) (by decide) (by cases ho; exact hd ⟨3, .data⟩ (by simp) rfl)
      cases ho
      clear hd HT hT hold hcl
      go_simp
      exact hK
    · have s22 : a'.tmps[22]? = some (.int .i64 v) := HT.out (4, 22) (by decide) (by cases ho; exact hd ⟨4, .data⟩ (by simp) rfl)
      cases ho
      clear hd HT hT hold hcl
      go_simp
      go_at_call 30
      refine (Val.wrap_any _ _).mono ?_
      rintro e w9 ⟨rfl, rfl⟩
      go_simp
      exact hK
    · have s18 : a'.tmps[18]? = some (.pointer (some ⟨B, 2, none⟩)) := HT.out (0, 18) (by decide) (by cases ho; exact hd ⟨0, .data⟩ (by simp) rfl)
      cases ho
      clear hd HT hT hold hcl
      go_simp
      exact hK
    · have s24 : a'.tmps[24]? = some (.pointer (some ⟨B, 2, none⟩)) := HT.out (6, 24) (by decide) (by cases ho; exact hd ⟨6, .data⟩ (by simp) rfl)
      have s20 : a'.tmps[20]? = some (.int .i64 (a : Int)) := HT.out (2, 20) (by decide) (by cases ho; exact hd ⟨2, .data⟩ (by simp) rfl)
      cases ho
      clear hd HT hT hold hcl
      go_simp
      exact hK
    · have s25 : a'.tmps[25]? = some (.pointer (some ⟨B, 2 + a, none⟩)) := HT.out (7, 25) (by decide) (by cases ho; exact hd ⟨7, .data⟩ (by simp) rfl)
      have s23 : a'.tmps[23]? = some (.int .i64 (wrap32 v)) := HT.out (5, 23) (by decide) (by cases ho; exact hd ⟨5, .data⟩ (by simp) rfl)
      cases ho
      clear hd HT hT hold hcl
      go_simp
      exact hK
end Go.Proofs.YtonndofbnhnkpaaGreat.Evl
namespace Go.Proofs.YtonndofbnhnkpaaGreat.Evl
open Go.RowKit Num KeyM KeyW StatW Blk VmA VmG Prg EvM Rf
theorem IsE.same {c : Mc} {w : World} {B : Nat} {t t' : RT} {H : Nat → Nat} (h : IsE c w B t H) (h1 : t'.key = t.key) (h2 : t'.regs = t.regs) (h3 : t'.has = t.has) (h4 : t'.hh = t.hh) (h5 : t'.hv = t.hv) (h6 : t'.forks = t.forks) : IsE c w B t' H := by
  obtain ⟨g1, g2⟩ := h
  have e : eF c t' H = eF c t H := by unfold eF; rw [h1, h2, h3, h6]
  exact ⟨by rw [e]; exact g1, by rw [h3, h4, h5]; exact g2⟩
theorem At1.ch {c : Mc} {w w1 : World} {B X : Nat} {t : RT} {S : RS} {H : Nat → Nat} {x : Ins} (h : At1 c w w1 B X t S H x) : Ch (fun k => Mvs c k ∨ k = B) w w1 := Ch.of_bl h.bl
set_option maxRecDepth 100000 in
set_option maxHeartbeats 8000000 in
theorem step_jump (c : Mc) (t : RT) (S : RS) (a : Int) (h0 : t.how = 0) : StepSays c t S ⟨7, a, 0, 0⟩ ({ t with place := a }, S) := by
  intro w B H hM hE hK
  have H0 := Lib.hid h0
  clear h0
  have HA := Lib.hid (At1.of (x := ⟨7, a, 0, 0⟩) hM hE)
  clear hM hE
  go_enter Tryz.func33, Tryz.ntmps33
  go_wp2_with fail
  refine bodyPost_ret (by simp [results, Tryz.results33, go_sem]) rfl ⟨fun _ => ⟨rfl, H, HA.out.e.same rfl rfl rfl rfl rfl rfl⟩, fun h => absurd H0.out h, HA.out.m, HA.out.ch⟩
set_option maxRecDepth 100000 in
set_option maxHeartbeats 8000000 in
theorem step_yield (c : Mc) (t : RT) (S : RS) (h0 : t.how = 0) : StepSays c t S ⟨14, 0, 0, 0⟩ (t, S) := by
  intro w B H hM hE hK
  have H0 := Lib.hid h0
  clear h0
  have HA := Lib.hid (At1.of (x := ⟨14, 0, 0, 0⟩) hM hE)
  clear hM hE
  go_enter Tryz.func33, Tryz.ntmps33
  go_wp2_with fail
  refine bodyPost_ret (by simp [results, Tryz.results33, go_sem]) rfl ⟨fun _ => ⟨rfl, H, HA.out.e⟩, fun h => absurd H0.out h, HA.out.m, HA.out.ch⟩
def idxz8 : List (Nat × Nat) := [(0, 140), (1, 141), (2, 142), (3, 143), (4, 144), (5, 145), (6, 146)]
def Vz8 (B X : Nat) (t : RT) (a : Nat) (bz : Bool) : Nat → Value := fun sl => match sl with
  | 140 => .pointer (some ⟨B, 2, none⟩)
  | 141 => .pointer (some ⟨X, 1, none⟩)
  | 142 => .int .i64 (a : Int)
  | 143 => .pointer (some ⟨B, 2, none⟩)
  | 144 => .pointer (some ⟨B, 2 + a, none⟩)
  | 145 => .int .i64 (t.regs a)
  | 146 => .bool bz
  | _ => undef
set_option maxRecDepth 100000 in
set_option maxHeartbeats 8000000 in
theorem step_zero (c : Mc) (t : RT) (S : RS) (a : Nat) (b : Int) (ha : a < 8) (bz : Bool) (hz : (t.regs a == 0) = bz) (h0 : t.how = 0) : StepSays c t S ⟨8, a, b, 0⟩ ((if bz then { t with place := b } else t), S) := by
  intro w B H hM hE hK
  have H0 := Lib.hid h0
  clear h0
  have hA := At1.of (x := ⟨8, a, b, 0⟩) hM hE
  have HA := Lib.hid hA
  clear hM hE hA
  go_enter Tryz.func33, Tryz.ntmps33
  go_wp2_with fail
  refine at_w (fun w1 => At1 c w w1 B w.heap.size t S H ⟨8, a, b, 0⟩) HA.out ?_
  rintro w1 hA1
  generalize w.heap.size = X at *
  have HA1 := Lib.hid hA1
  have hA2 := hA1.drew
  have HA2 := Lib.hid hA2
  clear HA hA1
  refine Tab.region_rd (by kernel_rfl) idxz8 204 (Vz8 B X t a bz) (by kernel_rfl) (by rfl) (by kernel_rfl) ?_ ?_
  · intro a' hT
    have r2 : a'.tmps[2]? = some (.int .i64 t.place) := (hT.out 2 (by decide)).trans rfl
    have r4 : a'.tmps[4]? = some (.pointer (some ⟨X, 0, none⟩)) := (hT.out 4 (by decide)).trans rfl
    have r146 : a'.tmps[146]? = some (.bool bz) := hT.tab (6, 146) (by decide) rfl
    obtain ⟨_, r2'⟩ := Array.getElem?_eq_some_iff.1 r2
    obtain ⟨_, r4'⟩ := Array.getElem?_eq_some_iff.1 r4
    have hdf : a'.defers = [] := hT.dfs
    have hsz : a'.tmps.size = 204 := hT.sz.trans rfl
    obtain ⟨⟨x0, x1, x2, x3⟩, _⟩ := row4_cells hA2.x
    clear hT hA2 hz
    cases bz
    · go_wp2_with fail
      refine wp_cond (t := false) (by show a'.tmps.getD 146 undef = _; rw [Array.getD_eq_getD_getElem?, r146]; rfl) ?_
      simp only [Bool.false_eq_true, if_false]
      go_wp2_with fail
      refine bodyPost_ret (v := .int .i64 t.place) (by simp [results, Tryz.results33, go_sem, hsz, r2']) rfl ⟨fun _ => ⟨rfl, H, HA2.out.e⟩, fun h => absurd H0.out h, HA2.out.m, HA2.out.ch⟩
    · go_wp2_with fail
      refine wp_cond (t := true) (by show a'.tmps.getD 146 undef = _; rw [Array.getD_eq_getD_getElem?, r146]; rfl) ?_
      simp only [if_true]
      go_wp2_with fail
      refine bodyPost_ret (v := .int .i64 b) (by simp [results, Tryz.results33, go_sem, hsz]) rfl ⟨fun _ => ⟨rfl, H, HA2.out.e.same rfl rfl rfl rfl rfl rfl⟩, fun h => absurd H0.out h, HA2.out.m, HA2.out.ch⟩
  · intro i' o L a' K' Q' hT hL ho hd hold hcl hK
    have hi' : i' < 7 := (Array.getElem?_eq_some_iff.1 ho).1
    have HT : Hid (∀ qq ∈ idxz8, L[qq.1]? = some true → a'.tmps[qq.2]? = some (Vz8 B X t a bz qq.2)) := hT.tab
    obtain ⟨⟨x0, x1, x2, x3⟩, _⟩ := row4_cells hA2.x
    have lB := hA2.e.row.lt
    have lX := hA2.x.lt
    have e1 := ec_reg hA2.e ha
    have a1 : (a : Int) < 8 := by omega
    have a2 : (0 : Int) ≤ (a : Int) := by omega
    obtain rfl | rfl | rfl | rfl | rfl | rfl | rfl : i' = 0 ∨ i' = 1 ∨ i' = 2 ∨ i' = 3 ∨ i' = 4 ∨ i' = 5 ∨ i' = 6 := by omega
    · have s7 : a'.tmps[7]? = some (.pointer (some ⟨B, 2, none⟩)) := (hT.out 7 (by decide)).trans rfl
      cases ho
      clear hd HT hT hold hcl
      go_simp
      exact hK
    · have s4 : a'.tmps[4]? = some (.pointer (some ⟨X, 0, none⟩)) := (hT.out 4 (by decide)).trans rfl
      cases ho
      clear hd HT hT hold hcl
      go_simp
      exact hK
    · have s141 : a'.tmps[141]? = some (.pointer (some ⟨X, 1, none⟩)) := HT.out (1, 141) (by decide) (by cases ho; exact hd ⟨1, .data⟩ (by simp) rfl)
      cases ho
      clear hd HT hT hold hcl
      go_simp
      exact hK
    · have s140 : a'.tmps[140]? = some (.pointer (some ⟨B, 2, none⟩)) := HT.out (0, 140) (by decide) (by cases ho; exact hd ⟨0, .data⟩ (by simp) rfl)
      cases ho
      clear hd HT hT hold hcl
      go_simp
      exact hK
    · have s143 : a'.tmps[143]? = some (.pointer (some ⟨B, 2, none⟩)) := HT.out (3, 143) (by decide) (by cases ho; exact hd ⟨3, .data⟩ (by simp) rfl)
      have s142 : a'.tmps[142]? = some (.int .i64 (a : Int)) := HT.out (2, 142) (by decide) (by cases ho; exact hd ⟨2, .data⟩ (by simp) rfl)
      cases ho
      clear hd HT hT hold hcl
      go_simp
      exact hK
    · have s144 : a'.tmps[144]? = some (.pointer (some ⟨B, 2 + a, none⟩)) := HT.out (4, 144) (by decide) (by cases ho; exact hd ⟨4, .data⟩ (by simp) rfl)
      cases ho
      clear hd HT hT hold hcl
      go_simp
      exact hK
    · have s145 : a'.tmps[145]? = some (.int .i64 (t.regs a)) := HT.out (5, 145) (by decide) (by cases ho; exact hd ⟨5, .data⟩ (by simp) rfl)
      cases ho
      clear hd HT hT hold hcl
      go_simp
      exact hK
def idxr15 : List (Nat × Nat) := [(0, 194), (1, 195), (2, 196), (3, 197), (4, 198), (5, 199), (6, 200), (7, 201), (8, 202)]
def Vr15 (B X : Nat) (t : RT) (a : Nat) : Nat → Value := fun sl => match sl with
  | 194 => .pointer (some ⟨B, 2, none⟩)
  | 195 => .pointer (some ⟨X, 1, none⟩)
  | 196 => .int .i64 (a : Int)
  | 197 => .pointer (some ⟨B, 2, none⟩)
  | 198 => .pointer (some ⟨B, 2 + a, none⟩)
  | 199 => .int .i64 (t.regs a)
  | 200 => .agg #[.int .i64 1, .int .i64 (t.regs a)]
  | 201 => .agg #[.int .i64 1, .int .i64 (t.regs a)]
  | 202 => stopV 1 (t.regs a)
  | _ => undef
set_option maxRecDepth 100000 in
set_option maxHeartbeats 8000000 in
theorem step_ret (c : Mc) (t : RT) (S : RS) (a : Nat) (ha : a < 8) : StepSays c t S ⟨15, a, 0, 0⟩ ({ t with how := 1, val := t.regs a }, S) := by
  intro w B H hM hE hK
  have hA := At1.of (x := ⟨15, a, 0, 0⟩) hM hE
  have HA := Lib.hid hA
  clear hM hE hA
  go_enter Tryz.func33, Tryz.ntmps33
  go_wp2_with fail
  refine at_w (fun w1 => At1 c w w1 B w.heap.size t S H ⟨15, a, 0, 0⟩) HA.out ?_
  rintro w1 hA1
  generalize w.heap.size = X at *
  have HA1 := Lib.hid hA1
  have hA2 := hA1.drew
  have HA2 := Lib.hid hA2
  clear HA hA1
  refine Tab.region_rp (by kernel_rfl) idxr15 204 (Vr15 B X t a) 9 (by kernel_rfl) (by rfl) (by kernel_rfl) (by kernel_rfl) ?_ ?_
  · intro o L a' hT hd ho
    have s202 : a'.tmps[202]? = some (stopV 1 (t.regs a)) := hT.tab (8, 202) (by decide) (by cases ho; exact hd ⟨8, .data⟩ (by simp) rfl)
    have hdf : a'.defers = [] := hT.dfs
    cases ho
    clear hd hT hA2
    unfold stopV at s202
    go_simp
    exact ⟨hdf, fun h => (by change (1 : Int) = 0 at h; cases h), fun _ => rfl, HA2.out.m, HA2.out.ch⟩
  · intro i' o L a' K' Q' hi' hT hL ho hd hold hcl hK
    have HT : Hid (∀ qq ∈ idxr15, L[qq.1]? = some true → a'.tmps[qq.2]? = some (Vr15 B X t a qq.2)) := hT.tab
    obtain ⟨⟨x0, x1, x2, x3⟩, _⟩ := row4_cells hA2.x
    have lB := hA2.e.row.lt
    have lX := hA2.x.lt
    have e1 := ec_reg hA2.e ha
    have a1 : (a : Int) < 8 := by omega
    have a2 : (0 : Int) ≤ (a : Int) := by omega
    obtain rfl | rfl | rfl | rfl | rfl | rfl | rfl | rfl | rfl : i' = 0 ∨ i' = 1 ∨ i' = 2 ∨ i' = 3 ∨ i' = 4 ∨ i' = 5 ∨ i' = 6 ∨ i' = 7 ∨ i' = 8 := by omega
    · have s7 : a'.tmps[7]? = some (.pointer (some ⟨B, 2, none⟩)) := (hT.out 7 (by decide)).trans rfl
      cases ho
      clear hd HT hT hold hcl
      go_simp
      exact hK
    · have s4 : a'.tmps[4]? = some (.pointer (some ⟨X, 0, none⟩)) := (hT.out 4 (by decide)).trans rfl
      cases ho
      clear hd HT hT hold hcl
      go_simp
      exact hK
    · have s195 : a'.tmps[195]? = some (.pointer (some ⟨X, 1, none⟩)) := HT.out (1, 195) (by decide) (by cases ho; exact hd ⟨1, .data⟩ (by simp) rfl)
      cases ho
      clear hd HT hT hold hcl
      go_simp
      exact hK
    · have s194 : a'.tmps[194]? = some (.pointer (some ⟨B, 2, none⟩)) := HT.out (0, 194) (by decide) (by cases ho; exact hd ⟨0, .data⟩ (by simp) rfl)
      cases ho
      clear hd HT hT hold hcl
      go_simp
      exact hK
    · have s197 : a'.tmps[197]? = some (.pointer (some ⟨B, 2, none⟩)) := HT.out (3, 197) (by decide) (by cases ho; exact hd ⟨3, .data⟩ (by simp) rfl)
      have s196 : a'.tmps[196]? = some (.int .i64 (a : Int)) := HT.out (2, 196) (by decide) (by cases ho; exact hd ⟨2, .data⟩ (by simp) rfl)
      cases ho
      clear hd HT hT hold hcl
      go_simp
      exact hK
    · have s198 : a'.tmps[198]? = some (.pointer (some ⟨B, 2 + a, none⟩)) := HT.out (4, 198) (by decide) (by cases ho; exact hd ⟨4, .data⟩ (by simp) rfl)
      cases ho
      clear hd HT hT hold hcl
      go_simp
      exact hK
    · have s199 : a'.tmps[199]? = some (.int .i64 (t.regs a)) := HT.out (5, 199) (by decide) (by cases ho; exact hd ⟨5, .data⟩ (by simp) rfl)
      cases ho
      clear hd HT hT hold hcl
      go_simp
      exact hK
    · have s200 : a'.tmps[200]? = some (.agg #[.int .i64 1, .int .i64 (t.regs a)]) := HT.out (6, 200) (by decide) (by cases ho; exact hd ⟨6, .data⟩ (by simp) rfl)
      cases ho
      clear hd HT hT hold hcl
      go_simp
      exact hK
    · have s201 : a'.tmps[201]? = some (.agg #[.int .i64 1, .int .i64 (t.regs a)]) := HT.out (7, 201) (by decide) (by cases ho; exact hd ⟨7, .data⟩ (by simp) rfl)
      cases ho
      clear hd HT hT hold hcl
      go_simp
      exact hK
def idxd5 : List (Nat × Nat) := [(0, 109), (1, 110), (2, 111), (3, 112), (4, 113), (5, 114), (6, 115), (7, 116), (8, 117), (9, 118), (10, 119), (11, 120), (12, 121), (13, 108), (14, 122), (15, 123), (16, 8), (17, 9)]
def Vd5 (B X : Nat) (t : RT) (b d : Nat) (q : Int) (ok : Bool) : Nat → Value := fun sl => match sl with
  | 109 => .pointer (some ⟨B, 2, none⟩)
  | 110 => .pointer (some ⟨X, 2, none⟩)
  | 111 => .int .i64 (b : Int)
  | 112 => .pointer (some ⟨B, 2, none⟩)
  | 113 => .pointer (some ⟨B, 2 + b, none⟩)
  | 114 => .int .i64 (t.regs b)
  | 115 => .pointer (some ⟨B, 2, none⟩)
  | 116 => .pointer (some ⟨X, 3, none⟩)
  | 117 => .int .i64 (d : Int)
  | 118 => .pointer (some ⟨B, 2, none⟩)
  | 119 => .pointer (some ⟨B, 2 + d, none⟩)
  | 120 => .int .i64 (t.regs d)
  | 121 => .tuple #[.int .i64 q, .bool ok]
  | 108 => .tuple #[.int .i64 q, .bool ok]
  | 122 => .int .i64 q
  | 123 => .bool ok
  | 8 => .int .i64 q
  | 9 => .bool ok
  | _ => undef
def idxd5s : List (Nat × Nat) := [(0, 128), (1, 129), (2, 130), (3, 131), (4, 132), (5, 133)]
def Vd5s (B X a : Nat) (q : Int) : Nat → Value := fun sl => match sl with
  | 128 => .pointer (some ⟨B, 2, none⟩)
  | 129 => .pointer (some ⟨X, 1, none⟩)
  | 130 => .int .i64 (a : Int)
  | 131 => .int .i64 q
  | 132 => .pointer (some ⟨B, 2, none⟩)
  | 133 => .pointer (some ⟨B, 2 + a, none⟩)
  | _ => undef
set_option maxRecDepth 100000 in
set_option maxHeartbeats 8000000 in
theorem step_div (c : Mc) (t : RT) (S : RS) (a b d : Nat) (q : Int) (ok : Bool) (ha : a < 8) (hb : b < 8) (hd8 : d < 8) (hdv : ∀ w, Calls Tryz.prog 57 #[.int .i64 (t.regs b), .int .i64 (t.regs d)] w fun e w' => e = .returned (.tuple #[.int .i64 q, .bool ok]) ∧ w = w') (h0 : t.how = 0) (hv0 : t.val = 0) :
    StepSays c t S ⟨5, a, b, d⟩ ((if ok then t.setReg a q else t.ends 2), S) := by
  intro w B H hM hE hK
  have H0 := Lib.hid h0
  clear h0
  have HV0 := Lib.hid hv0
  clear hv0
  have hA := At1.of (x := ⟨5, a, b, d⟩) hM hE
  have HA := Lib.hid hA
  clear hM hE hA
  go_enter Tryz.func33, Tryz.ntmps33
  go_wp2_with fail
  refine at_w (fun w1 => At1 c w w1 B w.heap.size t S H ⟨5, a, b, d⟩) HA.out ?_
  rintro w1 hA1
  generalize w.heap.size = X at *
  have HA1 := Lib.hid hA1
  have hA2 := hA1.drew
  have HA2 := Lib.hid hA2
  clear HA hA1
  refine Tab.region_rd (by kernel_rfl) idxd5 204 (Vd5 B X t b d q ok) (by kernel_rfl) (by rfl) (by kernel_rfl) ?_ ?_
  · intro a' hT
    have r2 : a'.tmps[2]? = some (.int .i64 t.place) := (hT.out 2 (by decide)).trans rfl
    have r0 : a'.tmps[0]? = some (.pointer (some ⟨B, 0, none⟩)) := (hT.out 0 (by decide)).trans rfl
    have r4 : a'.tmps[4]? = some (.pointer (some ⟨X, 0, none⟩)) := (hT.out 4 (by decide)).trans rfl
    have r7 : a'.tmps[7]? = some (.pointer (some ⟨B, 2, none⟩)) := (hT.out 7 (by decide)).trans rfl
    have r8 : a'.tmps[8]? = some (.int .i64 q) := hT.tab (16, 8) (by decide) rfl
    have r9 : a'.tmps[9]? = some (.bool ok) := hT.tab (17, 9) (by decide) rfl
    obtain ⟨_, r9'⟩ := Array.getElem?_eq_some_iff.1 r9
    obtain ⟨_, r0'⟩ := Array.getElem?_eq_some_iff.1 r0
    have hdf : a'.defers = [] := hT.dfs
    have hsz : a'.tmps.size = 204 := hT.sz.trans rfl
    clear hT hA2 hdv
    cases ok
    · go_wp2_with fail
      refine wp_cond (t := true) (by simp [Act.eval, hsz]) ?_
      simp only [if_true]
      go_wp2_with fail
      refine (stops_any _ _ _).mono ?_
      rintro e w9 ⟨rfl, rfl⟩
      go_wp2_with fail
      exact ⟨rfl, fun h => (by change (2 : Int) = 0 at h; cases h), fun _ => (by show _ = Ending.panicked [{ v := stopV 2 t.val, recovered := false }]; rw [HV0.out]), HA2.out.m, HA2.out.ch⟩
    · go_wp2_with fail
      refine wp_cond (t := false) (by simp [Act.eval, hsz]) ?_
      simp only [Bool.false_eq_true, if_false]
      go_wp2_with fail
      have hA3 := HA2.out.drew
      refine Tab.region_rs (by kernel_rfl) idxd5s 204 (Vd5s B X a q) 6 (w1.drew.drew.setCell ⟨B, 2 + a, none⟩ (.int .i64 q)) (by kernel_rfl) (by simp [hsz]) (by kernel_rfl) (by kernel_rfl) ?_ ?_
      · intro b' hT
        have q2 : b'.tmps[2]? = some (.int .i64 t.place) := (hT.out 2 (by decide)).trans (by simp [r2])
        obtain ⟨_, q2'⟩ := Array.getElem?_eq_some_iff.1 q2
        have hdf2 : b'.defers = [] := hT.dfs
        have hsz2 : b'.tmps.size = 204 := hT.sz.trans (by simp [hsz])
        have hE2 := hA3.e.setReg a ha q
        have hM2 : IsM c (w1.drew.drew.setCell ⟨B, 2 + a, none⟩ (.int .i64 q)) S := hA3.m.on hA3.e.row (by decide) (by decide) (by decide) hK ((Ch.refl _ _).setB _)
        have hC2 : Ch (fun k => Mvs c k ∨ k = B) w (w1.drew.drew.setCell ⟨B, 2 + a, none⟩ (.int .i64 q)) := hA3.ch.set (Or.inl (Or.inr rfl)) _
        clear hT r2 r0 r4 r7 r8 r9
        go_wp2_with fail
        refine bodyPost_ret (v := .int .i64 t.place) (by simp [results, Tryz.results33, go_sem, hsz2, q2']) rfl ⟨fun _ => ⟨rfl, H, hE2⟩, fun h => absurd H0.out h, hM2, hC2⟩
      · intro i' o L b' K' Q' hT hL ho hd hold hcl hK
        have hi' : i' < 7 := (Array.getElem?_eq_some_iff.1 ho).1
        have HT : Hid (∀ qq ∈ idxd5s, L[qq.1]? = some true → b'.tmps[qq.2]? = some (Vd5s B X a q qq.2)) := hT.tab
        obtain ⟨⟨x0, x1, x2, x3⟩, _⟩ := row4_cells hA3.x
        have lB := hA3.e.row.lt
        have lX := hA3.x.lt
        have e1 := ec_reg hA3.e ha
        have f1 := hA3.e.row.frozen (2 + a)
        have a1 : (a : Int) < 8 := by omega
        have a2 : (0 : Int) ≤ (a : Int) := by omega
        obtain rfl | rfl | rfl | rfl | rfl | rfl | rfl : i' = 0 ∨ i' = 1 ∨ i' = 2 ∨ i' = 3 ∨ i' = 4 ∨ i' = 5 ∨ i' = 6 := by omega
        · have s7 : b'.tmps[7]? = some (.pointer (some ⟨B, 2, none⟩)) := (hT.out 7 (by decide)).trans (by first | simp [r7] | (show ((a'.tmps.setIfInBounds 124 _).setIfInBounds 125 _)[7]? = _; rw [Array.getElem?_setIfInBounds_ne (by decide), Array.getElem?_setIfInBounds_ne (by decide)]; exact r7))
          cases ho
          clear hd HT hT hold hcl
          go_simp
          exact hK
        · have s4 : b'.tmps[4]? = some (.pointer (some ⟨X, 0, none⟩)) := (hT.out 4 (by decide)).trans (by first | simp [r4] | (show ((a'.tmps.setIfInBounds 124 _).setIfInBounds 125 _)[4]? = _; rw [Array.getElem?_setIfInBounds_ne (by decide), Array.getElem?_setIfInBounds_ne (by decide)]; exact r4))
          cases ho
          clear hd HT hT hold hcl
          go_simp
          exact hK
        · have s129 : b'.tmps[129]? = some (.pointer (some ⟨X, 1, none⟩)) := HT.out (1, 129) (by decide) (by cases ho; exact hd ⟨1, .data⟩ (by simp) rfl)
          cases ho
          clear hd HT hT hold hcl
          go_simp
          exact hK
        · have s8 : b'.tmps[8]? = some (.int .i64 q) := (hT.out 8 (by decide)).trans (by first | simp [r8] | (show ((a'.tmps.setIfInBounds 124 _).setIfInBounds 125 _)[8]? = _; rw [Array.getElem?_setIfInBounds_ne (by decide), Array.getElem?_setIfInBounds_ne (by decide)]; exact r8))
          cases ho
          clear hd HT hT hold hcl
          go_simp
          exact hK
        · have s128 : b'.tmps[128]? = some (.pointer (some ⟨B, 2, none⟩)) := HT.out (0, 128) (by decide) (by cases ho; exact hd ⟨0, .data⟩ (by simp) rfl)
          cases ho
          clear hd HT hT hold hcl
          go_simp
          exact hK
        · have s132 : b'.tmps[132]? = some (.pointer (some ⟨B, 2, none⟩)) := HT.out (4, 132) (by decide) (by cases ho; exact hd ⟨4, .data⟩ (by simp) rfl)
          have s130 : b'.tmps[130]? = some (.int .i64 (a : Int)) := HT.out (2, 130) (by decide) (by cases ho; exact hd ⟨2, .data⟩ (by simp) rfl)
          cases ho
          clear hd HT hT hold hcl
          go_simp
          exact hK
        · have s133 : b'.tmps[133]? = some (.pointer (some ⟨B, 2 + a, none⟩)) := HT.out (5, 133) (by decide) (by cases ho; exact hd ⟨5, .data⟩ (by simp) rfl)
          have s131 : b'.tmps[131]? = some (.int .i64 q) := HT.out (3, 131) (by decide) (by cases ho; exact hd ⟨3, .data⟩ (by simp) rfl)
          cases ho
          clear hd HT hT hold hcl
          go_simp
          exact hK
  · intro i' o L a' K' Q' hT hL ho hd hold hcl hK
    have hi' : i' < 18 := (Array.getElem?_eq_some_iff.1 ho).1
    have HT : Hid (∀ qq ∈ idxd5, L[qq.1]? = some true → a'.tmps[qq.2]? = some (Vd5 B X t b d q ok qq.2)) := hT.tab
    obtain ⟨⟨x0, x1, x2, x3⟩, _⟩ := row4_cells hA2.x
    have lB := hA2.e.row.lt
    have lX := hA2.x.lt
    have e2 := ec_reg hA2.e hb
    have e3 := ec_reg hA2.e hd8
    have b1 : (b : Int) < 8 := by omega
    have b2 : (0 : Int) ≤ (b : Int) := by omega
    have d1 : (d : Int) < 8 := by omega
    have d2 : (0 : Int) ≤ (d : Int) := by omega
    obtain rfl | rfl | rfl | rfl | rfl | rfl | rfl | rfl | rfl | rfl | rfl | rfl | rfl | rfl | rfl | rfl | rfl | rfl : i' = 0 ∨ i' = 1 ∨ i' = 2 ∨ i' = 3 ∨ i' = 4 ∨ i' = 5 ∨ i' = 6 ∨ i' = 7 ∨ i' = 8 ∨ i' = 9 ∨ i' = 10 ∨ i' = 11 ∨ i' = 12 ∨ i' = 13 ∨ i' = 14 ∨ i' = 15 ∨ i' = 16 ∨ i' = 17 := by omega
    · have s7 : a'.tmps[7]? = some (.pointer (some ⟨B, 2, none⟩)) := (hT.out 7 (by decide)).trans rfl
      cases ho
      clear hd HT hT hold hcl
      go_simp
      exact hK
    · have s4 : a'.tmps[4]? = some (.pointer (some ⟨X, 0, none⟩)) := (hT.out 4 (by decide)).trans rfl
      cases ho
      clear hd HT hT hold hcl
      go_simp
      exact hK
    · have s110 : a'.tmps[110]? = some (.pointer (some ⟨X, 2, none⟩)) := HT.out (1, 110) (by decide) (by cases ho; exact hd ⟨1, .data⟩ (by simp) rfl)
      cases ho
      clear hd HT hT hold hcl
      go_simp
      exact hK
    · have s109 : a'.tmps[109]? = some (.pointer (some ⟨B, 2, none⟩)) := HT.out (0, 109) (by decide) (by cases ho; exact hd ⟨0, .data⟩ (by simp) rfl)
      cases ho
      clear hd HT hT hold hcl
      go_simp
      exact hK
    · have s112 : a'.tmps[112]? = some (.pointer (some ⟨B, 2, none⟩)) := HT.out (3, 112) (by decide) (by cases ho; exact hd ⟨3, .data⟩ (by simp) rfl)
      have s111 : a'.tmps[111]? = some (.int .i64 (b : Int)) := HT.out (2, 111) (by decide) (by cases ho; exact hd ⟨2, .data⟩ (by simp) rfl)
      cases ho
      clear hd HT hT hold hcl
      go_simp
      exact hK
    · have s113 : a'.tmps[113]? = some (.pointer (some ⟨B, 2 + b, none⟩)) := HT.out (4, 113) (by decide) (by cases ho; exact hd ⟨4, .data⟩ (by simp) rfl)
      cases ho
      clear hd HT hT hold hcl
      go_simp
      exact hK
    · have s7 : a'.tmps[7]? = some (.pointer (some ⟨B, 2, none⟩)) := (hT.out 7 (by decide)).trans rfl
      cases ho
      clear hd HT hT hold hcl
      go_simp
      exact hK
    · have s4 : a'.tmps[4]? = some (.pointer (some ⟨X, 0, none⟩)) := (hT.out 4 (by decide)).trans rfl
      cases ho
      clear hd HT hT hold hcl
      go_simp
      exact hK
    · have s116 : a'.tmps[116]? = some (.pointer (some ⟨X, 3, none⟩)) := HT.out (7, 116) (by decide) (by cases ho; exact hd ⟨7, .data⟩ (by simp) rfl)
      cases ho
      clear hd HT hT hold hcl
      go_simp
      exact hK
    · have s115 : a'.tmps[115]? = some (.pointer (some ⟨B, 2, none⟩)) := HT.out (6, 115) (by decide) (by cases ho; exact hd ⟨6, .data⟩ (by simp) rfl)
      cases ho
      clear hd HT hT hold hcl
      go_simp
      exact hK
    · have s118 : a'.tmps[118]? = some (.pointer (some ⟨B, 2, none⟩)) := HT.out (9, 118) (by decide) (by cases ho; exact hd ⟨9, .data⟩ (by simp) rfl)
      have s117 : a'.tmps[117]? = some (.int .i64 (d : Int)) := HT.out (8, 117) (by decide) (by cases ho; exact hd ⟨8, .data⟩ (by simp) rfl)
      cases ho
      clear hd HT hT hold hcl
      go_simp
      exact hK
    · have s119 : a'.tmps[119]? = some (.pointer (some ⟨B, 2 + d, none⟩)) := HT.out (10, 119) (by decide) (by cases ho; exact hd ⟨10, .data⟩ (by simp) rfl)
      cases ho
      clear hd HT hT hold hcl
      go_simp
      exact hK
    · have s114 : a'.tmps[114]? = some (.int .i64 (t.regs b)) := HT.out (5, 114) (by decide) (by cases ho; exact hd ⟨5, .data⟩ (by simp) rfl)
      have s120 : a'.tmps[120]? = some (.int .i64 (t.regs d)) := HT.out (11, 120) (by decide) (by cases ho; exact hd ⟨11, .data⟩ (by simp) rfl)
      cases ho
      clear hd HT hT hold hcl
      go_simp
      go_at_call 57
      refine (hdv _).mono ?_
      rintro e w9 ⟨rfl, rfl⟩
      go_simp
      exact hK
    · have s121 : a'.tmps[121]? = some (.tuple #[.int .i64 q, .bool ok]) := HT.out (12, 121) (by decide) (by cases ho; exact hd ⟨12, .data⟩ (by simp) rfl)
      cases ho
      clear hd HT hT hold hcl
      go_simp
      exact hK
    · have s108 : a'.tmps[108]? = some (.tuple #[.int .i64 q, .bool ok]) := HT.out (13, 108) (by decide) (by cases ho; exact hd ⟨13, .data⟩ (by simp) rfl)
      cases ho
      clear hd HT hT hold hcl
      go_simp
      exact hK
    · have s108 : a'.tmps[108]? = some (.tuple #[.int .i64 q, .bool ok]) := HT.out (13, 108) (by decide) (by cases ho; exact hd ⟨13, .data⟩ (by simp) rfl)
      cases ho
      clear hd HT hT hold hcl
      go_simp
      exact hK
    · have s122 : a'.tmps[122]? = some (.int .i64 q) := HT.out (14, 122) (by decide) (by cases ho; exact hd ⟨14, .data⟩ (by simp) rfl)
      cases ho
      clear hd HT hT hold hcl
      go_simp
      exact hK
    · have s123 : a'.tmps[123]? = some (.bool ok) := HT.out (15, 123) (by decide) (by cases ho; exact hd ⟨15, .data⟩ (by simp) rfl)
      cases ho
      clear hd HT hT hold hcl
      go_simp
      exact hK
end Go.Proofs.YtonndofbnhnkpaaGreat.Evl
namespace Go.Proofs.YtonndofbnhnkpaaGreat.Evl
open Go.RowKit Num KeyM KeyW StatW Blk VmA VmG Prg EvM Rf
theorem two_alloc (w : World) (a b : Value) (t : TypeId) : (w.alloc (.cells #[a, b] t)).rowIs w.heap.size t 2 (two a b) :=
  World.rowIs_alloc w #[a, b] t _ (fun i hi => by
    have hi : i < 2 := hi
    obtain rfl | rfl : i = 0 ∨ i = 1 := by omega
    all_goals rfl)
set_option maxRecDepth 100000 in
set_option maxHeartbeats 4000000 in
theorem hand_yes (c : Mc) (t : RT) (B k : Nat) (H : Nat → Nat) (w : World) (hE : IsE c w B t H) (hk : k < 4) (hh : t.has k = true) :
    Calls Tryz.prog 59 #[.pointer (some ⟨B, 0, none⟩), .int .i64 k] w fun e w' => e = .returned (.agg #[.int .i64 (t.hh k), .int .i64 (t.hv k)]) ∧ Bl w w' := by
  have e1 := ec_hand hE hk
  unfold handV at e1
  rw [hh, if_pos rfl] at e1
  have hr := hE.hands k hk hh
  have c0 : w.cell? ⟨H k, 0, none⟩ = some (.int .i64 (t.hh k)) := hr.cell (i := 0) (by omega)
  have c1 : w.cell? ⟨H k, 1, none⟩ = some (.int .i64 (t.hv k)) := hr.cell (i := 1) (by omega)
  have lH := hr.lt
  have lB := hE.row.lt
  have a1 : (k : Int) < 4 := by omega
  have a2 : (0 : Int) ≤ (k : Int) := by omega
  clear hE hr hh
  go_enter Tryz.func59, Tryz.ntmps59
  go_wp2_with fail
  refine bodyPost_ret (v := .agg #[.int .i64 (t.hh k), .int .i64 (t.hv k)]) (by simp [results, Tryz.results59, go_sem]) rfl ⟨rfl, ?_⟩
  repeat (first | exact Bl.refl _ | apply Bl.drewN | apply Bl.drew | apply Bl.alloc)
set_option maxRecDepth 100000 in
set_option maxHeartbeats 4000000 in
theorem hand_no (c : Mc) (t : RT) (B k : Nat) (H : Nat → Nat) (w : World) (hE : IsE c w B t H) (hk : k < 4) (hh : t.has k = false) :
    Calls Tryz.prog 59 #[.pointer (some ⟨B, 0, none⟩), .int .i64 k] w fun e w' => e = .panicked [{ v := stopV 7 0, recovered := false }] ∧ Bl w w' := by
  have e1 := ec_hand hE hk
  unfold handV at e1
  rw [hh, if_neg (by decide)] at e1
  have lB := hE.row.lt
  have a1 : (k : Int) < 4 := by omega
  have a2 : (0 : Int) ≤ (k : Int) := by omega
  clear hE hh
  go_enter Tryz.func59, Tryz.ntmps59
  go_wp2_with fail
  refine (stops_any _ _ _).mono ?_
  rintro e w9 ⟨rfl, rfl⟩
  go_wp2_with fail
  exact ⟨rfl, rfl, (Bl.refl _).alloc _⟩
def idxj27 : List (Nat × Nat) := [(0, 160), (1, 161), (2, 162), (3, 163), (4, 164), (5, 165)]
def Vj27 (B X b : Nat) : Nat → Value := fun sl => match sl with
  | 160 => .pointer (some ⟨B, 0, none⟩)
  | 161 => .pointer (some ⟨X, 2, none⟩)
  | 162 => .int .i64 (b : Int)
  | 163 => .pointer (some ⟨B, 0, none⟩)
  | 164 => .pointer (some ⟨B, 10, none⟩)
  | 165 => .pointer (some ⟨B, 10 + b, none⟩)
  | _ => undef
def idxj30 : List (Nat × Nat) := [(0, 173), (1, 174), (2, 175), (3, 176), (4, 177), (5, 178), (6, 179)]
def Vj30 (B X Y a : Nat) (v : Int) : Nat → Value := fun sl => match sl with
  | 173 => .pointer (some ⟨B, 2, none⟩)
  | 174 => .pointer (some ⟨X, 1, none⟩)
  | 175 => .int .i64 (a : Int)
  | 176 => .pointer (some ⟨Y, 1, none⟩)
  | 177 => .int .i64 v
  | 178 => .pointer (some ⟨B, 2, none⟩)
  | 179 => .pointer (some ⟨B, 2 + a, none⟩)
  | _ => undef
theorem At1.alloc {c : Mc} {w w1 : World} {B X : Nat} {t : RT} {S : RS} {H : Nat → Nat} {x : Ins} (h : At1 c w w1 B X t S H x) (o : Obj) : At1 c w (w1.alloc o) B X t S H x :=
  ⟨h.m.bl ((Bl.refl _).alloc _), h.e.bl ((Bl.refl _).alloc _), World.rowIs.alloc h.x _, Bl.alloc h.bl _⟩
set_option maxRecDepth 100000 in
set_option maxHeartbeats 8000000 in
theorem step_join_no (c : Mc) (t : RT) (S : RS) (a b : Nat) (ha : a < 8) (hb : b < 4) (h0 : t.how = 0) (hv0 : t.val = 0) (hh : t.has b = true) (hne : ¬ t.hh b = 1) (hn0 : t.hh b ≠ 0) : StepSays c t S ⟨10, a, b, 0⟩ ({ t with has := EvM.upd t.has b false, how := t.hh b }, S) := by
  intro w B H hM hE hK
  have H0 := Lib.hid h0
  clear h0
  have HN0 := Lib.hid hn0
  clear hn0
  have HV0 := Lib.hid hv0
  clear hv0
  have hA := At1.of (x := ⟨10, a, b, 0⟩) hM hE
  have hx := hA.x
  obtain ⟨⟨x0, x1, x2, x3⟩, _⟩ := row4_cells hx
  have hnd := hand_yes c t B b H _ hA.e hb hh
  have HA := Lib.hid hA
  have lX := hx.lt
  clear hM hE hA hx
  go_enter Tryz.func33, Tryz.ntmps33
  go_wp2_with fail
  refine hnd.mono ?_
  rintro e w3 ⟨rfl, hb3⟩
  have hY := two_alloc w3 (.int .i64 (t.hh b)) (.int .i64 (t.hv b)) 29
  have HA3 : Hid (At1 c w w3 B w.heap.size t S H ⟨10, a, b, 0⟩) := ⟨HA.out.m.bl hb3, HA.out.e.bl hb3, row_bl HA.out.x hb3, Bl.trans HA.out.bl hb3⟩
  have HY := Lib.hid hY
  clear hnd hb3 hY x0 x1 x2 x3 HA lX
  go_wp2_with fail
  refine at_w (fun w1 => At1 c w w1 B w.heap.size t S H ⟨10, a, b, 0⟩ ∧ w1.rowIs w3.heap.size 29 2 (two (.int .i64 (t.hh b)) (.int .i64 (t.hv b)))) ⟨HA3.out.alloc _, HY.out⟩ ?_
  rintro w1 ⟨hA1, hY1⟩
  generalize w3.heap.size = Y at *
  generalize w.heap.size = X at *
  have hA2 := hA1.drew
  have hY2 := World.rowIs.drew hY1
  have nXB : X ≠ B := fun e => by
    obtain ⟨cur, hcur⟩ := row_type hA2.x
    exact ty_ne hA2.e.row hcur (by decide) e
  have nYB : Y ≠ B := fun e => by
    obtain ⟨cur, hcur⟩ := row_type hY2
    exact ty_ne hA2.e.row hcur (by decide) e
  clear hA1 hY1 HA3 HY
  refine Tab.region_rs (by kernel_rfl) idxj27 204 (Vj27 B X b) 6 (w1.drew.setCell ⟨B, 10 + b, none⟩ (.pointer none)) (by kernel_rfl) (by rfl) (by kernel_rfl) (by kernel_rfl) ?_ ?_
  · intro a' hT
    have r0 : a'.tmps[0]? = some (.pointer (some ⟨B, 0, none⟩)) := (hT.out 0 (by decide)).trans rfl
    have r2 : a'.tmps[2]? = some (.int .i64 t.place) := (hT.out 2 (by decide)).trans rfl
    have r4 : a'.tmps[4]? = some (.pointer (some ⟨X, 0, none⟩)) := (hT.out 4 (by decide)).trans rfl
    have r7 : a'.tmps[7]? = some (.pointer (some ⟨B, 2, none⟩)) := (hT.out 7 (by decide)).trans rfl
    have r10 : a'.tmps[10]? = some (.pointer (some ⟨Y, 0, none⟩)) := (hT.out 10 (by decide)).trans rfl
    obtain ⟨_, r0'⟩ := Array.getElem?_eq_some_iff.1 r0
    obtain ⟨_, r2'⟩ := Array.getElem?_eq_some_iff.1 r2
    obtain ⟨_, r4'⟩ := Array.getElem?_eq_some_iff.1 r4
    obtain ⟨_, r7'⟩ := Array.getElem?_eq_some_iff.1 r7
    obtain ⟨_, r10'⟩ := Array.getElem?_eq_some_iff.1 r10
    have hdf : a'.defers = [] := hT.dfs
    have hsz : a'.tmps.size = 204 := hT.sz.trans rfl
    have hE4 := hA2.e.drop b hb
    have hM4 : IsM c (w1.drew.setCell ⟨B, 10 + b, none⟩ (.pointer none)) S := hA2.m.on hA2.e.row (by decide) (by decide) (by decide) hK ((Ch.refl _ _).setB _)
    have hX4 : World.rowIs (w1.drew.setCell ⟨B, 10 + b, none⟩ (.pointer none)) X 53 4 (four (.int .i64 10) (.int .i64 a) (.int .i64 b) (.int .i64 0)) := row_setO hA2.x nXB _
    have hY4 : World.rowIs (w1.drew.setCell ⟨B, 10 + b, none⟩ (.pointer none)) Y 29 2 (two (.int .i64 (t.hh b)) (.int .i64 (t.hv b))) := row_setO hY2 nYB _
    have hC4 : Ch (fun k => Mvs c k ∨ k = B) w (w1.drew.setCell ⟨B, 10 + b, none⟩ (.pointer none)) := hA2.ch.set (Or.inl (Or.inr rfl)) _
    generalize (w1.drew.setCell ⟨B, 10 + b, none⟩ (.pointer none)) = w4 at *
    have HE4 := Lib.hid hE4
    have HM4 := Lib.hid hM4
    have HX4 := Lib.hid hX4
    have HY4 := Lib.hid hY4
    have HC4 := Lib.hid hC4
    have y0 : w4.cell? ⟨Y, 0, none⟩ = some (.int .i64 (t.hh b)) := hY4.cell (i := 0) (by omega)
    have lY := hY4.lt
    clear hT hA2 hY2 hE4 hM4 hX4 hY4 hC4 hh
    go_wp2_with fail
    refine wp_cond (t := true) (by simp [Act.eval, hsz, hne]) ?_
    simp only [if_true]
    go_wp2_with fail
    refine (stops_any _ _ _).mono ?_
    rintro e w9 ⟨rfl, rfl⟩
    go_wp2_with fail
    exact ⟨rfl, fun h => absurd h HN0.out, fun _ => (by show _ = Ending.panicked [{ v := stopV (t.hh b) t.val, recovered := false }]; rw [HV0.out]), HM4.out, HC4.out⟩
  · intro i' o L a' K' Q' hT hL ho hd hold hcl hK
    have hi' : i' < 7 := (Array.getElem?_eq_some_iff.1 ho).1
    have HT : Hid (∀ qq ∈ idxj27, L[qq.1]? = some true → a'.tmps[qq.2]? = some (Vj27 B X b qq.2)) := hT.tab
    obtain ⟨⟨x0, x1, x2, x3⟩, _⟩ := row4_cells hA2.x
    have e1 := ec_hand hA2.e hb
    have f1 := hA2.e.row.frozen (10 + b)
    have lB := hA2.e.row.lt
    have lX := hA2.x.lt
    have b1 : (b : Int) < 4 := by omega
    have b2 : (0 : Int) ≤ (b : Int) := by omega
    obtain rfl | rfl | rfl | rfl | rfl | rfl | rfl : i' = 0 ∨ i' = 1 ∨ i' = 2 ∨ i' = 3 ∨ i' = 4 ∨ i' = 5 ∨ i' = 6 := by omega
    · have s0 : a'.tmps[0]? = some (.pointer (some ⟨B, 0, none⟩)) := (hT.out 0 (by decide)).trans rfl
      cases ho
      clear hd HT hT hold hcl
      go_simp
      exact hK
    · have s4 : a'.tmps[4]? = some (.pointer (some ⟨X, 0, none⟩)) := (hT.out 4 (by decide)).trans rfl
      cases ho
      clear hd HT hT hold hcl
      go_simp
      exact hK
    · have s161 : a'.tmps[161]? = some (.pointer (some ⟨X, 2, none⟩)) := HT.out (1, 161) (by decide) (by cases ho; exact hd ⟨1, .data⟩ (by simp) rfl)
      cases ho
      clear hd HT hT hold hcl
      go_simp
      exact hK
    · have s160 : a'.tmps[160]? = some (.pointer (some ⟨B, 0, none⟩)) := HT.out (0, 160) (by decide) (by cases ho; exact hd ⟨0, .data⟩ (by simp) rfl)
      cases ho
      clear hd HT hT hold hcl
      go_simp
      exact hK
    · have s163 : a'.tmps[163]? = some (.pointer (some ⟨B, 0, none⟩)) := HT.out (3, 163) (by decide) (by cases ho; exact hd ⟨3, .data⟩ (by simp) rfl)
      cases ho
      clear hd HT hT hold hcl
      go_simp
      exact hK
    · have s164 : a'.tmps[164]? = some (.pointer (some ⟨B, 10, none⟩)) := HT.out (4, 164) (by decide) (by cases ho; exact hd ⟨4, .data⟩ (by simp) rfl)
      have s162 : a'.tmps[162]? = some (.int .i64 (b : Int)) := HT.out (2, 162) (by decide) (by cases ho; exact hd ⟨2, .data⟩ (by simp) rfl)
      cases ho
      clear hd HT hT hold hcl
      go_simp
      exact hK
    · have s165 : a'.tmps[165]? = some (.pointer (some ⟨B, 10 + b, none⟩)) := HT.out (5, 165) (by decide) (by cases ho; exact hd ⟨5, .data⟩ (by simp) rfl)
      cases ho
      clear hd HT hT hold hcl
      go_simp
      exact hK
set_option maxRecDepth 100000 in
set_option maxHeartbeats 8000000 in
theorem step_join_yes (c : Mc) (t : RT) (S : RS) (a b : Nat) (ha : a < 8) (hb : b < 4) (h0 : t.how = 0) (hv0 : t.val = 0) (hh : t.has b = true) (h1 : t.hh b = 1) : StepSays c t S ⟨10, a, b, 0⟩ (({ t with has := EvM.upd t.has b false }).setReg a (t.hv b), S) := by
  intro w B H hM hE hK
  have H0 := Lib.hid h0
  clear h0
  have H1 := Lib.hid h1
  clear h1
  have HV0 := Lib.hid hv0
  clear hv0
  have hA := At1.of (x := ⟨10, a, b, 0⟩) hM hE
  have hx := hA.x
  obtain ⟨⟨x0, x1, x2, x3⟩, _⟩ := row4_cells hx
  have hnd := hand_yes c t B b H _ hA.e hb hh
  have HA := Lib.hid hA
  have lX := hx.lt
  clear hM hE hA hx
  go_enter Tryz.func33, Tryz.ntmps33
  go_wp2_with fail
  refine hnd.mono ?_
  rintro e w3 ⟨rfl, hb3⟩
  have hY := two_alloc w3 (.int .i64 (t.hh b)) (.int .i64 (t.hv b)) 29
  have HA3 : Hid (At1 c w w3 B w.heap.size t S H ⟨10, a, b, 0⟩) := ⟨HA.out.m.bl hb3, HA.out.e.bl hb3, row_bl HA.out.x hb3, Bl.trans HA.out.bl hb3⟩
  have HY := Lib.hid hY
  clear hnd hb3 hY x0 x1 x2 x3 HA lX
  go_wp2_with fail
  refine at_w (fun w1 => At1 c w w1 B w.heap.size t S H ⟨10, a, b, 0⟩ ∧ w1.rowIs w3.heap.size 29 2 (two (.int .i64 (t.hh b)) (.int .i64 (t.hv b)))) ⟨HA3.out.alloc _, HY.out⟩ ?_
  rintro w1 ⟨hA1, hY1⟩
  generalize w3.heap.size = Y at *
  generalize w.heap.size = X at *
  have hA2 := hA1.drew
  have hY2 := World.rowIs.drew hY1
  have nXB : X ≠ B := fun e => by
    obtain ⟨cur, hcur⟩ := row_type hA2.x
    exact ty_ne hA2.e.row hcur (by decide) e
  have nYB : Y ≠ B := fun e => by
    obtain ⟨cur, hcur⟩ := row_type hY2
    exact ty_ne hA2.e.row hcur (by decide) e
  clear hA1 hY1 HA3 HY
  refine Tab.region_rs (by kernel_rfl) idxj27 204 (Vj27 B X b) 6 (w1.drew.setCell ⟨B, 10 + b, none⟩ (.pointer none)) (by kernel_rfl) (by rfl) (by kernel_rfl) (by kernel_rfl) ?_ ?_
  · intro a' hT
    have r0 : a'.tmps[0]? = some (.pointer (some ⟨B, 0, none⟩)) := (hT.out 0 (by decide)).trans rfl
    have r2 : a'.tmps[2]? = some (.int .i64 t.place) := (hT.out 2 (by decide)).trans rfl
    have r4 : a'.tmps[4]? = some (.pointer (some ⟨X, 0, none⟩)) := (hT.out 4 (by decide)).trans rfl
    have r7 : a'.tmps[7]? = some (.pointer (some ⟨B, 2, none⟩)) := (hT.out 7 (by decide)).trans rfl
    have r10 : a'.tmps[10]? = some (.pointer (some ⟨Y, 0, none⟩)) := (hT.out 10 (by decide)).trans rfl
    obtain ⟨_, r0'⟩ := Array.getElem?_eq_some_iff.1 r0
    obtain ⟨_, r2'⟩ := Array.getElem?_eq_some_iff.1 r2
    obtain ⟨_, r4'⟩ := Array.getElem?_eq_some_iff.1 r4
    obtain ⟨_, r7'⟩ := Array.getElem?_eq_some_iff.1 r7
    obtain ⟨_, r10'⟩ := Array.getElem?_eq_some_iff.1 r10
    have hdf : a'.defers = [] := hT.dfs
    have hsz : a'.tmps.size = 204 := hT.sz.trans rfl
    have hE4 := hA2.e.drop b hb
    have hM4 : IsM c (w1.drew.setCell ⟨B, 10 + b, none⟩ (.pointer none)) S := hA2.m.on hA2.e.row (by decide) (by decide) (by decide) hK ((Ch.refl _ _).setB _)
    have hX4 : World.rowIs (w1.drew.setCell ⟨B, 10 + b, none⟩ (.pointer none)) X 53 4 (four (.int .i64 10) (.int .i64 a) (.int .i64 b) (.int .i64 0)) := row_setO hA2.x nXB _
    have hY4 : World.rowIs (w1.drew.setCell ⟨B, 10 + b, none⟩ (.pointer none)) Y 29 2 (two (.int .i64 (t.hh b)) (.int .i64 (t.hv b))) := row_setO hY2 nYB _
    have hC4 : Ch (fun k => Mvs c k ∨ k = B) w (w1.drew.setCell ⟨B, 10 + b, none⟩ (.pointer none)) := hA2.ch.set (Or.inl (Or.inr rfl)) _
    generalize (w1.drew.setCell ⟨B, 10 + b, none⟩ (.pointer none)) = w4 at *
    have HE4 := Lib.hid hE4
    have HM4 := Lib.hid hM4
    have HX4 := Lib.hid hX4
    have HY4 := Lib.hid hY4
    have HC4 := Lib.hid hC4
    have y0 : w4.cell? ⟨Y, 0, none⟩ = some (.int .i64 (t.hh b)) := hY4.cell (i := 0) (by omega)
    have lY := hY4.lt
    clear hT hA2 hY2 hE4 hM4 hX4 hY4 hC4 hh
    have y1 : w4.cell? ⟨Y, 1, none⟩ = some (.int .i64 (t.hv b)) := HY4.out.cell (i := 1) (by omega)
    rw [H1.out] at y0
    go_wp2_with fail
    refine wp_cond (t := false) (by simp [Act.eval, hsz]) ?_
    simp only [Bool.false_eq_true, if_false]
    go_wp2_with fail
    clear y0
    refine Tab.region_rs (by kernel_rfl) idxj30 204 (Vj30 B X Y a (t.hv b)) 7 (w4.drew.setCell ⟨B, 2 + a, none⟩ (.int .i64 (t.hv b))) (by kernel_rfl) (by simp [hsz]) (by kernel_rfl) (by kernel_rfl) ?_ ?_
    · intro b' hT
      have q2 : b'.tmps[2]? = some (.int .i64 t.place) := (hT.out 2 (by decide)).trans (by simp [r2, r2'])
      obtain ⟨_, q2'⟩ := Array.getElem?_eq_some_iff.1 q2
      have hdf2 : b'.defers = [] := hT.dfs
      have hsz2 : b'.tmps.size = 204 := hT.sz.trans (by simp [hsz])
      have hE5 := (HE4.out.bl (Bl.drew (Bl.refl _))).setReg a ha (t.hv b)
      have hM5 : IsM c (w4.drew.setCell ⟨B, 2 + a, none⟩ (.int .i64 (t.hv b))) S := (HM4.out.bl (Bl.drew (Bl.refl _))).on (World.rowIs.drew HE4.out.row) (by decide) (by decide) (by decide) hK ((Ch.refl _ _).setB _)
      have hC5 : Ch (fun k => Mvs c k ∨ k = B) w (w4.drew.setCell ⟨B, 2 + a, none⟩ (.int .i64 (t.hv b))) := (HC4.out.drew).set (Or.inl (Or.inr rfl)) _
      clear hT r0 r2 r4 r7 r10 r0' r2' r4' r7' r10'
      go_wp2_with fail
      refine bodyPost_ret (v := .int .i64 t.place) (by simp [results, Tryz.results33, go_sem, hsz2, q2']) rfl ⟨fun _ => ⟨rfl, H, hE5⟩, fun h => absurd H0.out h, hM5, hC5⟩
    · intro i' o L b' K' Q' hT hL ho hd hold hcl hK
      have hi' : i' < 8 := (Array.getElem?_eq_some_iff.1 ho).1
      have HT : Hid (∀ qq ∈ idxj30, L[qq.1]? = some true → b'.tmps[qq.2]? = some (Vj30 B X Y a (t.hv b) qq.2)) := hT.tab
      obtain ⟨⟨x0, x1, x2, x3⟩, _⟩ := row4_cells (World.rowIs.drew HX4.out)
      have y1' : w4.drew.cell? ⟨Y, 1, none⟩ = some (.int .i64 (t.hv b)) := y1
      have hE4' := HE4.out.bl (Bl.drew (Bl.refl _))
      have lB := hE4'.row.lt
      have lX := (World.rowIs.drew HX4.out).lt
      have e1 := ec_reg hE4' ha
      have f1 := hE4'.row.frozen (2 + a)
      have a1 : (a : Int) < 8 := by omega
      have a2 : (0 : Int) ≤ (a : Int) := by omega
      obtain rfl | rfl | rfl | rfl | rfl | rfl | rfl | rfl : i' = 0 ∨ i' = 1 ∨ i' = 2 ∨ i' = 3 ∨ i' = 4 ∨ i' = 5 ∨ i' = 6 ∨ i' = 7 := by omega
      · have s7 : b'.tmps[7]? = some (.pointer (some ⟨B, 2, none⟩)) := (hT.out 7 (by decide)).trans (by simp [r7, r7'])
        cases ho
        clear hd HT hT hold hcl
        go_simp
        exact hK
      · have s4 : b'.tmps[4]? = some (.pointer (some ⟨X, 0, none⟩)) := (hT.out 4 (by decide)).trans (by simp [r4, r4'])
        cases ho
        clear hd HT hT hold hcl
        go_simp
        exact hK
      · have s174 : b'.tmps[174]? = some (.pointer (some ⟨X, 1, none⟩)) := HT.out (1, 174) (by decide) (by cases ho; exact hd ⟨1, .data⟩ (by simp) rfl)
        cases ho
        clear hd HT hT hold hcl
        go_simp
        exact hK
      · have s10 : b'.tmps[10]? = some (.pointer (some ⟨Y, 0, none⟩)) := (hT.out 10 (by decide)).trans (by simp [r10, r10'])
        cases ho
        clear hd HT hT hold hcl
        go_simp
        exact hK
      · have s176 : b'.tmps[176]? = some (.pointer (some ⟨Y, 1, none⟩)) := HT.out (3, 176) (by decide) (by cases ho; exact hd ⟨3, .data⟩ (by simp) rfl)
        cases ho
        clear hd HT hT hold hcl
        go_simp
        exact hK
      · have s173 : b'.tmps[173]? = some (.pointer (some ⟨B, 2, none⟩)) := HT.out (0, 173) (by decide) (by cases ho; exact hd ⟨0, .data⟩ (by simp) rfl)
        cases ho
        clear hd HT hT hold hcl
        go_simp
        exact hK
      · have s178 : b'.tmps[178]? = some (.pointer (some ⟨B, 2, none⟩)) := HT.out (5, 178) (by decide) (by cases ho; exact hd ⟨5, .data⟩ (by simp) rfl)
        have s175 : b'.tmps[175]? = some (.int .i64 (a : Int)) := HT.out (2, 175) (by decide) (by cases ho; exact hd ⟨2, .data⟩ (by simp) rfl)
        cases ho
        clear hd HT hT hold hcl
        go_simp
        exact hK
      · have s179 : b'.tmps[179]? = some (.pointer (some ⟨B, 2 + a, none⟩)) := HT.out (6, 179) (by decide) (by cases ho; exact hd ⟨6, .data⟩ (by simp) rfl)
        have s177 : b'.tmps[177]? = some (.int .i64 (t.hv b)) := HT.out (4, 177) (by decide) (by cases ho; exact hd ⟨4, .data⟩ (by simp) rfl)
        cases ho
        clear hd HT hT hold hcl
        go_simp
        exact hK
  · intro i' o L a' K' Q' hT hL ho hd hold hcl hK
    have hi' : i' < 7 := (Array.getElem?_eq_some_iff.1 ho).1
    have HT : Hid (∀ qq ∈ idxj27, L[qq.1]? = some true → a'.tmps[qq.2]? = some (Vj27 B X b qq.2)) := hT.tab
    obtain ⟨⟨x0, x1, x2, x3⟩, _⟩ := row4_cells hA2.x
    have e1 := ec_hand hA2.e hb
    have f1 := hA2.e.row.frozen (10 + b)
    have lB := hA2.e.row.lt
    have lX := hA2.x.lt
    have b1 : (b : Int) < 4 := by omega
    have b2 : (0 : Int) ≤ (b : Int) := by omega
    obtain rfl | rfl | rfl | rfl | rfl | rfl | rfl : i' = 0 ∨ i' = 1 ∨ i' = 2 ∨ i' = 3 ∨ i' = 4 ∨ i' = 5 ∨ i' = 6 := by omega
    · have s0 : a'.tmps[0]? = some (.pointer (some ⟨B, 0, none⟩)) := (hT.out 0 (by decide)).trans rfl
      cases ho
      clear hd HT hT hold hcl
      go_simp
      exact hK
    · have s4 : a'.tmps[4]? = some (.pointer (some ⟨X, 0, none⟩)) := (hT.out 4 (by decide)).trans rfl
      cases ho
      clear hd HT hT hold hcl
      go_simp
      exact hK
    · have s161 : a'.tmps[161]? = some (.pointer (some ⟨X, 2, none⟩)) := HT.out (1, 161) (by decide) (by cases ho; exact hd ⟨1, .data⟩ (by simp) rfl)
      cases ho
      clear hd HT hT hold hcl
      go_simp
      exact hK
    · have s160 : a'.tmps[160]? = some (.pointer (some ⟨B, 0, none⟩)) := HT.out (0, 160) (by decide) (by cases ho; exact hd ⟨0, .data⟩ (by simp) rfl)
      cases ho
      clear hd HT hT hold hcl
      go_simp
      exact hK
    · have s163 : a'.tmps[163]? = some (.pointer (some ⟨B, 0, none⟩)) := HT.out (3, 163) (by decide) (by cases ho; exact hd ⟨3, .data⟩ (by simp) rfl)
      cases ho
      clear hd HT hT hold hcl
      go_simp
      exact hK
    · have s164 : a'.tmps[164]? = some (.pointer (some ⟨B, 10, none⟩)) := HT.out (4, 164) (by decide) (by cases ho; exact hd ⟨4, .data⟩ (by simp) rfl)
      have s162 : a'.tmps[162]? = some (.int .i64 (b : Int)) := HT.out (2, 162) (by decide) (by cases ho; exact hd ⟨2, .data⟩ (by simp) rfl)
      cases ho
      clear hd HT hT hold hcl
      go_simp
      exact hK
    · have s165 : a'.tmps[165]? = some (.pointer (some ⟨B, 10 + b, none⟩)) := HT.out (5, 165) (by decide) (by cases ho; exact hd ⟨5, .data⟩ (by simp) rfl)
      cases ho
      clear hd HT hT hold hcl
      go_simp
      exact hK
set_option maxRecDepth 100000 in
set_option maxHeartbeats 8000000 in
theorem step_join_none (c : Mc) (t : RT) (S : RS) (a b : Nat) (hb : b < 4) (hv0 : t.val = 0) (hh : t.has b = false) : StepSays c t S ⟨10, a, b, 0⟩ (t.ends 7, S) := by
  intro w B H hM hE hK
  have HV0 := Lib.hid hv0
  clear hv0
  have hA := At1.of (x := ⟨10, a, b, 0⟩) hM hE
  have hx := hA.x
  obtain ⟨⟨x0, x1, x2, x3⟩, _⟩ := row4_cells hx
  have hnd := hand_no c t B b H _ hA.e hb hh
  have HA := Lib.hid hA
  have lX := hx.lt
  clear hM hE hA hx hh
  go_enter Tryz.func33, Tryz.ntmps33
  go_wp2_with fail
  refine hnd.mono ?_
  rintro e w3 ⟨rfl, hb3⟩
  have HB3 := Lib.hid hb3
  clear hb3 hnd
  go_wp2_with fail
  exact ⟨rfl, fun h => (by change (7 : Int) = 0 at h; cases h), fun _ => (by show _ = Ending.panicked [{ v := stopV 7 t.val, recovered := false }]; rw [HV0.out]), HA.out.m.bl HB3.out, Ch.of_bl (Bl.trans HA.out.bl HB3.out)⟩
set_option maxRecDepth 100000 in
set_option maxHeartbeats 8000000 in
theorem step_cancel_no (c : Mc) (t : RT) (S : RS) (a : Nat) (hb : a < 4) (hv0 : t.val = 0) (hh : t.has a = false) : StepSays c t S ⟨13, a, 0, 0⟩ (t.ends 7, S) := by
  intro w B H hM hE hK
  have HV0 := Lib.hid hv0
  clear hv0
  have hA := At1.of (x := ⟨13, a, 0, 0⟩) hM hE
  have hx := hA.x
  obtain ⟨⟨x0, x1, x2, x3⟩, _⟩ := row4_cells hx
  have hnd := hand_no c t B a H _ hA.e hb hh
  have HA := Lib.hid hA
  have lX := hx.lt
  clear hM hE hA hx hh
  go_enter Tryz.func33, Tryz.ntmps33
  go_wp2_with fail
  refine hnd.mono ?_
  rintro e w3 ⟨rfl, hb3⟩
  have HB3 := Lib.hid hb3
  clear hb3 hnd
  go_wp2_with fail
  exact ⟨rfl, fun h => (by change (7 : Int) = 0 at h; cases h), fun _ => (by show _ = Ending.panicked [{ v := stopV 7 t.val, recovered := false }]; rw [HV0.out]), HA.out.m.bl HB3.out, Ch.of_bl (Bl.trans HA.out.bl HB3.out)⟩
set_option maxRecDepth 100000 in
set_option maxHeartbeats 8000000 in
theorem step_cancel_yes (c : Mc) (t : RT) (S : RS) (a : Nat) (hb : a < 4) (h0 : t.how = 0) (hh : t.has a = true) : StepSays c t S ⟨13, a, 0, 0⟩ (t, S) := by
  intro w B H hM hE hK
  have H0 := Lib.hid h0
  clear h0
  have hA := At1.of (x := ⟨13, a, 0, 0⟩) hM hE
  have hx := hA.x
  obtain ⟨⟨x0, x1, x2, x3⟩, _⟩ := row4_cells hx
  have hnd := hand_yes c t B a H _ hA.e hb hh
  have HA := Lib.hid hA
  have lX := hx.lt
  clear hM hE hA hx hh
  go_enter Tryz.func33, Tryz.ntmps33
  go_wp2_with fail
  refine hnd.mono ?_
  rintro e w3 ⟨rfl, hb3⟩
  have HB3 := Lib.hid hb3
  clear hb3 hnd
  go_wp2_with fail
  refine bodyPost_ret (v := .int .i64 t.place) (by simp [results, Tryz.results33, go_sem]) rfl ⟨fun _ => ⟨rfl, H, HA.out.e.bl HB3.out⟩, fun h => absurd H0.out h, HA.out.m.bl HB3.out, Ch.of_bl (Bl.trans HA.out.bl HB3.out)⟩
end Go.Proofs.YtonndofbnhnkpaaGreat.Evl
