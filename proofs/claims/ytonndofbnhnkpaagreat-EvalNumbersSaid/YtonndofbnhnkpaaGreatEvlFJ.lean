/- The program's package eval: futures. The program's package eval: a future is set; steps that set and get. The program's package eval: steps that set and get; any step but a fork. The program's package eval: a fork. -/
import Derived.Test.YtonndofbnhnkpaaGreatEvlCJ
import Derived.Test.YtonndofbnhnkpaaGreatTabJ
set_option linter.unusedVariables false
set_option linter.unusedSimpArgs false
set_option linter.unusedSectionVars false
namespace Go.Proofs.YtonndofbnhnkpaaGreat.Evl
open Go.RowKit Num KeyM KeyW StatW Blk VmA VmG Prg EvM Rf
theorem im_cells {c : Mc} {w : World} {S : RS} (h : IsM c w S) : w.cell? ⟨c.M, 8, none⟩ = some (.slice (some ⟨c.FB, 0, none⟩) c.futs c.futs) ∧ w.cell? ⟨c.M, 9, none⟩ = some (.slice (some ⟨c.WB, 0, none⟩) c.futs c.futs) ∧ c.M < w.heap.size :=
  ⟨h.row.cell (i := 8) (by omega), h.row.cell (i := 9) (by omega), h.row.lt⟩
def idxf3s : List (Nat × Nat) := [(0, 26), (1, 27), (2, 28), (3, 29), (4, 30), (5, 31), (6, 32), (7, 33), (8, 34), (9, 35), (10, 36), (11, 37), (12, 38), (13, 25)]
def Vf3s (M X WB n a : Nat) (bw : Bool) : Nat → Value := fun sl => match sl with
  | 26 => .pointer (some ⟨X, 0, none⟩)
  | 27 => .int .i64 11
  | 28 => .bool true
  | 29 => .bool true
  | 30 => .pointer (some ⟨M, 5, none⟩)
  | 31 => .pointer (some ⟨M, 5, none⟩)
  | 32 => .pointer (some ⟨M, 9, none⟩)
  | 33 => .slice (some ⟨WB, 0, none⟩) n n
  | 34 => .pointer (some ⟨X, 1, none⟩)
  | 35 => .int .i64 (a : Int)
  | 36 => .pointer (some ⟨WB, a, none⟩)
  | 37 => .bool bw
  | 38 => .bool bw
  | 25 => .bool bw
  | _ => undef
def idxf3g : List (Nat × Nat) := [(0, 26), (1, 27), (2, 28), (3, 29), (4, 30), (5, 31), (6, 32), (7, 33), (8, 34), (9, 35), (10, 36), (11, 37), (12, 38), (13, 25)]
def Vf3g (X : Nat) : Nat → Value := fun sl => match sl with
  | 26 => .pointer (some ⟨X, 0, none⟩)
  | 27 => .int .i64 12
  | 28 => .bool false
  | 29 => .bool false
  | 30 => undef
  | 31 => undef
  | 32 => undef
  | 33 => undef
  | 34 => undef
  | 35 => undef
  | 36 => undef
  | 37 => undef
  | 38 => .bool false
  | 25 => .bool false
  | _ => undef
set_option maxRecDepth 100000 in
set_option maxHeartbeats 8000000 in
theorem fut_set_yes (c : Mc) (t : RT) (S : RS) (a : Nat) (b : Int) (w : World) (B : Nat) (H : Nat → Nat) (hM : IsM c w S) (hE : IsE c w B t H) (ha : a < c.futs) (hw : S.was a = true) :
    Calls Tryz.prog 60 #[.pointer (some ⟨B, 0, none⟩), .agg #[.int .i64 11, .int .i64 a, .int .i64 b, .int .i64 0]] w fun e w' => e = .panicked [{ v := stopV 3 0, recovered := false }] ∧ Bl w w' := by
  have hA := At1.of (x := ⟨11, a, b, 0⟩) hM hE
  have HA := Lib.hid hA
  have lM := hM.row.lt
  have m0 : w.cell? ⟨B, 0, none⟩ = some (.pointer (some ⟨c.M, 0, none⟩)) := hE.row.cell (i := 0) (by omega)
  have lB0 := hE.row.lt
  clear hM hE hA
  go_enter Tryz.func60, Tryz.ntmps60
  go_wp2_with fail
  clear m0 lB0 lM
  refine at_w (fun w1 => At1 c w w1 B w.heap.size t S H ⟨11, a, b, 0⟩) HA.out ?_
  rintro w1 hA1
  generalize w.heap.size = X at *
  have hA2 := hA1.drew
  have HA2 := Lib.hid hA2
  obtain ⟨m8, m9, lM⟩ := im_cells hA2.m
  clear HA hA1
  have wb : w1.drew.cell? ⟨c.WB, a, none⟩ = some (.bool true) := by rw [← hw]; exact hA2.m.was.cell ha
  have lW := hA2.m.was.lt
  clear hw
  refine Tab.region_rdG (by kernel_rfl) idxf3s [(3, 29, true)] [] 78 (Vf3s c.M X c.WB c.futs a true) (by kernel_rfl) (by rfl) (by kernel_rfl) (by intro g hg; simp at hg; subst hg; exact ⟨by decide, rfl⟩) (by intro d hd; cases hd) ?_ ?_
  · intro a' hT
    have r25 : a'.tmps[25]? = some (.bool true) := hT.tab (13, 25) (by decide) rfl
    have r0 : a'.tmps[0]? = some (.pointer (some ⟨B, 0, none⟩)) := (hT.out 0 (by decide)).trans rfl
    obtain ⟨_, r0'⟩ := Array.getElem?_eq_some_iff.1 r0
    have hdf : a'.defers = [] := hT.dfs
    have hsz : a'.tmps.size = 78 := hT.sz.trans rfl
    clear hT hA2 wb
    go_wp2_with fail
    refine wp_cond (t := true) (by show a'.tmps.getD 25 undef = _; rw [Array.getD_eq_getD_getElem?, r25]; rfl) ?_
    simp only [if_true]
    go_wp2_with fail
    refine (stops_any _ _ _).mono ?_
    rintro e w9 ⟨rfl, rfl⟩
    go_wp2_with fail
    exact ⟨rfl, rfl, HA2.out.bl⟩
  · intro i' o L a' K' Q' hT hL ho hd hw hK
    have hi' : i' < 14 := (Array.getElem?_eq_some_iff.1 ho).1
    have HT : Hid (∀ qq ∈ idxf3s, L[qq.1]? = some true → a'.tmps[qq.2]? = some (Vf3s c.M X c.WB c.futs a true qq.2)) := hT.tab
    have a1 : (a : Int) < (c.futs : Int) := by omega
    have a2 : (0 : Int) ≤ (a : Int) := by omega
    obtain ⟨⟨x0, x1, x2, x3⟩, _⟩ := row4_cells hA2.x
    have lB := hA2.e.row.lt
    have lX := hA2.x.lt
    obtain rfl | rfl | rfl | rfl | rfl | rfl | rfl | rfl | rfl | rfl | rfl | rfl | rfl | rfl : i' = 0 ∨ i' = 1 ∨ i' = 2 ∨ i' = 3 ∨ i' = 4 ∨ i' = 5 ∨ i' = 6 ∨ i' = 7 ∨ i' = 8 ∨ i' = 9 ∨ i' = 10 ∨ i' = 11 ∨ i' = 12 ∨ i' = 13 := by omega
    · have s3 : a'.tmps[3]? = some (.pointer (some ⟨X, 0, none⟩)) := (hT.out 3 (by decide)).trans rfl
      cases ho
      clear hd HT hT hw
      go_simp
      exact hK
    · have s26 : a'.tmps[26]? = some (.pointer (some ⟨X, 0, none⟩)) := HT.out (0, 26) (by decide) (by cases ho; exact hd ⟨0, .data⟩ (by simp) rfl)
      cases ho
      clear hd HT hT hw
      go_simp
      exact hK
    · have s27 : a'.tmps[27]? = some (.int .i64 11) := HT.out (1, 27) (by decide) (by cases ho; exact hd ⟨1, .data⟩ (by simp) rfl)
      cases ho
      clear hd HT hT hw
      go_simp
      exact hK
    · have s28 : a'.tmps[28]? = some (.bool true) := HT.out (2, 28) (by decide) (by cases ho; exact hd ⟨2, .data⟩ (by simp) rfl)
      cases ho
      clear hd HT hT hw
      go_simp
      exact hK
    · have s4 : a'.tmps[4]? = some (.pointer (some ⟨c.M, 5, none⟩)) := (hT.out 4 (by decide)).trans rfl
      cases ho
      clear hd HT hT hw
      go_simp
      exact hK
    · have s30 : a'.tmps[30]? = some (.pointer (some ⟨c.M, 5, none⟩)) := HT.out (4, 30) (by decide) (by cases ho; exact hd ⟨4, .data⟩ (by simp) rfl)
      cases ho
      clear hd HT hT hw
      go_simp
      exact hK
    · have s31 : a'.tmps[31]? = some (.pointer (some ⟨c.M, 5, none⟩)) := HT.out (5, 31) (by decide) (by cases ho; exact hd ⟨5, .data⟩ (by simp) rfl)
      cases ho
      clear hd HT hT hw
      go_simp
      exact hK
    · have s32 : a'.tmps[32]? = some (.pointer (some ⟨c.M, 9, none⟩)) := HT.out (6, 32) (by decide) (by cases ho; exact hd ⟨6, .data⟩ (by simp) rfl)
      cases ho
      clear hd HT hT hw
      go_simp
      exact hK
    · have s3 : a'.tmps[3]? = some (.pointer (some ⟨X, 0, none⟩)) := (hT.out 3 (by decide)).trans rfl
      cases ho
      clear hd HT hT hw
      go_simp
      exact hK
    · have s34 : a'.tmps[34]? = some (.pointer (some ⟨X, 1, none⟩)) := HT.out (8, 34) (by decide) (by cases ho; exact hd ⟨8, .data⟩ (by simp) rfl)
      cases ho
      clear hd HT hT hw
      go_simp
      exact hK
    · have s33 : a'.tmps[33]? = some (.slice (some ⟨c.WB, 0, none⟩) c.futs c.futs) := HT.out (7, 33) (by decide) (by cases ho; exact hd ⟨7, .data⟩ (by simp) rfl)
      have s35 : a'.tmps[35]? = some (.int .i64 (a : Int)) := HT.out (9, 35) (by decide) (by cases ho; exact hd ⟨9, .data⟩ (by simp) rfl)
      cases ho
      clear hd HT hT hw
      go_simp
      exact hK
    · have s36 : a'.tmps[36]? = some (.pointer (some ⟨c.WB, a, none⟩)) := HT.out (10, 36) (by decide) (by cases ho; exact hd ⟨10, .data⟩ (by simp) rfl)
      cases ho
      clear hd HT hT hw
      go_simp
      exact hK
    · have s29 : a'.tmps[29]? = some (.bool true) := HT.out (3, 29) (by decide) (by cases ho; exact hd ⟨3, .data⟩ (by simp) rfl)
      have s37 : a'.tmps[37]? = some (.bool true) := HT.out (11, 37) (by decide) (by cases ho; exact hd ⟨11, .data⟩ (by simp) rfl)
      cases ho
      clear hd HT hT hw
      go_simp
      exact hK
    · have s38 : a'.tmps[38]? = some (.bool true) := HT.out (12, 38) (by decide) (by cases ho; exact hd ⟨12, .data⟩ (by simp) rfl)
      cases ho
      clear hd HT hT hw
      go_simp
      exact hK
def idxf7 : List (Nat × Nat) := [(0, 67), (1, 68), (2, 69), (3, 70), (4, 71), (5, 72), (6, 73), (7, 74), (8, 75), (9, 66)]
def Vf7 (M X WB n b : Nat) (bw bn : Bool) : Nat → Value := fun sl => match sl with
  | 67 => .pointer (some ⟨M, 5, none⟩)
  | 68 => .pointer (some ⟨M, 5, none⟩)
  | 69 => .pointer (some ⟨M, 9, none⟩)
  | 70 => .slice (some ⟨WB, 0, none⟩) n n
  | 71 => .pointer (some ⟨X, 2, none⟩)
  | 72 => .int .i64 (b : Int)
  | 73 => .pointer (some ⟨WB, b, none⟩)
  | 74 => .bool bw
  | 75 => .bool bn
  | 66 => .bool bn
  | _ => undef
def idxf2 : List (Nat × Nat) := [(0, 11), (1, 12), (2, 13), (3, 14), (4, 15), (5, 16), (6, 17), (7, 18), (8, 19), (9, 20), (10, 21), (11, 22), (12, 23), (13, 24)]
def Vf2 (M X B FB n a b : Nat) (v : Int) : Nat → Value := fun sl => match sl with
  | 11 => .pointer (some ⟨B, 0, none⟩)
  | 12 => .pointer (some ⟨X, 1, none⟩)
  | 13 => .int .i64 (a : Int)
  | 14 => .pointer (some ⟨M, 5, none⟩)
  | 15 => .pointer (some ⟨M, 5, none⟩)
  | 16 => .pointer (some ⟨M, 8, none⟩)
  | 17 => .slice (some ⟨FB, 0, none⟩) n n
  | 18 => .pointer (some ⟨X, 2, none⟩)
  | 19 => .int .i64 (b : Int)
  | 20 => .pointer (some ⟨FB, b, none⟩)
  | 21 => .int .i64 v
  | 22 => .pointer (some ⟨B, 0, none⟩)
  | 23 => .pointer (some ⟨B, 2, none⟩)
  | 24 => .pointer (some ⟨B, 2 + a, none⟩)
  | _ => undef
set_option maxRecDepth 100000 in
set_option maxHeartbeats 8000000 in
theorem fut_get_no (c : Mc) (t : RT) (S : RS) (a b : Nat) (w : World) (B : Nat) (H : Nat → Nat) (hM : IsM c w S) (hE : IsE c w B t H) (ha : a < 8) (hb : b < c.futs) (hK : c.K ≤ B) (hw : S.was b = false) :
    Calls Tryz.prog 60 #[.pointer (some ⟨B, 0, none⟩), .agg #[.int .i64 12, .int .i64 a, .int .i64 b, .int .i64 0]] w fun e w' => e = .panicked [{ v := stopV 4 0, recovered := false }] ∧ Bl w w' := by
  have hA := At1.of (x := ⟨12, a, b, 0⟩) hM hE
  have HA := Lib.hid hA
  have lM := hM.row.lt
  have m0 : w.cell? ⟨B, 0, none⟩ = some (.pointer (some ⟨c.M, 0, none⟩)) := hE.row.cell (i := 0) (by omega)
  have lB0 := hE.row.lt
  clear hM hE hA
  go_enter Tryz.func60, Tryz.ntmps60
  go_wp2_with fail
  clear m0 lB0 lM
  refine at_w (fun w1 => At1 c w w1 B w.heap.size t S H ⟨12, a, b, 0⟩) HA.out ?_
  rintro w1 hA1
  generalize w.heap.size = X at *
  have hA2 := hA1.drew
  have HA2 := Lib.hid hA2
  obtain ⟨m8, m9, lM⟩ := im_cells hA2.m
  clear HA hA1
  have wb : w1.drew.cell? ⟨c.WB, b, none⟩ = some (.bool false) := by rw [← hw]; exact hA2.m.was.cell hb
  have lW := hA2.m.was.lt
  clear hw
  refine Tab.region_rdG (by kernel_rfl) idxf3g [(3, 29, false)] [30, 31, 32, 33, 34, 35, 36, 37] 78 (Vf3g X) (by kernel_rfl) (by rfl) (by kernel_rfl) (by intro g hg; simp at hg; subst hg; exact ⟨by decide, rfl⟩) (by intro d hd; simp at hd; rcases hd with rfl | rfl | rfl | rfl | rfl | rfl | rfl | rfl <;> rfl) ?_ ?_
  · intro a' hT
    have r25 : a'.tmps[25]? = some (.bool false) := hT.tab (13, 25) (by decide) rfl
    have r0 : a'.tmps[0]? = some (.pointer (some ⟨B, 0, none⟩)) := (hT.out 0 (by decide)).trans rfl
    have r3 : a'.tmps[3]? = some (.pointer (some ⟨X, 0, none⟩)) := (hT.out 3 (by decide)).trans rfl
    have r4 : a'.tmps[4]? = some (.pointer (some ⟨c.M, 5, none⟩)) := (hT.out 4 (by decide)).trans rfl
    obtain ⟨_, r0'⟩ := Array.getElem?_eq_some_iff.1 r0
    obtain ⟨_, r3'⟩ := Array.getElem?_eq_some_iff.1 r3
    obtain ⟨_, r4'⟩ := Array.getElem?_eq_some_iff.1 r4
    have hdf : a'.defers = [] := hT.dfs
    have hsz : a'.tmps.size = 78 := hT.sz.trans rfl
    obtain ⟨⟨x0, x1, x2, x3⟩, _⟩ := row4_cells hA2.x
    clear hT
    go_wp2_with fail
    refine wp_cond (t := false) (by show a'.tmps.getD 25 undef = _; rw [Array.getD_eq_getD_getElem?, r25]; rfl) ?_
    simp only [Bool.false_eq_true, if_false]
    go_wp2_with fail
    refine wp_cond (t := false) (by simp [Act.eval, hsz]) ?_
    simp only [Bool.false_eq_true, if_false]
    go_wp2_with fail
    have hA3 := hA2.drew
    have HA3 := Lib.hid hA3
    obtain ⟨n8, n9, kM⟩ := im_cells hA3.m
    have wb3 : w1.drew.drew.cell? ⟨c.WB, b, none⟩ = some (.bool false) := wb
    refine Tab.region_rd (by kernel_rfl) idxf7 78 (Vf7 c.M X c.WB c.futs b false true) (by kernel_rfl) (by simp [hsz]) (by kernel_rfl) ?_ ?_
    · intro b' hT
      have q66 : b'.tmps[66]? = some (.bool true) := hT.tab (9, 66) (by decide) rfl
      have q0 : b'.tmps[0]? = some (.pointer (some ⟨B, 0, none⟩)) := (hT.out 0 (by decide)).trans (by simp [r0, r0'])
      have q3 : b'.tmps[3]? = some (.pointer (some ⟨X, 0, none⟩)) := (hT.out 3 (by decide)).trans (by simp [r3, r3'])
      have q4 : b'.tmps[4]? = some (.pointer (some ⟨c.M, 5, none⟩)) := (hT.out 4 (by decide)).trans (by simp [r4, r4'])
      obtain ⟨_, q0'⟩ := Array.getElem?_eq_some_iff.1 q0
      obtain ⟨_, q3'⟩ := Array.getElem?_eq_some_iff.1 q3
      obtain ⟨_, q4'⟩ := Array.getElem?_eq_some_iff.1 q4
      have hdf2 : b'.defers = [] := hT.dfs
      have hsz2 : b'.tmps.size = 78 := hT.sz.trans (by simp [hsz])
      clear hT hA2 wb wb3 r25 r0 r3 r4 r0' r3' r4' hsz x0 x1 x2 x3 m8 m9 lM
      go_wp2_with fail
      refine wp_cond (t := true) (by show b'.tmps.getD 66 undef = _; rw [Array.getD_eq_getD_getElem?, q66]; rfl) ?_
      simp only [if_true]
      go_wp2_with fail
      refine (stops_any _ _ _).mono ?_
      rintro e w9 ⟨rfl, rfl⟩
      go_wp2_with fail
      exact ⟨rfl, rfl, HA3.out.bl⟩
    · intro i' o L b' K' Q' hT hL ho hd hold hcl hK'
      have hK := hK'
      have hi' : i' < 10 := (Array.getElem?_eq_some_iff.1 ho).1
      have HT : Hid (∀ qq ∈ idxf7, L[qq.1]? = some true → b'.tmps[qq.2]? = some (Vf7 c.M X c.WB c.futs b false true qq.2)) := hT.tab
      obtain ⟨⟨x0, x1, x2, x3⟩, _⟩ := row4_cells hA3.x
      have lX := hA3.x.lt
      have b1 : (b : Int) < (c.futs : Int) := by omega
      have b2 : (0 : Int) ≤ (b : Int) := by omega
      clear hK'
      obtain rfl | rfl | rfl | rfl | rfl | rfl | rfl | rfl | rfl | rfl : i' = 0 ∨ i' = 1 ∨ i' = 2 ∨ i' = 3 ∨ i' = 4 ∨ i' = 5 ∨ i' = 6 ∨ i' = 7 ∨ i' = 8 ∨ i' = 9 := by omega
      · have s4 : b'.tmps[4]? = some (.pointer (some ⟨c.M, 5, none⟩)) := (hT.out 4 (by decide)).trans (by simp [r4, r4'])
        cases ho
        clear hd HT hT hold hcl
        go_simp
        exact hK
      · have s67 : b'.tmps[67]? = some (.pointer (some ⟨c.M, 5, none⟩)) := HT.out (0, 67) (by decide) (by cases ho; exact hd ⟨0, .data⟩ (by simp) rfl)
        cases ho
        clear hd HT hT hold hcl
        go_simp
        exact hK
      · have s68 : b'.tmps[68]? = some (.pointer (some ⟨c.M, 5, none⟩)) := HT.out (1, 68) (by decide) (by cases ho; exact hd ⟨1, .data⟩ (by simp) rfl)
        cases ho
        clear hd HT hT hold hcl
        go_simp
        exact hK
      · have s69 : b'.tmps[69]? = some (.pointer (some ⟨c.M, 9, none⟩)) := HT.out (2, 69) (by decide) (by cases ho; exact hd ⟨2, .data⟩ (by simp) rfl)
        cases ho
        clear hd HT hT hold hcl
        go_simp
        exact hK
      · have s3 : b'.tmps[3]? = some (.pointer (some ⟨X, 0, none⟩)) := (hT.out 3 (by decide)).trans (by simp [r3, r3'])
        cases ho
        clear hd HT hT hold hcl
        go_simp
        exact hK
      · have s71 : b'.tmps[71]? = some (.pointer (some ⟨X, 2, none⟩)) := HT.out (4, 71) (by decide) (by cases ho; exact hd ⟨4, .data⟩ (by simp) rfl)
        cases ho
        clear hd HT hT hold hcl
        go_simp
        exact hK
      · have s70 : b'.tmps[70]? = some (.slice (some ⟨c.WB, 0, none⟩) c.futs c.futs) := HT.out (3, 70) (by decide) (by cases ho; exact hd ⟨3, .data⟩ (by simp) rfl)
        have s72 : b'.tmps[72]? = some (.int .i64 (b : Int)) := HT.out (5, 72) (by decide) (by cases ho; exact hd ⟨5, .data⟩ (by simp) rfl)
        cases ho
        clear hd HT hT hold hcl
        go_simp
        exact hK
      · have s73 : b'.tmps[73]? = some (.pointer (some ⟨c.WB, b, none⟩)) := HT.out (6, 73) (by decide) (by cases ho; exact hd ⟨6, .data⟩ (by simp) rfl)
        cases ho
        clear hd HT hT hold hcl
        go_simp
        exact hK
      · have s74 : b'.tmps[74]? = some (.bool false) := HT.out (7, 74) (by decide) (by cases ho; exact hd ⟨7, .data⟩ (by simp) rfl)
        cases ho
        clear hd HT hT hold hcl
        go_simp
        exact hK
      · have s75 : b'.tmps[75]? = some (.bool true) := HT.out (8, 75) (by decide) (by cases ho; exact hd ⟨8, .data⟩ (by simp) rfl)
        cases ho
        clear hd HT hT hold hcl
        go_simp
        exact hK
  · intro i' o L a' K' Q' hT hL ho hd hw hK
    have hi' : i' < 14 := (Array.getElem?_eq_some_iff.1 ho).1
    have HT : Hid (∀ qq ∈ idxf3g, L[qq.1]? = some true → a'.tmps[qq.2]? = some (Vf3g X qq.2)) := hT.tab
    obtain ⟨⟨x0, x1, x2, x3⟩, _⟩ := row4_cells hA2.x
    have lB := hA2.e.row.lt
    have lX := hA2.x.lt
    obtain rfl | rfl | rfl | rfl | rfl | rfl | rfl | rfl | rfl | rfl | rfl | rfl | rfl | rfl : i' = 0 ∨ i' = 1 ∨ i' = 2 ∨ i' = 3 ∨ i' = 4 ∨ i' = 5 ∨ i' = 6 ∨ i' = 7 ∨ i' = 8 ∨ i' = 9 ∨ i' = 10 ∨ i' = 11 ∨ i' = 12 ∨ i' = 13 := by omega
    · have s3 : a'.tmps[3]? = some (.pointer (some ⟨X, 0, none⟩)) := (hT.out 3 (by decide)).trans rfl
      cases ho
      clear hd HT hT hw
      go_simp
      exact hK
    · have s26 : a'.tmps[26]? = some (.pointer (some ⟨X, 0, none⟩)) := HT.out (0, 26) (by decide) (by cases ho; exact hd ⟨0, .data⟩ (by simp) rfl)
      cases ho
      clear hd HT hT hw
      go_simp
      exact hK
    · have s27 : a'.tmps[27]? = some (.int .i64 12) := HT.out (1, 27) (by decide) (by cases ho; exact hd ⟨1, .data⟩ (by simp) rfl)
      cases ho
      clear hd HT hT hw
      go_simp
      exact hK
    · have s28 : a'.tmps[28]? = some (.bool false) := HT.out (2, 28) (by decide) (by cases ho; exact hd ⟨2, .data⟩ (by simp) rfl)
      cases ho
      clear hd HT hT hw
      go_simp
      exact hK
    · have s29 : a'.tmps[29]? = some (.bool false) := HT.out (3, 29) (by decide) (by cases ho; exact hd ⟨3, .guard⟩ (by simp) rfl)
      cases ho
      exfalso; revert hw; simp [Region.wanted, yielded, s29]
    · have s29 : a'.tmps[29]? = some (.bool false) := HT.out (3, 29) (by decide) (by cases ho; exact hd ⟨3, .guard⟩ (by simp) rfl)
      cases ho
      exfalso; revert hw; simp [Region.wanted, yielded, s29]
    · have s29 : a'.tmps[29]? = some (.bool false) := HT.out (3, 29) (by decide) (by cases ho; exact hd ⟨3, .guard⟩ (by simp) rfl)
      cases ho
      exfalso; revert hw; simp [Region.wanted, yielded, s29]
    · have s29 : a'.tmps[29]? = some (.bool false) := HT.out (3, 29) (by decide) (by cases ho; exact hd ⟨3, .guard⟩ (by simp) rfl)
      cases ho
      exfalso; revert hw; simp [Region.wanted, yielded, s29]
    · have s29 : a'.tmps[29]? = some (.bool false) := HT.out (3, 29) (by decide) (by cases ho; exact hd ⟨3, .guard⟩ (by simp) rfl)
      cases ho
      exfalso; revert hw; simp [Region.wanted, yielded, s29]
    · have s29 : a'.tmps[29]? = some (.bool false) := HT.out (3, 29) (by decide) (by cases ho; exact hd ⟨3, .guard⟩ (by simp) rfl)
      cases ho
      exfalso; revert hw; simp [Region.wanted, yielded, s29]
    · have s29 : a'.tmps[29]? = some (.bool false) := HT.out (3, 29) (by decide) (by cases ho; exact hd ⟨3, .guard⟩ (by simp) rfl)
      cases ho
      exfalso; revert hw; simp [Region.wanted, yielded, s29]
    · have s29 : a'.tmps[29]? = some (.bool false) := HT.out (3, 29) (by decide) (by cases ho; exact hd ⟨3, .guard⟩ (by simp) rfl)
      cases ho
      exfalso; revert hw; simp [Region.wanted, yielded, s29]
    · have s29 : a'.tmps[29]? = some (.bool false) := HT.out (3, 29) (by decide) (by cases ho; exact hd ⟨3, .data⟩ (by simp) rfl)
      have s37 : a'.tmps[37]? = some (undef) := HT.out (11, 37) (by decide) (by cases ho; exact hd ⟨11, .data⟩ (by simp) rfl)
      cases ho
      clear hd HT hT hw
      go_simp
      exact hK
    · have s38 : a'.tmps[38]? = some (.bool false) := HT.out (12, 38) (by decide) (by cases ho; exact hd ⟨12, .data⟩ (by simp) rfl)
      cases ho
      clear hd HT hT hw
      go_simp
      exact hK
theorem bodyPost_none {R : Ending → World → Prop} {d' : Act} {w' : World} (hd : d'.defers = []) (h : R (.returned (.tuple #[])) w') : bodyPost Tryz.prog Tryz.f60 R Exit.normal d' w' := by
  simp only [bodyPost]
  exact ⟨hd, _, by simp [results, Tryz.results60, go_sem], h⟩
set_option maxRecDepth 100000 in
set_option maxHeartbeats 8000000 in
theorem fut_get_yes (c : Mc) (t : RT) (S : RS) (a b : Nat) (w : World) (B : Nat) (H : Nat → Nat) (hM : IsM c w S) (hE : IsE c w B t H) (ha : a < 8) (hb : b < c.futs) (hK : c.K ≤ B) (hw : S.was b = true) :
    Calls Tryz.prog 60 #[.pointer (some ⟨B, 0, none⟩), .agg #[.int .i64 12, .int .i64 a, .int .i64 b, .int .i64 0]] w fun e w' => e = .returned (.tuple #[]) ∧ IsE c w' B (t.setReg a (S.futs b)) H ∧ IsM c w' S ∧ Ch (fun k => Mvs c k ∨ k = B) w w' := by
  have hA := At1.of (x := ⟨12, a, b, 0⟩) hM hE
  have HA := Lib.hid hA
  have lM := hM.row.lt
  have m0 : w.cell? ⟨B, 0, none⟩ = some (.pointer (some ⟨c.M, 0, none⟩)) := hE.row.cell (i := 0) (by omega)
  have lB0 := hE.row.lt
  clear hM hE hA
  go_enter Tryz.func60, Tryz.ntmps60
  go_wp2_with fail
  clear m0 lB0 lM
  refine at_w (fun w1 => At1 c w w1 B w.heap.size t S H ⟨12, a, b, 0⟩) HA.out ?_
  rintro w1 hA1
  generalize w.heap.size = X at *
  have hA2 := hA1.drew
  have HA2 := Lib.hid hA2
  obtain ⟨m8, m9, lM⟩ := im_cells hA2.m
  clear HA hA1
  have wb : w1.drew.cell? ⟨c.WB, b, none⟩ = some (.bool true) := by rw [← hw]; exact hA2.m.was.cell hb
  have lW := hA2.m.was.lt
  clear hw
  refine Tab.region_rdG (by kernel_rfl) idxf3g [(3, 29, false)] [30, 31, 32, 33, 34, 35, 36, 37] 78 (Vf3g X) (by kernel_rfl) (by rfl) (by kernel_rfl) (by intro g hg; simp at hg; subst hg; exact ⟨by decide, rfl⟩) (by intro d hd; simp at hd; rcases hd with rfl | rfl | rfl | rfl | rfl | rfl | rfl | rfl <;> rfl) ?_ ?_
  · intro a' hT
    have r25 : a'.tmps[25]? = some (.bool false) := hT.tab (13, 25) (by decide) rfl
    have r0 : a'.tmps[0]? = some (.pointer (some ⟨B, 0, none⟩)) := (hT.out 0 (by decide)).trans rfl
    have r3 : a'.tmps[3]? = some (.pointer (some ⟨X, 0, none⟩)) := (hT.out 3 (by decide)).trans rfl
    have r4 : a'.tmps[4]? = some (.pointer (some ⟨c.M, 5, none⟩)) := (hT.out 4 (by decide)).trans rfl
    obtain ⟨_, r0'⟩ := Array.getElem?_eq_some_iff.1 r0
    obtain ⟨_, r3'⟩ := Array.getElem?_eq_some_iff.1 r3
    obtain ⟨_, r4'⟩ := Array.getElem?_eq_some_iff.1 r4
    have hdf : a'.defers = [] := hT.dfs
    have hsz : a'.tmps.size = 78 := hT.sz.trans rfl
    obtain ⟨⟨x0, x1, x2, x3⟩, _⟩ := row4_cells hA2.x
    clear hT
    go_wp2_with fail
    refine wp_cond (t := false) (by show a'.tmps.getD 25 undef = _; rw [Array.getD_eq_getD_getElem?, r25]; rfl) ?_
    simp only [Bool.false_eq_true, if_false]
    go_wp2_with fail
    refine wp_cond (t := false) (by simp [Act.eval, hsz]) ?_
    simp only [Bool.false_eq_true, if_false]
    go_wp2_with fail
    have hA3 := hA2.drew
    have HA3 := Lib.hid hA3
    obtain ⟨n8, n9, kM⟩ := im_cells hA3.m
    have wb3 : w1.drew.drew.cell? ⟨c.WB, b, none⟩ = some (.bool true) := wb
    refine Tab.region_rd (by kernel_rfl) idxf7 78 (Vf7 c.M X c.WB c.futs b true false) (by kernel_rfl) (by simp [hsz]) (by kernel_rfl) ?_ ?_
    · intro b' hT
      have q66 : b'.tmps[66]? = some (.bool false) := hT.tab (9, 66) (by decide) rfl
      have q0 : b'.tmps[0]? = some (.pointer (some ⟨B, 0, none⟩)) := (hT.out 0 (by decide)).trans (by simp [r0, r0'])
      have q3 : b'.tmps[3]? = some (.pointer (some ⟨X, 0, none⟩)) := (hT.out 3 (by decide)).trans (by simp [r3, r3'])
      have q4 : b'.tmps[4]? = some (.pointer (some ⟨c.M, 5, none⟩)) := (hT.out 4 (by decide)).trans (by simp [r4, r4'])
      obtain ⟨_, q0'⟩ := Array.getElem?_eq_some_iff.1 q0
      obtain ⟨_, q3'⟩ := Array.getElem?_eq_some_iff.1 q3
      obtain ⟨_, q4'⟩ := Array.getElem?_eq_some_iff.1 q4
      have hdf2 : b'.defers = [] := hT.dfs
      have hsz2 : b'.tmps.size = 78 := hT.sz.trans (by simp [hsz])
      clear hT hA2 wb wb3 r25 r0 r3 r4 r0' r3' r4' hsz x0 x1 x2 x3 m8 m9 lM
      go_wp2_with fail
      refine wp_cond (t := false) (by show b'.tmps.getD 66 undef = _; rw [Array.getD_eq_getD_getElem?, q66]; rfl) ?_
      simp only [Bool.false_eq_true, if_false]
      go_wp2_with fail
      have hA4 := HA3.out.drew
      obtain ⟨m8, m9, lM⟩ := im_cells hA4.m
      refine Tab.region_rs (by kernel_rfl) idxf2 78 (Vf2 c.M X B c.FB c.futs a b (S.futs b)) 14 (w1.drew.drew.drew.setCell ⟨B, 2 + a, none⟩ (.int .i64 (S.futs b))) (by kernel_rfl) (by simp [hsz2]) (by kernel_rfl) (by kernel_rfl) ?_ ?_
      · intro d' hT
        have hdf3 : d'.defers = [] := by first | exact hT.dfs | exact hT.dfs.trans hdf2
        have hE2 := hA4.e.setReg a ha (S.futs b)
        have hM2 : IsM c (w1.drew.drew.drew.setCell ⟨B, 2 + a, none⟩ (.int .i64 (S.futs b))) S := hA4.m.on hA4.e.row (by decide) (by decide) (by decide) hK ((Ch.refl _ _).setB _)
        have hC2 : Ch (fun k => Mvs c k ∨ k = B) w (w1.drew.drew.drew.setCell ⟨B, 2 + a, none⟩ (.int .i64 (S.futs b))) := hA4.ch.set (Or.inl (Or.inr rfl)) _
        clear hT hA4 m8 m9 lM q66 q0 q3 q4 q0' q3' q4' n8 n9 kM
        go_wp2_with fail
        exact bodyPost_none hdf3 ⟨rfl, hE2, hM2, hC2⟩
      · intro i' o L d' K' Q' hT hL ho hd hold hcl hK'
        have hK := hK'
        have hi' : i' < 15 := (Array.getElem?_eq_some_iff.1 ho).1
        have HT : Hid (∀ qq ∈ idxf2, L[qq.1]? = some true → d'.tmps[qq.2]? = some (Vf2 c.M X B c.FB c.futs a b (S.futs b) qq.2)) := hT.tab
        obtain ⟨⟨x0, x1, x2, x3⟩, _⟩ := row4_cells hA4.x
        have lX := hA4.x.lt
        have lB := hA4.e.row.lt
        have fb : w1.drew.drew.drew.cell? ⟨c.FB, b, none⟩ = some (.int .i64 (S.futs b)) := hA4.m.fut.cell hb
        have lF := hA4.m.fut.lt
        have e1 := ec_reg hA4.e ha
        have f1 := hA4.e.row.frozen (2 + a)
        have a1 : (a : Int) < 8 := by omega
        have a2 : (0 : Int) ≤ (a : Int) := by omega
        have b1 : (b : Int) < (c.futs : Int) := by omega
        have b2 : (0 : Int) ≤ (b : Int) := by omega
        clear hK'
        obtain rfl | rfl | rfl | rfl | rfl | rfl | rfl | rfl | rfl | rfl | rfl | rfl | rfl | rfl | rfl : i' = 0 ∨ i' = 1 ∨ i' = 2 ∨ i' = 3 ∨ i' = 4 ∨ i' = 5 ∨ i' = 6 ∨ i' = 7 ∨ i' = 8 ∨ i' = 9 ∨ i' = 10 ∨ i' = 11 ∨ i' = 12 ∨ i' = 13 ∨ i' = 14 := by omega
        · have s0 : d'.tmps[0]? = some (.pointer (some ⟨B, 0, none⟩)) := (hT.out 0 (by decide)).trans (by first | exact q0 | simp [q0, q0'])
          cases ho
          clear hd HT hT hold hcl
          go_simp
          exact hK
        · have s3 : d'.tmps[3]? = some (.pointer (some ⟨X, 0, none⟩)) := (hT.out 3 (by decide)).trans (by first | exact q3 | simp [q3, q3'])
          cases ho
          clear hd HT hT hold hcl
          go_simp
          exact hK
        · have s12 : d'.tmps[12]? = some (.pointer (some ⟨X, 1, none⟩)) := HT.out (1, 12) (by decide) (by cases ho; exact hd ⟨1, .data⟩ (by simp) rfl)
          cases ho
          clear hd HT hT hold hcl
          go_simp
          exact hK
        · have s4 : d'.tmps[4]? = some (.pointer (some ⟨c.M, 5, none⟩)) := (hT.out 4 (by decide)).trans (by first | exact q4 | simp [q4, q4'])
          cases ho
          clear hd HT hT hold hcl
          go_simp
          exact hK
        · have s14 : d'.tmps[14]? = some (.pointer (some ⟨c.M, 5, none⟩)) := HT.out (3, 14) (by decide) (by cases ho; exact hd ⟨3, .data⟩ (by simp) rfl)
          cases ho
          clear hd HT hT hold hcl
          go_simp
          exact hK
        · have s15 : d'.tmps[15]? = some (.pointer (some ⟨c.M, 5, none⟩)) := HT.out (4, 15) (by decide) (by cases ho; exact hd ⟨4, .data⟩ (by simp) rfl)
          cases ho
          clear hd HT hT hold hcl
          go_simp
          exact hK
        · have s16 : d'.tmps[16]? = some (.pointer (some ⟨c.M, 8, none⟩)) := HT.out (5, 16) (by decide) (by cases ho; exact hd ⟨5, .data⟩ (by simp) rfl)
          cases ho
          clear hd HT hT hold hcl
          go_simp
          exact hK
        · have s3 : d'.tmps[3]? = some (.pointer (some ⟨X, 0, none⟩)) := (hT.out 3 (by decide)).trans (by first | exact q3 | simp [q3, q3'])
          cases ho
          clear hd HT hT hold hcl
          go_simp
          exact hK
        · have s18 : d'.tmps[18]? = some (.pointer (some ⟨X, 2, none⟩)) := HT.out (7, 18) (by decide) (by cases ho; exact hd ⟨7, .data⟩ (by simp) rfl)
          cases ho
          clear hd HT hT hold hcl
          go_simp
          exact hK
        · have s17 : d'.tmps[17]? = some (.slice (some ⟨c.FB, 0, none⟩) c.futs c.futs) := HT.out (6, 17) (by decide) (by cases ho; exact hd ⟨6, .data⟩ (by simp) rfl)
          have s19 : d'.tmps[19]? = some (.int .i64 (b : Int)) := HT.out (8, 19) (by decide) (by cases ho; exact hd ⟨8, .data⟩ (by simp) rfl)
          cases ho
          clear hd HT hT hold hcl
          go_simp
          exact hK
        · have s20 : d'.tmps[20]? = some (.pointer (some ⟨c.FB, b, none⟩)) := HT.out (9, 20) (by decide) (by cases ho; exact hd ⟨9, .data⟩ (by simp) rfl)
          cases ho
          clear hd HT hT hold hcl
          go_simp
          exact hK
        · have s11 : d'.tmps[11]? = some (.pointer (some ⟨B, 0, none⟩)) := HT.out (0, 11) (by decide) (by cases ho; exact hd ⟨0, .data⟩ (by simp) rfl)
          cases ho
          clear hd HT hT hold hcl
          go_simp
          exact hK
        · have s22 : d'.tmps[22]? = some (.pointer (some ⟨B, 0, none⟩)) := HT.out (11, 22) (by decide) (by cases ho; exact hd ⟨11, .data⟩ (by simp) rfl)
          cases ho
          clear hd HT hT hold hcl
          go_simp
          exact hK
        · have s23 : d'.tmps[23]? = some (.pointer (some ⟨B, 2, none⟩)) := HT.out (12, 23) (by decide) (by cases ho; exact hd ⟨12, .data⟩ (by simp) rfl)
          have s13 : d'.tmps[13]? = some (.int .i64 (a : Int)) := HT.out (2, 13) (by decide) (by cases ho; exact hd ⟨2, .data⟩ (by simp) rfl)
          cases ho
          clear hd HT hT hold hcl
          go_simp
          exact hK
        · have s24 : d'.tmps[24]? = some (.pointer (some ⟨B, 2 + a, none⟩)) := HT.out (13, 24) (by decide) (by cases ho; exact hd ⟨13, .data⟩ (by simp) rfl)
          have s21 : d'.tmps[21]? = some (.int .i64 (S.futs b)) := HT.out (10, 21) (by decide) (by cases ho; exact hd ⟨10, .data⟩ (by simp) rfl)
          cases ho
          clear hd HT hT hold hcl
          go_simp
          exact hK
    · intro i' o L b' K' Q' hT hL ho hd hold hcl hK'
      have hK := hK'
      have hi' : i' < 10 := (Array.getElem?_eq_some_iff.1 ho).1
      have HT : Hid (∀ qq ∈ idxf7, L[qq.1]? = some true → b'.tmps[qq.2]? = some (Vf7 c.M X c.WB c.futs b true false qq.2)) := hT.tab
      obtain ⟨⟨x0, x1, x2, x3⟩, _⟩ := row4_cells hA3.x
      have lX := hA3.x.lt
      have b1 : (b : Int) < (c.futs : Int) := by omega
      have b2 : (0 : Int) ≤ (b : Int) := by omega
      clear hK'
      obtain rfl | rfl | rfl | rfl | rfl | rfl | rfl | rfl | rfl | rfl : i' = 0 ∨ i' = 1 ∨ i' = 2 ∨ i' = 3 ∨ i' = 4 ∨ i' = 5 ∨ i' = 6 ∨ i' = 7 ∨ i' = 8 ∨ i' = 9 := by omega
      · have s4 : b'.tmps[4]? = some (.pointer (some ⟨c.M, 5, none⟩)) := (hT.out 4 (by decide)).trans (by simp [r4, r4'])
        cases ho
        clear hd HT hT hold hcl
        go_simp
        exact hK
      · have s67 : b'.tmps[67]? = some (.pointer (some ⟨c.M, 5, none⟩)) := HT.out (0, 67) (by decide) (by cases ho; exact hd ⟨0, .data⟩ (by simp) rfl)
        cases ho
        clear hd HT hT hold hcl
        go_simp
        exact hK
      · have s68 : b'.tmps[68]? = some (.pointer (some ⟨c.M, 5, none⟩)) := HT.out (1, 68) (by decide) (by cases ho; exact hd ⟨1, .data⟩ (by simp) rfl)
        cases ho
        clear hd HT hT hold hcl
        go_simp
        exact hK
      · have s69 : b'.tmps[69]? = some (.pointer (some ⟨c.M, 9, none⟩)) := HT.out (2, 69) (by decide) (by cases ho; exact hd ⟨2, .data⟩ (by simp) rfl)
        cases ho
        clear hd HT hT hold hcl
        go_simp
        exact hK
      · have s3 : b'.tmps[3]? = some (.pointer (some ⟨X, 0, none⟩)) := (hT.out 3 (by decide)).trans (by simp [r3, r3'])
        cases ho
        clear hd HT hT hold hcl
        go_simp
        exact hK
      · have s71 : b'.tmps[71]? = some (.pointer (some ⟨X, 2, none⟩)) := HT.out (4, 71) (by decide) (by cases ho; exact hd ⟨4, .data⟩ (by simp) rfl)
        cases ho
        clear hd HT hT hold hcl
        go_simp
        exact hK
      · have s70 : b'.tmps[70]? = some (.slice (some ⟨c.WB, 0, none⟩) c.futs c.futs) := HT.out (3, 70) (by decide) (by cases ho; exact hd ⟨3, .data⟩ (by simp) rfl)
        have s72 : b'.tmps[72]? = some (.int .i64 (b : Int)) := HT.out (5, 72) (by decide) (by cases ho; exact hd ⟨5, .data⟩ (by simp) rfl)
        cases ho
        clear hd HT hT hold hcl
        go_simp
        exact hK
      · have s73 : b'.tmps[73]? = some (.pointer (some ⟨c.WB, b, none⟩)) := HT.out (6, 73) (by decide) (by cases ho; exact hd ⟨6, .data⟩ (by simp) rfl)
        cases ho
        clear hd HT hT hold hcl
        go_simp
        exact hK
      · have s74 : b'.tmps[74]? = some (.bool true) := HT.out (7, 74) (by decide) (by cases ho; exact hd ⟨7, .data⟩ (by simp) rfl)
        cases ho
        clear hd HT hT hold hcl
        go_simp
        exact hK
      · have s75 : b'.tmps[75]? = some (.bool false) := HT.out (8, 75) (by decide) (by cases ho; exact hd ⟨8, .data⟩ (by simp) rfl)
        cases ho
        clear hd HT hT hold hcl
        go_simp
        exact hK
  · intro i' o L a' K' Q' hT hL ho hd hw hK
    have hi' : i' < 14 := (Array.getElem?_eq_some_iff.1 ho).1
    have HT : Hid (∀ qq ∈ idxf3g, L[qq.1]? = some true → a'.tmps[qq.2]? = some (Vf3g X qq.2)) := hT.tab
    obtain ⟨⟨x0, x1, x2, x3⟩, _⟩ := row4_cells hA2.x
    have lB := hA2.e.row.lt
    have lX := hA2.x.lt
    obtain rfl | rfl | rfl | rfl | rfl | rfl | rfl | rfl | rfl | rfl | rfl | rfl | rfl | rfl : i' = 0 ∨ i' = 1 ∨ i' = 2 ∨ i' = 3 ∨ i' = 4 ∨ i' = 5 ∨ i' = 6 ∨ i' = 7 ∨ i' = 8 ∨ i' = 9 ∨ i' = 10 ∨ i' = 11 ∨ i' = 12 ∨ i' = 13 := by omega
    · have s3 : a'.tmps[3]? = some (.pointer (some ⟨X, 0, none⟩)) := (hT.out 3 (by decide)).trans rfl
      cases ho
      clear hd HT hT hw
      go_simp
      exact hK
    · have s26 : a'.tmps[26]? = some (.pointer (some ⟨X, 0, none⟩)) := HT.out (0, 26) (by decide) (by cases ho; exact hd ⟨0, .data⟩ (by simp) rfl)
      cases ho
      clear hd HT hT hw
      go_simp
      exact hK
    · have s27 : a'.tmps[27]? = some (.int .i64 12) := HT.out (1, 27) (by decide) (by cases ho; exact hd ⟨1, .data⟩ (by simp) rfl)
      cases ho
      clear hd HT hT hw
      go_simp
      exact hK
    · have s28 : a'.tmps[28]? = some (.bool false) := HT.out (2, 28) (by decide) (by cases ho; exact hd ⟨2, .data⟩ (by simp) rfl)
      cases ho
      clear hd HT hT hw
      go_simp
      exact hK
    · have s29 : a'.tmps[29]? = some (.bool false) := HT.out (3, 29) (by decide) (by cases ho; exact hd ⟨3, .guard⟩ (by simp) rfl)
      cases ho
      exfalso; revert hw; simp [Region.wanted, yielded, s29]
    · have s29 : a'.tmps[29]? = some (.bool false) := HT.out (3, 29) (by decide) (by cases ho; exact hd ⟨3, .guard⟩ (by simp) rfl)
      cases ho
      exfalso; revert hw; simp [Region.wanted, yielded, s29]
    · have s29 : a'.tmps[29]? = some (.bool false) := HT.out (3, 29) (by decide) (by cases ho; exact hd ⟨3, .guard⟩ (by simp) rfl)
      cases ho
      exfalso; revert hw; simp [Region.wanted, yielded, s29]
    · have s29 : a'.tmps[29]? = some (.bool false) := HT.out (3, 29) (by decide) (by cases ho; exact hd ⟨3, .guard⟩ (by simp) rfl)
      cases ho
      exfalso; revert hw; simp [Region.wanted, yielded, s29]
    · have s29 : a'.tmps[29]? = some (.bool false) := HT.out (3, 29) (by decide) (by cases ho; exact hd ⟨3, .guard⟩ (by simp) rfl)
      cases ho
      exfalso; revert hw; simp [Region.wanted, yielded, s29]
    · have s29 : a'.tmps[29]? = some (.bool false) := HT.out (3, 29) (by decide) (by cases ho; exact hd ⟨3, .guard⟩ (by simp) rfl)
      cases ho
      exfalso; revert hw; simp [Region.wanted, yielded, s29]
    · have s29 : a'.tmps[29]? = some (.bool false) := HT.out (3, 29) (by decide) (by cases ho; exact hd ⟨3, .guard⟩ (by simp) rfl)
      cases ho
      exfalso; revert hw; simp [Region.wanted, yielded, s29]
    · have s29 : a'.tmps[29]? = some (.bool false) := HT.out (3, 29) (by decide) (by cases ho; exact hd ⟨3, .guard⟩ (by simp) rfl)
      cases ho
      exfalso; revert hw; simp [Region.wanted, yielded, s29]
    · have s29 : a'.tmps[29]? = some (.bool false) := HT.out (3, 29) (by decide) (by cases ho; exact hd ⟨3, .data⟩ (by simp) rfl)
      have s37 : a'.tmps[37]? = some (undef) := HT.out (11, 37) (by decide) (by cases ho; exact hd ⟨11, .data⟩ (by simp) rfl)
      cases ho
      clear hd HT hT hw
      go_simp
      exact hK
    · have s38 : a'.tmps[38]? = some (.bool false) := HT.out (12, 38) (by decide) (by cases ho; exact hd ⟨12, .data⟩ (by simp) rfl)
      cases ho
      clear hd HT hT hw
      go_simp
      exact hK
end Go.Proofs.YtonndofbnhnkpaaGreat.Evl
namespace Go.Proofs.YtonndofbnhnkpaaGreat.Evl
open Go.RowKit Num KeyM KeyW StatW Blk VmA VmG Prg EvM Rf
def idxf6 : List (Nat × Nat) := [(0, 45), (1, 46), (2, 47), (3, 48), (4, 49), (5, 50), (6, 51), (7, 52), (8, 53), (9, 54), (10, 55), (11, 56), (12, 57), (13, 58), (14, 59), (15, 60), (16, 61), (17, 62), (18, 63), (19, 64), (21, 65)]
def Vf6 (M X B FB WB n a b : Nat) (v : Int) : Nat → Value := fun sl => match sl with
  | 45 => .pointer (some ⟨M, 5, none⟩)
  | 46 => .pointer (some ⟨M, 5, none⟩)
  | 47 => .pointer (some ⟨M, 8, none⟩)
  | 48 => .slice (some ⟨FB, 0, none⟩) n n
  | 49 => .pointer (some ⟨X, 1, none⟩)
  | 50 => .int .i64 (a : Int)
  | 51 => .pointer (some ⟨M, 5, none⟩)
  | 52 => .pointer (some ⟨M, 5, none⟩)
  | 53 => .pointer (some ⟨M, 9, none⟩)
  | 54 => .slice (some ⟨WB, 0, none⟩) n n
  | 55 => .pointer (some ⟨X, 1, none⟩)
  | 56 => .int .i64 (a : Int)
  | 57 => .pointer (some ⟨B, 0, none⟩)
  | 58 => .pointer (some ⟨X, 2, none⟩)
  | 59 => .int .i64 (b : Int)
  | 60 => .pointer (some ⟨B, 0, none⟩)
  | 61 => .pointer (some ⟨B, 2, none⟩)
  | 62 => .pointer (some ⟨B, 2 + b, none⟩)
  | 63 => .int .i64 v
  | 64 => .pointer (some ⟨FB, a, none⟩)
  | 65 => .pointer (some ⟨WB, a, none⟩)
  | _ => undef
theorem bodyPost_none6 {R : Ending → World → Prop} {d' : Act} {w' : World} (hd : d'.defers = []) (h : R (.returned (.tuple #[])) w') : bodyPost Tryz.prog Tryz.f60 R Exit.normal d' w' := by
  simp only [bodyPost]
  exact ⟨hd, _, by simp [results, Tryz.results60, go_sem], h⟩
set_option maxRecDepth 100000 in
set_option maxHeartbeats 8000000 in
theorem fut_set_no (c : Mc) (t : RT) (S : RS) (a b : Nat) (w : World) (B : Nat) (H : Nat → Nat) (hM : IsM c w S) (hE : IsE c w B t H) (ha : a < c.futs) (hb : b < 8) (hw : S.was a = false) :
    Calls Tryz.prog 60 #[.pointer (some ⟨B, 0, none⟩), .agg #[.int .i64 11, .int .i64 a, .int .i64 b, .int .i64 0]] w fun e w' => e = .returned (.tuple #[]) ∧ IsE c w' B t H ∧ IsM c w' { S with was := EvM.upd S.was a true, futs := EvM.upd S.futs a (t.regs b) } ∧ Ch (Mvs c) w w' := by
  have hA := At1.of (x := ⟨11, a, b, 0⟩) hM hE
  have HA := Lib.hid hA
  have lM := hM.row.lt
  have m0 : w.cell? ⟨B, 0, none⟩ = some (.pointer (some ⟨c.M, 0, none⟩)) := hE.row.cell (i := 0) (by omega)
  have lB0 := hE.row.lt
  clear hM hE hA
  go_enter Tryz.func60, Tryz.ntmps60
  go_wp2_with fail
  clear m0 lB0 lM
  refine at_w (fun w1 => At1 c w w1 B w.heap.size t S H ⟨11, a, b, 0⟩) HA.out ?_
  rintro w1 hA1
  generalize w.heap.size = X at *
  have hA2 := hA1.drew
  have HA2 := Lib.hid hA2
  obtain ⟨m8, m9, lM⟩ := im_cells hA2.m
  clear HA hA1
  have wb : w1.drew.cell? ⟨c.WB, a, none⟩ = some (.bool false) := by rw [← hw]; exact hA2.m.was.cell ha
  have lW := hA2.m.was.lt
  clear hw
  refine Tab.region_rdG (by kernel_rfl) idxf3s [(3, 29, true)] [] 78 (Vf3s c.M X c.WB c.futs a false) (by kernel_rfl) (by rfl) (by kernel_rfl) (by intro g hg; simp at hg; subst hg; exact ⟨by decide, rfl⟩) (by intro d hd; cases hd) ?_ ?_
  · intro a' hT
    have r25 : a'.tmps[25]? = some (.bool false) := hT.tab (13, 25) (by decide) rfl
    have r0 : a'.tmps[0]? = some (.pointer (some ⟨B, 0, none⟩)) := (hT.out 0 (by decide)).trans rfl
    have r3 : a'.tmps[3]? = some (.pointer (some ⟨X, 0, none⟩)) := (hT.out 3 (by decide)).trans rfl
    have r4 : a'.tmps[4]? = some (.pointer (some ⟨c.M, 5, none⟩)) := (hT.out 4 (by decide)).trans rfl
    obtain ⟨_, r0'⟩ := Array.getElem?_eq_some_iff.1 r0
    obtain ⟨_, r3'⟩ := Array.getElem?_eq_some_iff.1 r3
    obtain ⟨_, r4'⟩ := Array.getElem?_eq_some_iff.1 r4
    have hdf : a'.defers = [] := hT.dfs
    have hsz : a'.tmps.size = 78 := hT.sz.trans rfl
    obtain ⟨⟨x0, x1, x2, x3⟩, _⟩ := row4_cells hA2.x
    clear hT wb
    go_wp2_with fail
    refine wp_cond (t := false) (by show a'.tmps.getD 25 undef = _; rw [Array.getD_eq_getD_getElem?, r25]; rfl) ?_
    simp only [Bool.false_eq_true, if_false]
    go_wp2_with fail
    refine wp_cond (t := true) (by simp [Act.eval, hsz]) ?_
    simp only [if_true]
    go_wp2_with fail
    have hA3 := hA2.drew
    have HA3 := Lib.hid hA3
    refine Tab.region_tab4 (by kernel_rfl) idxf6 78 (Vf6 c.M X B c.FB c.WB c.futs a b (t.regs b)) (fun L w' => w' = if L[22]? = some true then (w1.drew.drew.setCell ⟨c.FB, a, none⟩ (.int .i64 (t.regs b))).setCell ⟨c.WB, a, none⟩ (.bool true) else if L[20]? = some true then (w1.drew.drew.setCell ⟨c.FB, a, none⟩ (.int .i64 (t.regs b))) else w1.drew.drew) (by kernel_rfl) (by simp [hsz]) (by kernel_rfl) (by rw [if_neg (by decide), if_neg (by decide)]) ?_ ?_
    · intro L b' w8 hT hs hd hw8
      rw [if_pos (hd 22 (by decide))] at hw8
      have hdf3 : b'.defers = [] := by first | exact hT.dfs | exact hT.dfs.trans hdf
      have hM2 := isM_set HA3.out.m a (t.regs b)
      have hC1 : Ch (Mvs c) w1.drew.drew ((w1.drew.drew.setCell ⟨c.FB, a, none⟩ (.int .i64 (t.regs b))).setCell ⟨c.WB, a, none⟩ (.bool true)) := ((Ch.refl _ _).set (p := ⟨c.FB, _, none⟩) (Or.inl (Or.inr (Or.inr (Or.inl rfl)))) _).set (p := ⟨c.WB, _, none⟩) (Or.inl (Or.inr (Or.inr (Or.inr rfl)))) _
      have hE2 := HA3.out.e.on HA3.out.m hC1
      have hC2 : Ch (Mvs c) w ((w1.drew.drew.setCell ⟨c.FB, a, none⟩ (.int .i64 (t.regs b))).setCell ⟨c.WB, a, none⟩ (.bool true)) := (Ch.of_bl HA3.out.bl).trans hC1
      rw [← hw8] at hM2 hE2 hC2
      clear hT hs hd hC1 hw8 hA2 hA3 r25 r0 r3 r4 r0' r3' r4' hsz x0 x1 x2 x3 m8 m9 lM
      go_wp2_with fail
      exact bodyPost_none6 hdf3 ⟨rfl, hE2, hM2, hC2⟩
    · intro i' o L b' w8 K' Q' hT hsz8 hw8 hL ho hd hold hcl hK
      have hi' : i' < 23 := (Array.getElem?_eq_some_iff.1 ho).1
      have h22k : ∀ k, Tab.dirB _ 22 k = true → L[k]? = some false → ¬ L[22]? = some true := fun k hk hLk h => by
        have := Tab.dir_done hcl (m := 22) (i := k) hk h
        rw [hLk] at this; cases this
      have h22 : ¬ L[22]? = some true := by
        rcases Nat.lt_or_ge i' 22 with hlt | hge
        · refine h22k i' ?_ hL
          revert hlt
          clear hT hsz8 hw8 hL ho hd hold hcl hK h22k hi'
          intro hlt
          obtain rfl | rfl | rfl | rfl | rfl | rfl | rfl | rfl | rfl | rfl | rfl | rfl | rfl | rfl | rfl | rfl | rfl | rfl | rfl | rfl | rfl | rfl : i' = 0 ∨ i' = 1 ∨ i' = 2 ∨ i' = 3 ∨ i' = 4 ∨ i' = 5 ∨ i' = 6 ∨ i' = 7 ∨ i' = 8 ∨ i' = 9 ∨ i' = 10 ∨ i' = 11 ∨ i' = 12 ∨ i' = 13 ∨ i' = 14 ∨ i' = 15 ∨ i' = 16 ∨ i' = 17 ∨ i' = 18 ∨ i' = 19 ∨ i' = 20 ∨ i' = 21 := by omega
          all_goals kernel_rfl
        · obtain rfl : i' = 22 := by omega
          rw [hL]; decide
      rw [if_neg h22] at hw8
      have HT : Hid (∀ qq ∈ idxf6, L[qq.1]? = some true → b'.tmps[qq.2]? = some (Vf6 c.M X B c.FB c.WB c.futs a b (t.regs b) qq.2)) := hT.tab
      obtain ⟨nM1, nM2, nM3, nM4, nM5, nM6⟩ := hA3.m.ne
      have nX := hA3.m.far_b hA3.x (by decide) (by decide) (by decide)
      have nB := hA3.m.far_b hA3.e.row (by decide) (by decide) (by decide)
      have hchw : Ch (· = c.FB) w1.drew.drew w8 := by
        rw [hw8]
        split
        · exact (Ch.refl _ _).setB _
        · exact Ch.refl _ _
      obtain ⟨⟨x0, x1, x2, x3⟩, _⟩ := row4_cells (hchw.row hA3.x (fun e => nX (Or.inr (Or.inr (Or.inl e)))))
      have hrowM := hchw.row hA3.m.row (fun e => nM2 e)
      have m8 : w8.cell? ⟨c.M, 8, none⟩ = some (.slice (some ⟨c.FB, 0, none⟩) c.futs c.futs) := hrowM.cell (i := 8) (by omega)
      have m9 : w8.cell? ⟨c.M, 9, none⟩ = some (.slice (some ⟨c.WB, 0, none⟩) c.futs c.futs) := hrowM.cell (i := 9) (by omega)
      have lM := hrowM.lt
      have e2 : w8.cell? ⟨B, 2 + b, none⟩ = some (.int .i64 (t.regs b)) := hchw.cell (ec_reg hA3.e hb) (fun e => nB (Or.inr (Or.inr (Or.inl e))))
      have lB : B < w8.heap.size := Nat.lt_of_lt_of_le hA3.e.row.lt hchw.size
      have lX : X < w8.heap.size := Nat.lt_of_lt_of_le hA3.x.lt hchw.size
      have fF : w1.drew.drew.cell? ⟨c.FB, a, none⟩ = some (.int .i64 (S.futs a)) := hA3.m.fut.cell ha
      have gF := hA3.m.fut.frozen a
      have lF := hA3.m.fut.lt
      have hrowW := hchw.row hA3.m.was (fun e => nM6 e.symm)
      have fW : w8.cell? ⟨c.WB, a, none⟩ = some (.bool (S.was a)) := hrowW.cell ha
      have gW := hrowW.frozen a
      have lW2 := hrowW.lt
      have a1 : (a : Int) < (c.futs : Int) := by omega
      have a2 : (0 : Int) ≤ (a : Int) := by omega
      have b1 : (b : Int) < 8 := by omega
      have b2 : (0 : Int) ≤ (b : Int) := by omega
      have HW8 := Lib.hid hw8
      clear hw8 hold hrowM hrowW nM1 nM2 nM3 nM4 nM5 nM6 nX nB hchw h22k hcl
      obtain rfl | rfl | rfl | rfl | rfl | rfl | rfl | rfl | rfl | rfl | rfl | rfl | rfl | rfl | rfl | rfl | rfl | rfl | rfl | rfl | rfl | rfl | rfl : i' = 0 ∨ i' = 1 ∨ i' = 2 ∨ i' = 3 ∨ i' = 4 ∨ i' = 5 ∨ i' = 6 ∨ i' = 7 ∨ i' = 8 ∨ i' = 9 ∨ i' = 10 ∨ i' = 11 ∨ i' = 12 ∨ i' = 13 ∨ i' = 14 ∨ i' = 15 ∨ i' = 16 ∨ i' = 17 ∨ i' = 18 ∨ i' = 19 ∨ i' = 20 ∨ i' = 21 ∨ i' = 22 := by omega
      · have s4 : b'.tmps[4]? = some (.pointer (some ⟨c.M, 5, none⟩)) := (hT.out 4 (by decide)).trans (by simp [r4, r4'])
        cases ho
        clear hd HT hT
        go_simp
        exact hK _ (by rw [Tab.get_ne (by decide), Tab.get_ne (by decide), if_neg h22]; exact HW8.out)
      · have s45 : b'.tmps[45]? = some (.pointer (some ⟨c.M, 5, none⟩)) := HT.out (0, 45) (by decide) (by cases ho; exact hd ⟨0, .data⟩ (by simp) rfl)
        cases ho
        clear hd HT hT
        go_simp
        exact hK _ (by rw [Tab.get_ne (by decide), Tab.get_ne (by decide), if_neg h22]; exact HW8.out)
      · have s46 : b'.tmps[46]? = some (.pointer (some ⟨c.M, 5, none⟩)) := HT.out (1, 46) (by decide) (by cases ho; exact hd ⟨1, .data⟩ (by simp) rfl)
        cases ho
        clear hd HT hT
        go_simp
        exact hK _ (by rw [Tab.get_ne (by decide), Tab.get_ne (by decide), if_neg h22]; exact HW8.out)
      · have s47 : b'.tmps[47]? = some (.pointer (some ⟨c.M, 8, none⟩)) := HT.out (2, 47) (by decide) (by cases ho; exact hd ⟨2, .data⟩ (by simp) rfl)
        cases ho
        clear hd HT hT
        go_simp
        exact hK _ (by rw [Tab.get_ne (by decide), Tab.get_ne (by decide), if_neg h22]; exact HW8.out)
      · have s3 : b'.tmps[3]? = some (.pointer (some ⟨X, 0, none⟩)) := (hT.out 3 (by decide)).trans (by simp [r3, r3'])
        cases ho
        clear hd HT hT
        go_simp
        exact hK _ (by rw [Tab.get_ne (by decide), Tab.get_ne (by decide), if_neg h22]; exact HW8.out)
      · have s49 : b'.tmps[49]? = some (.pointer (some ⟨X, 1, none⟩)) := HT.out (4, 49) (by decide) (by cases ho; exact hd ⟨4, .data⟩ (by simp) rfl)
        cases ho
        clear hd HT hT
        go_simp
        exact hK _ (by rw [Tab.get_ne (by decide), Tab.get_ne (by decide), if_neg h22]; exact HW8.out)
      · have s4 : b'.tmps[4]? = some (.pointer (some ⟨c.M, 5, none⟩)) := (hT.out 4 (by decide)).trans (by simp [r4, r4'])
        cases ho
        clear hd HT hT
        go_simp
        exact hK _ (by rw [Tab.get_ne (by decide), Tab.get_ne (by decide), if_neg h22]; exact HW8.out)
      · have s51 : b'.tmps[51]? = some (.pointer (some ⟨c.M, 5, none⟩)) := HT.out (6, 51) (by decide) (by cases ho; exact hd ⟨6, .data⟩ (by simp) rfl)
        cases ho
        clear hd HT hT
        go_simp
        exact hK _ (by rw [Tab.get_ne (by decide), Tab.get_ne (by decide), if_neg h22]; exact HW8.out)
      · have s52 : b'.tmps[52]? = some (.pointer (some ⟨c.M, 5, none⟩)) := HT.out (7, 52) (by decide) (by cases ho; exact hd ⟨7, .data⟩ (by simp) rfl)
        cases ho
        clear hd HT hT
        go_simp
        exact hK _ (by rw [Tab.get_ne (by decide), Tab.get_ne (by decide), if_neg h22]; exact HW8.out)
      · have s53 : b'.tmps[53]? = some (.pointer (some ⟨c.M, 9, none⟩)) := HT.out (8, 53) (by decide) (by cases ho; exact hd ⟨8, .data⟩ (by simp) rfl)
        cases ho
        clear hd HT hT
        go_simp
        exact hK _ (by rw [Tab.get_ne (by decide), Tab.get_ne (by decide), if_neg h22]; exact HW8.out)
      · have s3 : b'.tmps[3]? = some (.pointer (some ⟨X, 0, none⟩)) := (hT.out 3 (by decide)).trans (by simp [r3, r3'])
        cases ho
        clear hd HT hT
        go_simp
        exact hK _ (by rw [Tab.get_ne (by decide), Tab.get_ne (by decide), if_neg h22]; exact HW8.out)
      · have s55 : b'.tmps[55]? = some (.pointer (some ⟨X, 1, none⟩)) := HT.out (10, 55) (by decide) (by cases ho; exact hd ⟨10, .data⟩ (by simp) rfl)
        cases ho
        clear hd HT hT
        go_simp
        exact hK _ (by rw [Tab.get_ne (by decide), Tab.get_ne (by decide), if_neg h22]; exact HW8.out)
      · have s0 : b'.tmps[0]? = some (.pointer (some ⟨B, 0, none⟩)) := (hT.out 0 (by decide)).trans (by simp [r0, r0'])
        cases ho
        clear hd HT hT
        go_simp
        exact hK _ (by rw [Tab.get_ne (by decide), Tab.get_ne (by decide), if_neg h22]; exact HW8.out)
      · have s3 : b'.tmps[3]? = some (.pointer (some ⟨X, 0, none⟩)) := (hT.out 3 (by decide)).trans (by simp [r3, r3'])
        cases ho
        clear hd HT hT
        go_simp
        exact hK _ (by rw [Tab.get_ne (by decide), Tab.get_ne (by decide), if_neg h22]; exact HW8.out)
      · have s58 : b'.tmps[58]? = some (.pointer (some ⟨X, 2, none⟩)) := HT.out (13, 58) (by decide) (by cases ho; exact hd ⟨13, .data⟩ (by simp) rfl)
        cases ho
        clear hd HT hT
        go_simp
        exact hK _ (by rw [Tab.get_ne (by decide), Tab.get_ne (by decide), if_neg h22]; exact HW8.out)
      · have s57 : b'.tmps[57]? = some (.pointer (some ⟨B, 0, none⟩)) := HT.out (12, 57) (by decide) (by cases ho; exact hd ⟨12, .data⟩ (by simp) rfl)
        cases ho
        clear hd HT hT
        go_simp
        exact hK _ (by rw [Tab.get_ne (by decide), Tab.get_ne (by decide), if_neg h22]; exact HW8.out)
      · have s60 : b'.tmps[60]? = some (.pointer (some ⟨B, 0, none⟩)) := HT.out (15, 60) (by decide) (by cases ho; exact hd ⟨15, .data⟩ (by simp) rfl)
        cases ho
        clear hd HT hT
        go_simp
        exact hK _ (by rw [Tab.get_ne (by decide), Tab.get_ne (by decide), if_neg h22]; exact HW8.out)
      · have s61 : b'.tmps[61]? = some (.pointer (some ⟨B, 2, none⟩)) := HT.out (16, 61) (by decide) (by cases ho; exact hd ⟨16, .data⟩ (by simp) rfl)
        have s59 : b'.tmps[59]? = some (.int .i64 (b : Int)) := HT.out (14, 59) (by decide) (by cases ho; exact hd ⟨14, .data⟩ (by simp) rfl)
        cases ho
        clear hd HT hT
        go_simp
        exact hK _ (by rw [Tab.get_ne (by decide), Tab.get_ne (by decide), if_neg h22]; exact HW8.out)
      · have s62 : b'.tmps[62]? = some (.pointer (some ⟨B, 2 + b, none⟩)) := HT.out (17, 62) (by decide) (by cases ho; exact hd ⟨17, .data⟩ (by simp) rfl)
        cases ho
        clear hd HT hT
        go_simp
        exact hK _ (by rw [Tab.get_ne (by decide), Tab.get_ne (by decide), if_neg h22]; exact HW8.out)
      · have s48 : b'.tmps[48]? = some (.slice (some ⟨c.FB, 0, none⟩) c.futs c.futs) := HT.out (3, 48) (by decide) (by cases ho; exact hd ⟨3, .data⟩ (by simp) rfl)
        have s50 : b'.tmps[50]? = some (.int .i64 (a : Int)) := HT.out (5, 50) (by decide) (by cases ho; exact hd ⟨5, .data⟩ (by simp) rfl)
        cases ho
        clear hd HT hT
        go_simp
        exact hK _ (by rw [Tab.get_ne (by decide), Tab.get_ne (by decide), if_neg h22]; exact HW8.out)
      · have s64 : b'.tmps[64]? = some (.pointer (some ⟨c.FB, a, none⟩)) := HT.out (19, 64) (by decide) (by cases ho; exact hd ⟨19, .data⟩ (by simp) rfl)
        have s63 : b'.tmps[63]? = some (.int .i64 (t.regs b)) := HT.out (18, 63) (by decide) (by cases ho; exact hd ⟨18, .data⟩ (by simp) rfl)
        cases ho
        clear hd HT hT
        have hu0 : w8 = w1.drew.drew := by rw [HW8.out, if_neg (by rw [hL]; decide)]
        clear HW8
        subst hu0
        go_simp
        exact hK _ (by rw [if_neg (by rw [Tab.get_ne (by decide)]; exact h22), if_pos (Tab.get_self hL)]; rfl)
      · have s54 : b'.tmps[54]? = some (.slice (some ⟨c.WB, 0, none⟩) c.futs c.futs) := HT.out (9, 54) (by decide) (by cases ho; exact hd ⟨9, .data⟩ (by simp) rfl)
        have s56 : b'.tmps[56]? = some (.int .i64 (a : Int)) := HT.out (11, 56) (by decide) (by cases ho; exact hd ⟨11, .data⟩ (by simp) rfl)
        cases ho
        clear hd HT hT
        go_simp
        exact hK _ (by rw [Tab.get_ne (by decide), Tab.get_ne (by decide), if_neg h22]; exact HW8.out)
      · have l20 : L[20]? = some true := (by cases ho; exact hd ⟨20, .chain⟩ (by simp) rfl)
        have s65 : b'.tmps[65]? = some (.pointer (some ⟨c.WB, a, none⟩)) := HT.out (21, 65) (by decide) (by cases ho; exact hd ⟨21, .data⟩ (by simp) rfl)
        cases ho
        clear hd HT hT
        have hu1 : w8 = (w1.drew.drew.setCell ⟨c.FB, a, none⟩ (.int .i64 (t.regs b))) := by rw [HW8.out, if_pos l20]
        have HU1 := Lib.hid hu1
        clear hu1 HW8 fF gF lF
        go_simp
        exact hK _ (by rw [if_pos (Tab.get_self hL), HU1.out])
  · intro i' o L a' K' Q' hT hL ho hd hw hK
    have hi' : i' < 14 := (Array.getElem?_eq_some_iff.1 ho).1
    have HT : Hid (∀ qq ∈ idxf3s, L[qq.1]? = some true → a'.tmps[qq.2]? = some (Vf3s c.M X c.WB c.futs a false qq.2)) := hT.tab
    have a1 : (a : Int) < (c.futs : Int) := by omega
    have a2 : (0 : Int) ≤ (a : Int) := by omega
    obtain ⟨⟨x0, x1, x2, x3⟩, _⟩ := row4_cells hA2.x
    have lB := hA2.e.row.lt
    have lX := hA2.x.lt
    obtain rfl | rfl | rfl | rfl | rfl | rfl | rfl | rfl | rfl | rfl | rfl | rfl | rfl | rfl : i' = 0 ∨ i' = 1 ∨ i' = 2 ∨ i' = 3 ∨ i' = 4 ∨ i' = 5 ∨ i' = 6 ∨ i' = 7 ∨ i' = 8 ∨ i' = 9 ∨ i' = 10 ∨ i' = 11 ∨ i' = 12 ∨ i' = 13 := by omega
    · have s3 : a'.tmps[3]? = some (.pointer (some ⟨X, 0, none⟩)) := (hT.out 3 (by decide)).trans rfl
      cases ho
      clear hd HT hT hw
      go_simp
      exact hK
    · have s26 : a'.tmps[26]? = some (.pointer (some ⟨X, 0, none⟩)) := HT.out (0, 26) (by decide) (by cases ho; exact hd ⟨0, .data⟩ (by simp) rfl)
      cases ho
      clear hd HT hT hw
      go_simp
      exact hK
    · have s27 : a'.tmps[27]? = some (.int .i64 11) := HT.out (1, 27) (by decide) (by cases ho; exact hd ⟨1, .data⟩ (by simp) rfl)
      cases ho
      clear hd HT hT hw
      go_simp
      exact hK
    · have s28 : a'.tmps[28]? = some (.bool true) := HT.out (2, 28) (by decide) (by cases ho; exact hd ⟨2, .data⟩ (by simp) rfl)
      cases ho
      clear hd HT hT hw
      go_simp
      exact hK
    · have s4 : a'.tmps[4]? = some (.pointer (some ⟨c.M, 5, none⟩)) := (hT.out 4 (by decide)).trans rfl
      cases ho
      clear hd HT hT hw
      go_simp
      exact hK
    · have s30 : a'.tmps[30]? = some (.pointer (some ⟨c.M, 5, none⟩)) := HT.out (4, 30) (by decide) (by cases ho; exact hd ⟨4, .data⟩ (by simp) rfl)
      cases ho
      clear hd HT hT hw
      go_simp
      exact hK
    · have s31 : a'.tmps[31]? = some (.pointer (some ⟨c.M, 5, none⟩)) := HT.out (5, 31) (by decide) (by cases ho; exact hd ⟨5, .data⟩ (by simp) rfl)
      cases ho
      clear hd HT hT hw
      go_simp
      exact hK
    · have s32 : a'.tmps[32]? = some (.pointer (some ⟨c.M, 9, none⟩)) := HT.out (6, 32) (by decide) (by cases ho; exact hd ⟨6, .data⟩ (by simp) rfl)
      cases ho
      clear hd HT hT hw
      go_simp
      exact hK
    · have s3 : a'.tmps[3]? = some (.pointer (some ⟨X, 0, none⟩)) := (hT.out 3 (by decide)).trans rfl
      cases ho
      clear hd HT hT hw
      go_simp
      exact hK
    · have s34 : a'.tmps[34]? = some (.pointer (some ⟨X, 1, none⟩)) := HT.out (8, 34) (by decide) (by cases ho; exact hd ⟨8, .data⟩ (by simp) rfl)
      cases ho
      clear hd HT hT hw
      go_simp
      exact hK
    · have s33 : a'.tmps[33]? = some (.slice (some ⟨c.WB, 0, none⟩) c.futs c.futs) := HT.out (7, 33) (by decide) (by cases ho; exact hd ⟨7, .data⟩ (by simp) rfl)
      have s35 : a'.tmps[35]? = some (.int .i64 (a : Int)) := HT.out (9, 35) (by decide) (by cases ho; exact hd ⟨9, .data⟩ (by simp) rfl)
      cases ho
      clear hd HT hT hw
      go_simp
      exact hK
    · have s36 : a'.tmps[36]? = some (.pointer (some ⟨c.WB, a, none⟩)) := HT.out (10, 36) (by decide) (by cases ho; exact hd ⟨10, .data⟩ (by simp) rfl)
      cases ho
      clear hd HT hT hw
      go_simp
      exact hK
    · have s29 : a'.tmps[29]? = some (.bool true) := HT.out (3, 29) (by decide) (by cases ho; exact hd ⟨3, .data⟩ (by simp) rfl)
      have s37 : a'.tmps[37]? = some (.bool false) := HT.out (11, 37) (by decide) (by cases ho; exact hd ⟨11, .data⟩ (by simp) rfl)
      cases ho
      clear hd HT hT hw
      go_simp
      exact hK
    · have s38 : a'.tmps[38]? = some (.bool false) := HT.out (12, 38) (by decide) (by cases ho; exact hd ⟨12, .data⟩ (by simp) rfl)
      cases ho
      clear hd HT hT hw
      go_simp
      exact hK
end Go.Proofs.YtonndofbnhnkpaaGreat.Evl
namespace Go.Proofs.YtonndofbnhnkpaaGreat.Evl
open Go.RowKit Num KeyM KeyW StatW Blk VmA VmG Prg EvM Rf
set_option maxRecDepth 100000 in
set_option maxHeartbeats 8000000 in
theorem step_set_yes (c : Mc) (t : RT) (S : RS) (a b : Nat) (ha : a < c.futs) (hv0 : t.val = 0) (hw : S.was a = true) : StepSays c t S ⟨11, a, b, 0⟩ (t.ends 3, S) := by
  intro w B H hM hE hK
  have HV0 := Lib.hid hv0
  clear hv0
  have hA := At1.of (x := ⟨11, a, b, 0⟩) hM hE
  have hx := hA.x
  obtain ⟨⟨x0, x1, x2, x3⟩, _⟩ := row4_cells hx
  have hfu := fut_set_yes c t S a b _ B H hA.m hA.e ha hw
  have HA := Lib.hid hA
  have lX := hx.lt
  clear hM hE hA hx hw
  go_enter Tryz.func33, Tryz.ntmps33
  go_wp2_with fail
  refine hfu.mono ?_
  rintro e w3 ⟨rfl, hb3⟩
  clear hfu
  have HB3 := Lib.hid hb3
  clear hb3
  go_wp2_with fail
  exact ⟨rfl, fun h => (by change (3 : Int) = 0 at h; cases h), fun _ => (by show _ = Ending.panicked [{ v := stopV 3 t.val, recovered := false }]; rw [HV0.out]), HA.out.m.bl HB3.out, Ch.of_bl (Bl.trans HA.out.bl HB3.out)⟩
set_option maxRecDepth 100000 in
set_option maxHeartbeats 8000000 in
theorem step_get_no (c : Mc) (t : RT) (S : RS) (a b : Nat) (ha : a < 8) (hb : b < c.futs) (hv0 : t.val = 0) (hw : S.was b = false) : StepSays c t S ⟨12, a, b, 0⟩ (t.ends 4, S) := by
  intro w B H hM hE hK
  have HV0 := Lib.hid hv0
  clear hv0
  have hA := At1.of (x := ⟨12, a, b, 0⟩) hM hE
  have hx := hA.x
  obtain ⟨⟨x0, x1, x2, x3⟩, _⟩ := row4_cells hx
  have hfu := fut_get_no c t S a b _ B H hA.m hA.e ha hb hK hw
  have HA := Lib.hid hA
  have lX := hx.lt
  clear hM hE hA hx hw
  go_enter Tryz.func33, Tryz.ntmps33
  go_wp2_with fail
  refine hfu.mono ?_
  rintro e w3 ⟨rfl, hb3⟩
  clear hfu
  have HB3 := Lib.hid hb3
  clear hb3
  go_wp2_with fail
  exact ⟨rfl, fun h => (by change (4 : Int) = 0 at h; cases h), fun _ => (by show _ = Ending.panicked [{ v := stopV 4 t.val, recovered := false }]; rw [HV0.out]), HA.out.m.bl HB3.out, Ch.of_bl (Bl.trans HA.out.bl HB3.out)⟩
set_option maxRecDepth 100000 in
set_option maxHeartbeats 8000000 in
theorem step_set_no (c : Mc) (t : RT) (S : RS) (a b : Nat) (ha : a < c.futs) (hb : b < 8) (h0 : t.how = 0) (hw : S.was a = false) : StepSays c t S ⟨11, a, b, 0⟩ (t, { S with was := EvM.upd S.was a true, futs := EvM.upd S.futs a (t.regs b) }) := by
  intro w B H hM hE hK
  have H0 := Lib.hid h0
  clear h0
  have hA := At1.of (x := ⟨11, a, b, 0⟩) hM hE
  have hx := hA.x
  obtain ⟨⟨x0, x1, x2, x3⟩, _⟩ := row4_cells hx
  have hfu := fut_set_no c t S a b _ B H hA.m hA.e ha hb hw
  have HA := Lib.hid hA
  have lX := hx.lt
  clear hM hE hA hx hw
  go_enter Tryz.func33, Tryz.ntmps33
  go_wp2_with fail
  refine hfu.mono ?_
  rintro e w3 ⟨rfl, hE3, hM3, hC3⟩
  clear hfu
  have HE3 := Lib.hid hE3
  have HM3 := Lib.hid hM3
  have HC3 := Lib.hid hC3
  clear hE3 hM3 hC3
  go_wp2_with fail
  refine bodyPost_ret (v := .int .i64 t.place) (by simp [results, Tryz.results33, go_sem]) rfl ⟨fun _ => ⟨rfl, H, HE3.out⟩, fun h => absurd H0.out h, HM3.out, (Ch.of_bl HA.out.bl).trans (HC3.out.mono (fun _ _ e => Or.inl e))⟩
set_option maxRecDepth 100000 in
set_option maxHeartbeats 8000000 in
theorem step_get_yes (c : Mc) (t : RT) (S : RS) (a b : Nat) (ha : a < 8) (hb : b < c.futs) (h0 : t.how = 0) (hw : S.was b = true) : StepSays c t S ⟨12, a, b, 0⟩ (t.setReg a (S.futs b), S) := by
  intro w B H hM hE hK
  have H0 := Lib.hid h0
  clear h0
  have hA := At1.of (x := ⟨12, a, b, 0⟩) hM hE
  have hx := hA.x
  obtain ⟨⟨x0, x1, x2, x3⟩, _⟩ := row4_cells hx
  have hfu := fut_get_yes c t S a b _ B H hA.m hA.e ha hb hK hw
  have HA := Lib.hid hA
  have lX := hx.lt
  clear hM hE hA hx hw
  go_enter Tryz.func33, Tryz.ntmps33
  go_wp2_with fail
  refine hfu.mono ?_
  rintro e w3 ⟨rfl, hE3, hM3, hC3⟩
  clear hfu
  have HE3 := Lib.hid hE3
  have HM3 := Lib.hid hM3
  have HC3 := Lib.hid hC3
  clear hE3 hM3 hC3
  go_wp2_with fail
  refine bodyPost_ret (v := .int .i64 t.place) (by simp [results, Tryz.results33, go_sem]) rfl ⟨fun _ => ⟨rfl, H, HE3.out⟩, fun h => absurd H0.out h, HM3.out, (Ch.of_bl HA.out.bl).trans HC3.out⟩
theorem nat_of {x : Int} {n : Nat} (h : Rg x n) : ∃ k : Nat, x = k ∧ k < n := ⟨x.toNat, by unfold Rg at h; omega, by unfold Rg at h; omega⟩
/-- Any step but a fork's. -/
theorem step_any (c : Mc) (t : RT) (S : RS) (x : Ins) (fl : Int) (hx : InsIn c.fs.length c.futs fl x) (h9 : x.op ≠ 9) (h0 : t.how = 0) (hv0 : t.val = 0) (hh0 : ∀ i, t.has i = true → t.hh i ≠ 0) : StepSays c t S x (oneM t S x) := by
  obtain ⟨op, xa, xb, xc⟩ := x
  obtain ⟨hok, -, -, -, h11, h12⟩ := hx
  simp only at h9 h11 h12
  unfold InsOk at hok
  simp only at hok
  rcases hok with ⟨rfl, ha, hb, rfl⟩ | ⟨ho, ha, hb, hc⟩ | ⟨rfl, ha, rfl, rfl⟩ | ⟨rfl, ha, hb, rfl⟩ | ⟨rfl, ha, hb, hc⟩ | ⟨rfl, ha, hb, rfl⟩ | ⟨rfl, ha, hb, rfl⟩ | ⟨rfl, ha, hb, rfl⟩ | ⟨rfl, ha, rfl, rfl⟩ | ⟨rfl, rfl, rfl, rfl⟩ | ⟨rfl, ha, rfl, rfl⟩
  · obtain ⟨a, rfl, ha⟩ := nat_of ha
    exact step_const c t S a xb (by omega) (by unfold wrap32; omega) h0
  · obtain ⟨a, rfl, ha⟩ := nat_of ha
    obtain ⟨b, rfl, hb⟩ := nat_of hb
    obtain ⟨d, rfl, hd⟩ := nat_of hc
    rcases ho with rfl | rfl | rfl | rfl | rfl
    · exact step_add c t S a b d (by omega) (by omega) (by omega) h0
    · exact step_sub c t S a b d (by omega) (by omega) (by omega) h0
    · exact step_mul c t S a b d (by omega) (by omega) (by omega) h0
    · by_cases hz : wrap32 (t.regs d) = 0
      · have e : oneM t S ⟨5, a, b, d⟩ = ((if false then t.setReg a 0 else t.ends 2), S) := by
          show (if wrap32 (t.regs d) = 0 then (t.ends 2, S) else _) = _
          rw [if_pos hz]; rfl
        rw [e]
        exact step_div c t S a b d 0 false (by omega) (by omega) (by omega) (fun w => Val.div_no _ _ w (by simpa using hz)) h0 hv0
      · have e : oneM t S ⟨5, a, b, d⟩ = ((if true then t.setReg a (divq (t.regs b) (t.regs d)) else t.ends 2), S) := by
          show (if wrap32 (t.regs d) = 0 then (t.ends 2, S) else (t.setReg a (divq (t.regs b) (t.regs d)), S)) = _
          rw [if_neg hz]; rfl
        rw [e]
        exact step_div c t S a b d _ true (by omega) (by omega) (by omega) (fun w => Val.div_yes _ _ w (by simpa using hz)) h0 hv0
    · exact step_lessv c t S a b d (by omega) (by omega) (by omega) h0
  · exact step_jump c t S xa h0
  · obtain ⟨a, rfl, ha⟩ := nat_of ha
    have e : oneM t S ⟨8, a, xb, 0⟩ = ((if (t.regs a == 0) then { t with place := xb } else t), S) := by
      show (if t.regs a = 0 then ({ t with place := xb }, S) else (t, S)) = _
      by_cases hz : t.regs a = 0
      · rw [if_pos hz, if_pos (by simpa using hz)]
      · rw [if_neg hz, if_neg (by simpa using hz)]
    rw [e]
    exact step_zero c t S a xb (by omega) _ rfl h0
  · exact absurd rfl h9
  · obtain ⟨a, rfl, ha⟩ := nat_of ha
    obtain ⟨b, rfl, hb⟩ := nat_of hb
    show StepSays c t S ⟨10, a, b, 0⟩ (if t.has b = false then (t.ends 7, S) else if t.hh b = 1 then (({ t with has := EvM.upd t.has b false }).setReg a (t.hv b), S) else ({ t with has := EvM.upd t.has b false, how := t.hh b }, S))
    cases hh : t.has b
    · rw [if_pos rfl]
      exact step_join_none c t S a b (by omega) hv0 hh
    · rw [if_neg (by decide)]
      by_cases h1 : t.hh b = 1
      · rw [if_pos h1]
        exact step_join_yes c t S a b (by omega) (by omega) h0 hv0 hh h1
      · rw [if_neg h1]
        exact step_join_no c t S a b (by omega) (by omega) h0 hv0 hh h1 (hh0 b hh)
  · obtain ⟨a, rfl, ha⟩ := nat_of ha
    obtain ⟨b, rfl, hb⟩ := nat_of hb
    have hf := h11 rfl
    show StepSays c t S ⟨11, a, b, 0⟩ (if S.was a = true then (t.ends 3, S) else (t, { S with was := EvM.upd S.was a true, futs := EvM.upd S.futs a (t.regs b) }))
    cases hw : S.was a
    · rw [if_neg (by decide)]
      exact step_set_no c t S a b (by omega) (by omega) h0 hw
    · rw [if_pos rfl]
      exact step_set_yes c t S a b (by omega) hv0 hw
  · obtain ⟨a, rfl, ha⟩ := nat_of ha
    obtain ⟨b, rfl, hb⟩ := nat_of hb
    have hf := h12 rfl
    show StepSays c t S ⟨12, a, b, 0⟩ (if S.was b = false then (t.ends 4, S) else (t.setReg a (S.futs b), S))
    cases hw : S.was b
    · rw [if_pos rfl]
      exact step_get_no c t S a b (by omega) (by omega) hv0 hw
    · rw [if_neg (by decide)]
      exact step_get_yes c t S a b (by omega) (by omega) h0 hw
  · obtain ⟨a, rfl, ha⟩ := nat_of ha
    show StepSays c t S ⟨13, a, 0, 0⟩ (if t.has a = false then (t.ends 7, S) else (t, S))
    cases hh : t.has a
    · rw [if_pos rfl]
      exact step_cancel_no c t S a (by omega) hv0 hh
    · rw [if_neg (by decide)]
      exact step_cancel_yes c t S a (by omega) h0 hh
  · exact step_yield c t S h0
  · obtain ⟨a, rfl, ha⟩ := nat_of ha
    exact step_ret c t S a (by omega)
end Go.Proofs.YtonndofbnhnkpaaGreat.Evl
namespace Go.Proofs.YtonndofbnhnkpaaGreat.Evl
open Go.RowKit Num KeyM KeyW StatW Blk VmA VmG Prg EvM Rf
theorem isM_forks {c : Mc} {w : World} {S : RS} (h : IsM c w S) (v : Int) : IsM c (w.setCell ⟨c.M, 11, none⟩ (.int .i64 v)) { S with forks := v } := by
  obtain ⟨n1, n2, n3, n4, n5, n6⟩ := h.ne
  obtain ⟨h1, h2, h3, h4, ⟨es, clk, h5, h6⟩, h7⟩ := h
  have hch : Ch (fun k => k = c.M) w (w.setCell ⟨c.M, 11, none⟩ (.int .i64 v)) := Ch.set (S := fun k => k = c.M) (p := ⟨c.M, _, none⟩) (Ch.refl _ _) (Or.inl rfl) _
  exact ⟨ofL_set (l := mL c S.steps S.forks) 11 (.int .i64 v) (by show 11 < 14; omega) (h1.set 11 _), row_setO h2 (fun e => n2 e.symm) _, row_setO h3 (fun e => n3 e.symm) _, h4.later hch (fun i hi e => by omega), ⟨es, clk, heap_ch h5 hch (fun e => n1 e.symm), h6⟩, h7⟩
theorem isM_steps {c : Mc} {w : World} {S : RS} (h : IsM c w S) (v : Int) : IsM c (w.setCell ⟨c.M, 10, none⟩ (.int .i64 v)) { S with steps := v } := by
  obtain ⟨n1, n2, n3, n4, n5, n6⟩ := h.ne
  obtain ⟨h1, h2, h3, h4, ⟨es, clk, h5, h6⟩, h7⟩ := h
  have hch : Ch (fun k => k = c.M) w (w.setCell ⟨c.M, 10, none⟩ (.int .i64 v)) := Ch.set (S := fun k => k = c.M) (p := ⟨c.M, _, none⟩) (Ch.refl _ _) (Or.inl rfl) _
  exact ⟨ofL_set (l := mL c S.steps S.forks) 10 (.int .i64 v) (by show 10 < 14; omega) (h1.set 10 _), row_setO h2 (fun e => n2 e.symm) _, row_setO h3 (fun e => n3 e.symm) _, h4.later hch (fun i hi e => by omega), ⟨es, clk, heap_ch h5 hch (fun e => n1 e.symm), h6⟩, h7⟩
theorem IsE.setForks {c : Mc} {w : World} {B : Nat} {t : RT} {H : Nat → Nat} (h : IsE c w B t H) (v : Int) : IsE c (w.setCell ⟨B, 14, none⟩ (.int .i64 v)) B { t with forks := v } H :=
  h.row_set _ _ (e_forks (h.row.set 14 (.int .i64 v))) (fun _ _ h1 => ⟨h1, rfl, rfl⟩)
def idxk1 : List (Nat × Nat) := [(0, 7), (1, 8), (2, 9), (3, 10), (4, 11), (5, 12), (6, 13), (7, 14), (8, 15), (9, 16), (10, 17), (11, 18), (12, 19), (13, 20)]
def Vk1 (B M : Nat) (key dp D : Int) (bd : Bool) : Nat → Value := fun sl => match sl with
  | 7 => .pointer (some ⟨B, 0, none⟩)
  | 8 => .pointer (some ⟨B, 0, none⟩)
  | 9 => .pointer (some ⟨B, 1, none⟩)
  | 10 => .int .i64 key
  | 11 => .int .i64 D
  | 12 => .pointer (some ⟨B, 0, none⟩)
  | 13 => .pointer (some ⟨B, 0, none⟩)
  | 14 => .pointer (some ⟨B, 0, none⟩)
  | 15 => .pointer (some ⟨M, 0, none⟩)
  | 16 => .pointer (some ⟨M, 0, none⟩)
  | 17 => .pointer (some ⟨M, 0, none⟩)
  | 18 => .pointer (some ⟨M, 2, none⟩)
  | 19 => .int .i64 dp
  | 20 => .bool bd
  | _ => undef
set_option maxRecDepth 100000 in
set_option maxHeartbeats 8000000 in
theorem fork_deep (c : Mc) (t : RT) (S : RS) (a b d : Nat) (w : World) (B : Nat) (H : Nat → Nat) (hM : IsM c w S) (hE : IsE c w B t H) (hdp : c.depth ≤ dep t.key) : Calls Tryz.prog 58 #[.pointer (some ⟨B, 0, none⟩), .agg #[.int .i64 9, .int .i64 a, .int .i64 b, .int .i64 d]] w fun e w' => e = .panicked [{ v := stopV 6 0, recovered := false }] ∧ Bl w w' := by
  obtain ⟨D, hD⟩ : ∃ D, D = dep t.key := ⟨_, rfl⟩
  have hkd := fun w => KeyW.depth_any t.key w
  simp only [← hD] at hkd hdp
  clear hD
  have hA := At1.of (x := ⟨9, a, b, d⟩) hM hE
  have HA := Lib.hid hA
  clear hM hE hA
  go_enter Tryz.func58, Tryz.ntmps58
  go_wp2_with fail
  refine at_w (fun w1 => At1 c w w1 B w.heap.size t S H ⟨9, a, b, d⟩) HA.out ?_
  rintro w1 hA1
  generalize w.heap.size = X at *
  have HA1 := Lib.hid hA1
  clear HA hA1
  refine Tab.region_tab4 (by kernel_rfl) idxk1 82 (Vk1 B c.M t.key c.depth D true) (fun _ w' => Bl w1.drew w') (by kernel_rfl) (by rfl) (by kernel_rfl) (Bl.refl _) ?_ ?_
  rotate_left
  · intro i' o L a' w8 K' Q' hT hsz hb8 hL ho hd hold hcl hK
    have hi' : i' < 14 := (Array.getElem?_eq_some_iff.1 ho).1
    have HT : Hid (∀ qq ∈ idxk1, L[qq.1]? = some true → a'.tmps[qq.2]? = some (Vk1 B c.M t.key c.depth D true qq.2)) := hT.tab
    have hb81 := Bl.trans (Bl.drew (Bl.refl w1)) hb8
    have hE8 := HA1.out.e.bl hb81
    have hM8 := HA1.out.m.bl hb81
    have y0 : w8.cell? ⟨B, 0, none⟩ = some (.pointer (some ⟨c.M, 0, none⟩)) := hE8.row.cell (i := 0) (by omega)
    have y1 : w8.cell? ⟨B, 1, none⟩ = some (.int .i64 t.key) := hE8.row.cell (i := 1) (by omega)
    have z2 : w8.cell? ⟨c.M, 2, none⟩ = some (.int .i64 c.depth) := hM8.row.cell (i := 2) (by omega)
    have lB := hE8.row.lt
    have lM := hM8.row.lt
    clear hE8 hM8 hb81
    obtain rfl | rfl | rfl | rfl | rfl | rfl | rfl | rfl | rfl | rfl | rfl | rfl | rfl | rfl : i' = 0 ∨ i' = 1 ∨ i' = 2 ∨ i' = 3 ∨ i' = 4 ∨ i' = 5 ∨ i' = 6 ∨ i' = 7 ∨ i' = 8 ∨ i' = 9 ∨ i' = 10 ∨ i' = 11 ∨ i' = 12 ∨ i' = 13 := by omega
    · have s0 : a'.tmps[0]? = some (.pointer (some ⟨B, 0, none⟩)) := (hT.out 0 (by decide)).trans rfl
      cases ho
      clear hd HT hT hold hcl
      go_simp
      exact hK _ hb8
    · have s7 : a'.tmps[7]? = some (.pointer (some ⟨B, 0, none⟩)) := HT.out (0, 7) (by decide) (by cases ho; exact hd ⟨0, .data⟩ (by simp) rfl)
      cases ho
      clear hd HT hT hold hcl
      go_simp
      exact hK _ hb8
    · have s8 : a'.tmps[8]? = some (.pointer (some ⟨B, 0, none⟩)) := HT.out (1, 8) (by decide) (by cases ho; exact hd ⟨1, .data⟩ (by simp) rfl)
      cases ho
      clear hd HT hT hold hcl
      go_simp
      exact hK _ hb8
    · have s9 : a'.tmps[9]? = some (.pointer (some ⟨B, 1, none⟩)) := HT.out (2, 9) (by decide) (by cases ho; exact hd ⟨2, .data⟩ (by simp) rfl)
      cases ho
      clear hd HT hT hold hcl
      go_simp
      exact hK _ hb8
    · have s10 : a'.tmps[10]? = some (.int .i64 t.key) := HT.out (3, 10) (by decide) (by cases ho; exact hd ⟨3, .data⟩ (by simp) rfl)
      cases ho
      clear hd HT hT hold hcl
      go_simp
      go_at_call 80
      refine (hkd _).mono ?_
      rintro e w9 ⟨rfl, hb9⟩
      go_simp
      exact hK _ (Bl.trans hb8 hb9)
    · have s0 : a'.tmps[0]? = some (.pointer (some ⟨B, 0, none⟩)) := (hT.out 0 (by decide)).trans rfl
      cases ho
      clear hd HT hT hold hcl
      go_simp
      exact hK _ hb8
    · have s12 : a'.tmps[12]? = some (.pointer (some ⟨B, 0, none⟩)) := HT.out (5, 12) (by decide) (by cases ho; exact hd ⟨5, .data⟩ (by simp) rfl)
      cases ho
      clear hd HT hT hold hcl
      go_simp
      exact hK _ hb8
    · have s13 : a'.tmps[13]? = some (.pointer (some ⟨B, 0, none⟩)) := HT.out (6, 13) (by decide) (by cases ho; exact hd ⟨6, .data⟩ (by simp) rfl)
      cases ho
      clear hd HT hT hold hcl
      go_simp
      exact hK _ hb8
    · have s14 : a'.tmps[14]? = some (.pointer (some ⟨B, 0, none⟩)) := HT.out (7, 14) (by decide) (by cases ho; exact hd ⟨7, .data⟩ (by simp) rfl)
      cases ho
      clear hd HT hT hold hcl
      go_simp
      exact hK _ hb8
    · have s15 : a'.tmps[15]? = some (.pointer (some ⟨c.M, 0, none⟩)) := HT.out (8, 15) (by decide) (by cases ho; exact hd ⟨8, .data⟩ (by simp) rfl)
      cases ho
      clear hd HT hT hold hcl
      go_simp
      exact hK _ hb8
    · have s16 : a'.tmps[16]? = some (.pointer (some ⟨c.M, 0, none⟩)) := HT.out (9, 16) (by decide) (by cases ho; exact hd ⟨9, .data⟩ (by simp) rfl)
      cases ho
      clear hd HT hT hold hcl
      go_simp
      exact hK _ hb8
    · have s17 : a'.tmps[17]? = some (.pointer (some ⟨c.M, 0, none⟩)) := HT.out (10, 17) (by decide) (by cases ho; exact hd ⟨10, .data⟩ (by simp) rfl)
      cases ho
      clear hd HT hT hold hcl
      go_simp
      exact hK _ hb8
    · have s18 : a'.tmps[18]? = some (.pointer (some ⟨c.M, 2, none⟩)) := HT.out (11, 18) (by decide) (by cases ho; exact hd ⟨11, .data⟩ (by simp) rfl)
      cases ho
      clear hd HT hT hold hcl
      go_simp
      exact hK _ hb8
    · have s11 : a'.tmps[11]? = some (.int .i64 D) := HT.out (4, 11) (by decide) (by cases ho; exact hd ⟨4, .data⟩ (by simp) rfl)
      have s19 : a'.tmps[19]? = some (.int .i64 c.depth) := HT.out (12, 19) (by decide) (by cases ho; exact hd ⟨12, .data⟩ (by simp) rfl)
      cases ho
      clear hd HT hT hold hcl
      go_simp
      exact hK _ hb8
  intro L a' w2 hT hsz hd hb2
  clear hdp hkd
  have r0 : a'.tmps[0]? = some (.pointer (some ⟨B, 0, none⟩)) := (hT.out 0 (by decide)).trans rfl
  have r3 : a'.tmps[3]? = some (.pointer (some ⟨X, 0, none⟩)) := (hT.out 3 (by decide)).trans rfl
  have r20 : a'.tmps[20]? = some (.bool true) := hT.tab (13, 20) (by decide) (hd 13 (by decide))
  obtain ⟨_, r0'⟩ := Array.getElem?_eq_some_iff.1 r0
  obtain ⟨_, r3'⟩ := Array.getElem?_eq_some_iff.1 r3
  have hdf : a'.defers = [] := hT.dfs
  have hsz2 : a'.tmps.size = 82 := hT.sz.trans rfl
  have hb21 := Bl.trans (Bl.drew (Bl.refl w1)) hb2
  have HA2 : Hid (At1 c w w2 B X t S H ⟨9, a, b, d⟩) := ⟨HA1.out.m.bl hb21, HA1.out.e.bl hb21, row_bl HA1.out.x hb21, Bl.trans HA1.out.bl hb21⟩
  clear hT hsz hd hb2 hb21 HA1
  go_wp2_with fail
  refine wp_cond (t := true) (by show a'.tmps.getD 20 undef = _; rw [Array.getD_eq_getD_getElem?, r20]; rfl) ?_
  simp only [if_true]
  go_wp2_with fail
  refine (stops_any _ _ _).mono ?_
  rintro e w9 ⟨rfl, rfl⟩
  go_wp2_with fail
  exact ⟨rfl, rfl, HA2.out.bl⟩
end Go.Proofs.YtonndofbnhnkpaaGreat.Evl
