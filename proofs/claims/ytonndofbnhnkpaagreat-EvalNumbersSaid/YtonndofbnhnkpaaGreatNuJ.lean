/- The law of programs by numbers: the pieces of its walk. The law of programs by numbers: its walk. -/
import Derived.Test.YtonndofbnhnkpaaGreatEvlXJ
import Derived.Test.YtonndofbnhnkpaaGreatSmJ
import Derived.Test.YtonndofbnhnkpaaGreatPrgP
import Derived.Test.YtonndofbnhnkpaaGreatRfJ2
set_option linter.unusedVariables false
set_option linter.unusedSimpArgs false
set_option linter.unusedSectionVars false
namespace Go.Proofs.YtonndofbnhnkpaaGreat.Evl
open Go.RowKit Num KeyM KeyW StatW Blk VmA VmG Prg EvM Rf PutA CodA Frm
structure NuB (a : Act) (Rb Eb R : Nat) : Prop where
  sz : a.tmps.size = 93
  dfs : a.defers = []
  t8 : a.tmps[8]? = some (.pointer (some ⟨Rb, 0, none⟩))
  t9 : a.tmps[9]? = some (.int .i64 0)
  t10 : a.tmps[10]? = some (.pointer (some ⟨Eb, 0, none⟩))
  t11 : a.tmps[11]? = some (.pointer (some ⟨R, 0, none⟩))
  t12 : a.tmps[12]? = some (.int .i64 0)
def idxnu6 : List (Nat × Nat) := [(0, 33), (1, 34), (2, 35), (3, 36), (4, 37), (5, 38), (6, 39), (7, 40), (8, 41), (9, 42), (10, 43), (11, 44), (12, 45), (13, 46), (14, 47), (15, 48), (16, 49), (17, 50), (18, 51), (19, 52), (20, 53), (21, 54), (22, 55), (23, 56), (24, 57), (25, 58), (26, 59), (27, 60), (28, 61), (29, 62), (30, 63), (31, 64), (32, 65), (33, 66), (34, 67), (35, 68), (36, 69), (37, 70), (38, 71), (39, 72), (40, 73), (41, 74), (42, 75), (43, 76), (44, 77), (45, 78), (46, 79), (47, 80), (48, 81), (49, 82), (50, 83), (51, 84), (52, 85), (53, 86), (54, 87), (55, 88), (56, 89), (57, 90), (58, 91), (59, 92), (60, 6)]
def Vnu6 (Rb Eb R : Nat) (how val steps forks : Int) (over : Bool) (ra rb fa fb : Option Addr) (n rc rd k fc fd : Nat) : Nat → Value := fun sl => match sl with
  | 33 => .int .i64 0
  | 34 => .bool true
  | 35 => .bool true
  | 36 => .int .i64 0
  | 37 => .bool true
  | 38 => .bool true
  | 39 => .bool true
  | 40 => .pointer (some ⟨Rb, 7, none⟩)
  | 41 => .bool over
  | 42 => .pointer (some ⟨R, 0, none⟩)
  | 43 => .pointer (some ⟨R, 0, none⟩)
  | 44 => .pointer (some ⟨R, 10, none⟩)
  | 45 => .bool over
  | 46 => .bool true
  | 47 => .bool true
  | 48 => .bool true
  | 49 => .pointer (some ⟨Rb, 0, none⟩)
  | 50 => .agg #[.int .i64 how, .int .i64 val]
  | 51 => .agg #[.int .i64 how, .int .i64 val]
  | 52 => .bool true
  | 53 => .bool true
  | 54 => .bool true
  | 55 => .pointer (some ⟨Rb, 5, none⟩)
  | 56 => .int .i64 steps
  | 57 => .pointer (some ⟨R, 0, none⟩)
  | 58 => .pointer (some ⟨R, 0, none⟩)
  | 59 => .pointer (some ⟨R, 7, none⟩)
  | 60 => .int .i64 steps
  | 61 => .bool true
  | 62 => .bool true
  | 63 => .bool true
  | 64 => .pointer (some ⟨Rb, 6, none⟩)
  | 65 => .int .i64 forks
  | 66 => .pointer (some ⟨R, 0, none⟩)
  | 67 => .pointer (some ⟨R, 0, none⟩)
  | 68 => .pointer (some ⟨R, 8, none⟩)
  | 69 => .int .i64 forks
  | 70 => .bool true
  | 71 => .bool true
  | 72 => .bool true
  | 73 => .pointer (some ⟨Rb, 2, none⟩)
  | 74 => .slice ra n rc
  | 75 => .pointer (some ⟨R, 0, none⟩)
  | 76 => .pointer (some ⟨R, 0, none⟩)
  | 77 => .pointer (some ⟨R, 4, none⟩)
  | 78 => .slice rb n rd
  | 79 => .bool true
  | 80 => .bool true
  | 81 => .bool true
  | 82 => .pointer (some ⟨Rb, 3, none⟩)
  | 83 => .slice fa k fc
  | 84 => .pointer (some ⟨R, 0, none⟩)
  | 85 => .pointer (some ⟨R, 0, none⟩)
  | 86 => .pointer (some ⟨R, 5, none⟩)
  | 87 => .slice fb k fd
  | 88 => .bool true
  | 89 => .bool true
  | 90 => .bool true
  | 91 => .bool true
  | 92 => .bool true
  | 6 => .bool true
  | _ => undef
set_option maxRecDepth 100000 in
set_option maxHeartbeats 16000000 in
theorem nu_r6 (Rb Eb R : Nat) (how val steps forks : Int) (over : Bool) (ra rb fa fb : Option Addr) (n rc rd k fc fd : Nat) (w : World) (a : Act) (Q : Exit → Act → World → Prop) (ha : NuB a Rb Eb R)
    (wa : Option Addr) (wn wc : Nat) (hr : w.rowIs Rb 34 8 (resV how val (.slice ra n rc) (.slice fa k fc) (.slice wa wn wc) steps forks over)) (he : w.rowIs Eb 29 2 (fun j => if j = 0 then .int .i64 how else .int .i64 val))
    (r4 : w.cell? ⟨R, 4, none⟩ = some (.slice rb n rd)) (r5 : w.cell? ⟨R, 5, none⟩ = some (.slice fb k fd)) (r7 : w.cell? ⟨R, 7, none⟩ = some (.int .i64 steps)) (r8 : w.cell? ⟨R, 8, none⟩ = some (.int .i64 forks)) (r10 : w.cell? ⟨R, 10, none⟩ = some (.bool over))
    (hSR : ∀ w', Bl w w' → Calls Tryz.prog 12 #[.slice ra n rc, .slice rb n rd] w' fun e w'' => e = .returned (.bool true) ∧ Bl w' w'')
    (hSI : ∀ w', Bl w w' → Calls Tryz.prog 13 #[.slice fa k fc, .slice fb k fd] w' fun e w'' => e = .returned (.bool true) ∧ Bl w' w'')
    (hQ : ∀ (a' : Act) (w' : World), a'.tmps.size = 93 → a'.defers = [] → a'.tmps[6]? = some (.bool true) → Bl w w' → Q .normal a' w') : (nth 5 (bodyOf Tryz.f4)).wp Tryz.prog Q a w := by
  simp only [nth, bodyOf, Tryz.f4, Option.getD]
  obtain ⟨hsz, hdf, t8, t9, t10, t11, t12⟩ := ha
  refine Tab.region_tab2 (by kernel_rfl) idxnu6 [(2, 35, true), (6, 39, true), (15, 48, true), (21, 54, true), (30, 63, true), (39, 72, true), (48, 81, true), (57, 90, true)] 93 (Vnu6 Rb Eb R how val steps forks over ra rb fa fb n rc rd k fc fd) (fun _ w' => Bl w w') (by kernel_rfl) hsz (by kernel_rfl) (by intro q hq; simp at hq; rcases hq with rfl | rfl | rfl | rfl | rfl | rfl | rfl | rfl <;> exact ⟨by decide, rfl⟩) (Bl.drew (Bl.refl _)) ?_ ?_
  · intro L a' w' hT hsz' hd hb
    exact hQ a' w' (hT.sz.trans hsz) (hT.dfs.trans hdf) (hT.tab (60, 6) (by decide) (hd 60 (by decide))) hb
  · intro i' o L a' w8 K' Q' hT hsz' hb8 hL ho hd hK
    have hi' : i' < 61 := (Array.getElem?_eq_some_iff.1 ho).1
    have HT : Hid (∀ q ∈ idxnu6, L[q.1]? = some true → a'.tmps[q.2]? = some (Vnu6 Rb Eb R how val steps forks over ra rb fa fb n rc rd k fc fd q.2)) := hT.tab
    have hr8 := row_bl hr hb8
    have he8 := row_bl he hb8
    have hc8 : Ch (fun _ => False) w w8 := Ch.of_bl hb8
    have c0 : w8.cell? ⟨Rb, 0, none⟩ = some (.int .i64 how) := hr8.cell (i := 0) (by omega)
    have c1 : w8.cell? ⟨Rb, 1, none⟩ = some (.int .i64 val) := hr8.cell (i := 1) (by omega)
    have c2 : w8.cell? ⟨Rb, 2, none⟩ = some (.slice ra n rc) := hr8.cell (i := 2) (by omega)
    have c3 : w8.cell? ⟨Rb, 3, none⟩ = some (.slice fa k fc) := hr8.cell (i := 3) (by omega)
    have c5 : w8.cell? ⟨Rb, 5, none⟩ = some (.int .i64 steps) := hr8.cell (i := 5) (by omega)
    have c6 : w8.cell? ⟨Rb, 6, none⟩ = some (.int .i64 forks) := hr8.cell (i := 6) (by omega)
    have c7 : w8.cell? ⟨Rb, 7, none⟩ = some (.bool over) := hr8.cell (i := 7) (by omega)
    have e0 : w8.cell? ⟨Eb, 0, none⟩ = some (.int .i64 how) := he8.cell (i := 0) (by omega)
    have e1 : w8.cell? ⟨Eb, 1, none⟩ = some (.int .i64 val) := he8.cell (i := 1) (by omega)
    have d4 : w8.cell? ⟨R, 4, none⟩ = some (.slice rb n rd) := hc8.cell r4 id
    have d5 : w8.cell? ⟨R, 5, none⟩ = some (.slice fb k fd) := hc8.cell r5 id
    have d7 : w8.cell? ⟨R, 7, none⟩ = some (.int .i64 steps) := hc8.cell r7 id
    have d8 : w8.cell? ⟨R, 8, none⟩ = some (.int .i64 forks) := hc8.cell r8 id
    have d10 : w8.cell? ⟨R, 10, none⟩ = some (.bool over) := hc8.cell r10 id
    have l1 := hr8.lt
    have l2 := he8.lt
    have l3 : R < w8.heap.size := lt_of_cell d4
    have hsr := hSR w8 hb8
    have hsi := hSI w8 hb8
    have HB8 := Lib.hid hb8
    clear hQ hr he r4 r5 r7 r8 r10 hr8 he8 hc8 hb8 hSR hSI
    obtain rfl | rfl | rfl | rfl | rfl | rfl | rfl | rfl | rfl | rfl | rfl | rfl | rfl | rfl | rfl | rfl | rfl | rfl | rfl | rfl | rfl | rfl | rfl | rfl | rfl | rfl | rfl | rfl | rfl | rfl | rfl | rfl | rfl | rfl | rfl | rfl | rfl | rfl | rfl | rfl | rfl | rfl | rfl | rfl | rfl | rfl | rfl | rfl | rfl | rfl | rfl | rfl | rfl | rfl | rfl | rfl | rfl | rfl | rfl | rfl | rfl : i' = 0 ∨ i' = 1 ∨ i' = 2 ∨ i' = 3 ∨ i' = 4 ∨ i' = 5 ∨ i' = 6 ∨ i' = 7 ∨ i' = 8 ∨ i' = 9 ∨ i' = 10 ∨ i' = 11 ∨ i' = 12 ∨ i' = 13 ∨ i' = 14 ∨ i' = 15 ∨ i' = 16 ∨ i' = 17 ∨ i' = 18 ∨ i' = 19 ∨ i' = 20 ∨ i' = 21 ∨ i' = 22 ∨ i' = 23 ∨ i' = 24 ∨ i' = 25 ∨ i' = 26 ∨ i' = 27 ∨ i' = 28 ∨ i' = 29 ∨ i' = 30 ∨ i' = 31 ∨ i' = 32 ∨ i' = 33 ∨ i' = 34 ∨ i' = 35 ∨ i' = 36 ∨ i' = 37 ∨ i' = 38 ∨ i' = 39 ∨ i' = 40 ∨ i' = 41 ∨ i' = 42 ∨ i' = 43 ∨ i' = 44 ∨ i' = 45 ∨ i' = 46 ∨ i' = 47 ∨ i' = 48 ∨ i' = 49 ∨ i' = 50 ∨ i' = 51 ∨ i' = 52 ∨ i' = 53 ∨ i' = 54 ∨ i' = 55 ∨ i' = 56 ∨ i' = 57 ∨ i' = 58 ∨ i' = 59 ∨ i' = 60 := by omega
    · have s9 : a'.tmps[9]? = some (.int .i64 0) := (hT.out 9 (by decide)).trans t9
      cases ho
      clear hd HT hT
      go_simp
      exact hK _ HB8.out
    · have s33 : a'.tmps[33]? = some (.int .i64 0) := HT.out (0, 33) (by decide) (by cases ho; exact hd ⟨0, .data⟩ (by simp) rfl)
      cases ho
      clear hd HT hT
      go_simp
      exact hK _ HB8.out
    · have s34 : a'.tmps[34]? = some (.bool true) := HT.out (1, 34) (by decide) (by cases ho; exact hd ⟨1, .data⟩ (by simp) rfl)
      cases ho
      clear hd HT hT
      go_simp
      exact hK _ HB8.out
    · have s12 : a'.tmps[12]? = some (.int .i64 0) := (hT.out 12 (by decide)).trans t12
      cases ho
      clear hd HT hT
      go_simp
      exact hK _ HB8.out
    · have s36 : a'.tmps[36]? = some (.int .i64 0) := HT.out (3, 36) (by decide) (by cases ho; exact hd ⟨3, .data⟩ (by simp) rfl)
      cases ho
      clear hd HT hT
      go_simp
      exact hK _ HB8.out
    · have s35 : a'.tmps[35]? = some (.bool true) := HT.out (2, 35) (by decide) (by cases ho; exact hd ⟨2, .data⟩ (by simp) rfl)
      have s37 : a'.tmps[37]? = some (.bool true) := HT.out (4, 37) (by decide) (by cases ho; exact hd ⟨4, .data⟩ (by simp) rfl)
      cases ho
      clear hd HT hT
      go_simp
      exact hK _ HB8.out
    · have s38 : a'.tmps[38]? = some (.bool true) := HT.out (5, 38) (by decide) (by cases ho; exact hd ⟨5, .data⟩ (by simp) rfl)
      cases ho
      clear hd HT hT
      go_simp
      exact hK _ HB8.out
    · have s8 : a'.tmps[8]? = some (.pointer (some ⟨Rb, 0, none⟩)) := (hT.out 8 (by decide)).trans t8
      cases ho
      clear hd HT hT
      go_simp
      exact hK _ HB8.out
    · have s40 : a'.tmps[40]? = some (.pointer (some ⟨Rb, 7, none⟩)) := HT.out (7, 40) (by decide) (by cases ho; exact hd ⟨7, .data⟩ (by simp) rfl)
      cases ho
      clear hd HT hT
      go_simp
      exact hK _ HB8.out
    · have s11 : a'.tmps[11]? = some (.pointer (some ⟨R, 0, none⟩)) := (hT.out 11 (by decide)).trans t11
      cases ho
      clear hd HT hT
      go_simp
      exact hK _ HB8.out
    · have s42 : a'.tmps[42]? = some (.pointer (some ⟨R, 0, none⟩)) := HT.out (9, 42) (by decide) (by cases ho; exact hd ⟨9, .data⟩ (by simp) rfl)
      cases ho
      clear hd HT hT
      go_simp
      exact hK _ HB8.out
    · have s43 : a'.tmps[43]? = some (.pointer (some ⟨R, 0, none⟩)) := HT.out (10, 43) (by decide) (by cases ho; exact hd ⟨10, .data⟩ (by simp) rfl)
      cases ho
      clear hd HT hT
      go_simp
      exact hK _ HB8.out
    · have s44 : a'.tmps[44]? = some (.pointer (some ⟨R, 10, none⟩)) := HT.out (11, 44) (by decide) (by cases ho; exact hd ⟨11, .data⟩ (by simp) rfl)
      cases ho
      clear hd HT hT
      go_simp
      exact hK _ HB8.out
    · have s41 : a'.tmps[41]? = some (.bool over) := HT.out (8, 41) (by decide) (by cases ho; exact hd ⟨8, .data⟩ (by simp) rfl)
      have s45 : a'.tmps[45]? = some (.bool over) := HT.out (12, 45) (by decide) (by cases ho; exact hd ⟨12, .data⟩ (by simp) rfl)
      cases ho
      clear hd HT hT
      go_simp
      exact hK _ HB8.out
    · have s39 : a'.tmps[39]? = some (.bool true) := HT.out (6, 39) (by decide) (by cases ho; exact hd ⟨6, .data⟩ (by simp) rfl)
      have s46 : a'.tmps[46]? = some (.bool true) := HT.out (13, 46) (by decide) (by cases ho; exact hd ⟨13, .data⟩ (by simp) rfl)
      cases ho
      clear hd HT hT
      go_simp
      exact hK _ HB8.out
    · have s47 : a'.tmps[47]? = some (.bool true) := HT.out (14, 47) (by decide) (by cases ho; exact hd ⟨14, .data⟩ (by simp) rfl)
      cases ho
      clear hd HT hT
      go_simp
      exact hK _ HB8.out
    · have s8 : a'.tmps[8]? = some (.pointer (some ⟨Rb, 0, none⟩)) := (hT.out 8 (by decide)).trans t8
      cases ho
      clear hd HT hT
      go_simp
      exact hK _ HB8.out
    · have s49 : a'.tmps[49]? = some (.pointer (some ⟨Rb, 0, none⟩)) := HT.out (16, 49) (by decide) (by cases ho; exact hd ⟨16, .data⟩ (by simp) rfl)
      cases ho
      clear hd HT hT
      go_simp
      exact hK _ HB8.out
    · have s10 : a'.tmps[10]? = some (.pointer (some ⟨Eb, 0, none⟩)) := (hT.out 10 (by decide)).trans t10
      cases ho
      clear hd HT hT
      go_simp
      exact hK _ HB8.out
    · have s50 : a'.tmps[50]? = some (.agg #[.int .i64 how, .int .i64 val]) := HT.out (17, 50) (by decide) (by cases ho; exact hd ⟨17, .data⟩ (by simp) rfl)
      have s51 : a'.tmps[51]? = some (.agg #[.int .i64 how, .int .i64 val]) := HT.out (18, 51) (by decide) (by cases ho; exact hd ⟨18, .data⟩ (by simp) rfl)
      cases ho
      clear hd HT hT
      go_simp
      go_at_call 11
      refine (SmR.same_end _ _ _).mono ?_
      rintro e w9 ⟨rfl, hb9⟩
      go_simp
      exact hK _ (Bl.trans HB8.out hb9)
    · have s48 : a'.tmps[48]? = some (.bool true) := HT.out (15, 48) (by decide) (by cases ho; exact hd ⟨15, .data⟩ (by simp) rfl)
      have s52 : a'.tmps[52]? = some (.bool true) := HT.out (19, 52) (by decide) (by cases ho; exact hd ⟨19, .data⟩ (by simp) rfl)
      cases ho
      clear hd HT hT
      go_simp
      exact hK _ HB8.out
    · have s53 : a'.tmps[53]? = some (.bool true) := HT.out (20, 53) (by decide) (by cases ho; exact hd ⟨20, .data⟩ (by simp) rfl)
      cases ho
      clear hd HT hT
      go_simp
      exact hK _ HB8.out
    · have s8 : a'.tmps[8]? = some (.pointer (some ⟨Rb, 0, none⟩)) := (hT.out 8 (by decide)).trans t8
      cases ho
      clear hd HT hT
      go_simp
      exact hK _ HB8.out
    · have s55 : a'.tmps[55]? = some (.pointer (some ⟨Rb, 5, none⟩)) := HT.out (22, 55) (by decide) (by cases ho; exact hd ⟨22, .data⟩ (by simp) rfl)
      cases ho
      clear hd HT hT
      go_simp
      exact hK _ HB8.out
    · have s11 : a'.tmps[11]? = some (.pointer (some ⟨R, 0, none⟩)) := (hT.out 11 (by decide)).trans t11
      cases ho
      clear hd HT hT
      go_simp
      exact hK _ HB8.out
    · have s57 : a'.tmps[57]? = some (.pointer (some ⟨R, 0, none⟩)) := HT.out (24, 57) (by decide) (by cases ho; exact hd ⟨24, .data⟩ (by simp) rfl)
      cases ho
      clear hd HT hT
      go_simp
      exact hK _ HB8.out
    · have s58 : a'.tmps[58]? = some (.pointer (some ⟨R, 0, none⟩)) := HT.out (25, 58) (by decide) (by cases ho; exact hd ⟨25, .data⟩ (by simp) rfl)
      cases ho
      clear hd HT hT
      go_simp
      exact hK _ HB8.out
    · have s59 : a'.tmps[59]? = some (.pointer (some ⟨R, 7, none⟩)) := HT.out (26, 59) (by decide) (by cases ho; exact hd ⟨26, .data⟩ (by simp) rfl)
      cases ho
      clear hd HT hT
      go_simp
      exact hK _ HB8.out
    · have s56 : a'.tmps[56]? = some (.int .i64 steps) := HT.out (23, 56) (by decide) (by cases ho; exact hd ⟨23, .data⟩ (by simp) rfl)
      have s60 : a'.tmps[60]? = some (.int .i64 steps) := HT.out (27, 60) (by decide) (by cases ho; exact hd ⟨27, .data⟩ (by simp) rfl)
      cases ho
      clear hd HT hT
      go_simp
      exact hK _ HB8.out
    · have s54 : a'.tmps[54]? = some (.bool true) := HT.out (21, 54) (by decide) (by cases ho; exact hd ⟨21, .data⟩ (by simp) rfl)
      have s61 : a'.tmps[61]? = some (.bool true) := HT.out (28, 61) (by decide) (by cases ho; exact hd ⟨28, .data⟩ (by simp) rfl)
      cases ho
      clear hd HT hT
      go_simp
      exact hK _ HB8.out
    · have s62 : a'.tmps[62]? = some (.bool true) := HT.out (29, 62) (by decide) (by cases ho; exact hd ⟨29, .data⟩ (by simp) rfl)
      cases ho
      clear hd HT hT
      go_simp
      exact hK _ HB8.out
    · have s8 : a'.tmps[8]? = some (.pointer (some ⟨Rb, 0, none⟩)) := (hT.out 8 (by decide)).trans t8
      cases ho
      clear hd HT hT
      go_simp
      exact hK _ HB8.out
    · have s64 : a'.tmps[64]? = some (.pointer (some ⟨Rb, 6, none⟩)) := HT.out (31, 64) (by decide) (by cases ho; exact hd ⟨31, .data⟩ (by simp) rfl)
      cases ho
      clear hd HT hT
      go_simp
      exact hK _ HB8.out
    · have s11 : a'.tmps[11]? = some (.pointer (some ⟨R, 0, none⟩)) := (hT.out 11 (by decide)).trans t11
      cases ho
      clear hd HT hT
      go_simp
      exact hK _ HB8.out
    · have s66 : a'.tmps[66]? = some (.pointer (some ⟨R, 0, none⟩)) := HT.out (33, 66) (by decide) (by cases ho; exact hd ⟨33, .data⟩ (by simp) rfl)
      cases ho
      clear hd HT hT
      go_simp
      exact hK _ HB8.out
    · have s67 : a'.tmps[67]? = some (.pointer (some ⟨R, 0, none⟩)) := HT.out (34, 67) (by decide) (by cases ho; exact hd ⟨34, .data⟩ (by simp) rfl)
      cases ho
      clear hd HT hT
      go_simp
      exact hK _ HB8.out
    · have s68 : a'.tmps[68]? = some (.pointer (some ⟨R, 8, none⟩)) := HT.out (35, 68) (by decide) (by cases ho; exact hd ⟨35, .data⟩ (by simp) rfl)
      cases ho
      clear hd HT hT
      go_simp
      exact hK _ HB8.out
    · have s65 : a'.tmps[65]? = some (.int .i64 forks) := HT.out (32, 65) (by decide) (by cases ho; exact hd ⟨32, .data⟩ (by simp) rfl)
      have s69 : a'.tmps[69]? = some (.int .i64 forks) := HT.out (36, 69) (by decide) (by cases ho; exact hd ⟨36, .data⟩ (by simp) rfl)
      cases ho
      clear hd HT hT
      go_simp
      exact hK _ HB8.out
    · have s63 : a'.tmps[63]? = some (.bool true) := HT.out (30, 63) (by decide) (by cases ho; exact hd ⟨30, .data⟩ (by simp) rfl)
      have s70 : a'.tmps[70]? = some (.bool true) := HT.out (37, 70) (by decide) (by cases ho; exact hd ⟨37, .data⟩ (by simp) rfl)
      cases ho
      clear hd HT hT
      go_simp
      exact hK _ HB8.out
    · have s71 : a'.tmps[71]? = some (.bool true) := HT.out (38, 71) (by decide) (by cases ho; exact hd ⟨38, .data⟩ (by simp) rfl)
      cases ho
      clear hd HT hT
      go_simp
      exact hK _ HB8.out
    · have s8 : a'.tmps[8]? = some (.pointer (some ⟨Rb, 0, none⟩)) := (hT.out 8 (by decide)).trans t8
      cases ho
      clear hd HT hT
      go_simp
      exact hK _ HB8.out
    · have s73 : a'.tmps[73]? = some (.pointer (some ⟨Rb, 2, none⟩)) := HT.out (40, 73) (by decide) (by cases ho; exact hd ⟨40, .data⟩ (by simp) rfl)
      cases ho
      clear hd HT hT
      go_simp
      exact hK _ HB8.out
    · have s11 : a'.tmps[11]? = some (.pointer (some ⟨R, 0, none⟩)) := (hT.out 11 (by decide)).trans t11
      cases ho
      clear hd HT hT
      go_simp
      exact hK _ HB8.out
    · have s75 : a'.tmps[75]? = some (.pointer (some ⟨R, 0, none⟩)) := HT.out (42, 75) (by decide) (by cases ho; exact hd ⟨42, .data⟩ (by simp) rfl)
      cases ho
      clear hd HT hT
      go_simp
      exact hK _ HB8.out
    · have s76 : a'.tmps[76]? = some (.pointer (some ⟨R, 0, none⟩)) := HT.out (43, 76) (by decide) (by cases ho; exact hd ⟨43, .data⟩ (by simp) rfl)
      cases ho
      clear hd HT hT
      go_simp
      exact hK _ HB8.out
    · have s77 : a'.tmps[77]? = some (.pointer (some ⟨R, 4, none⟩)) := HT.out (44, 77) (by decide) (by cases ho; exact hd ⟨44, .data⟩ (by simp) rfl)
      cases ho
      clear hd HT hT
      go_simp
      exact hK _ HB8.out
    · have s74 : a'.tmps[74]? = some (.slice ra n rc) := HT.out (41, 74) (by decide) (by cases ho; exact hd ⟨41, .data⟩ (by simp) rfl)
      have s78 : a'.tmps[78]? = some (.slice rb n rd) := HT.out (45, 78) (by decide) (by cases ho; exact hd ⟨45, .data⟩ (by simp) rfl)
      cases ho
      clear hd HT hT
      go_simp
      go_at_call 12
      refine hsr.mono ?_
      rintro e w9 ⟨rfl, hb9⟩
      go_simp
      exact hK _ (Bl.trans HB8.out hb9)
    · have s72 : a'.tmps[72]? = some (.bool true) := HT.out (39, 72) (by decide) (by cases ho; exact hd ⟨39, .data⟩ (by simp) rfl)
      have s79 : a'.tmps[79]? = some (.bool true) := HT.out (46, 79) (by decide) (by cases ho; exact hd ⟨46, .data⟩ (by simp) rfl)
      cases ho
      clear hd HT hT
      go_simp
      exact hK _ HB8.out
    · have s80 : a'.tmps[80]? = some (.bool true) := HT.out (47, 80) (by decide) (by cases ho; exact hd ⟨47, .data⟩ (by simp) rfl)
      cases ho
      clear hd HT hT
      go_simp
      exact hK _ HB8.out
    · have s8 : a'.tmps[8]? = some (.pointer (some ⟨Rb, 0, none⟩)) := (hT.out 8 (by decide)).trans t8
      cases ho
      clear hd HT hT
      go_simp
      exact hK _ HB8.out
    · have s82 : a'.tmps[82]? = some (.pointer (some ⟨Rb, 3, none⟩)) := HT.out (49, 82) (by decide) (by cases ho; exact hd ⟨49, .data⟩ (by simp) rfl)
      cases ho
      clear hd HT hT
      go_simp
      exact hK _ HB8.out
    · have s11 : a'.tmps[11]? = some (.pointer (some ⟨R, 0, none⟩)) := (hT.out 11 (by decide)).trans t11
      cases ho
      clear hd HT hT
      go_simp
      exact hK _ HB8.out
    · have s84 : a'.tmps[84]? = some (.pointer (some ⟨R, 0, none⟩)) := HT.out (51, 84) (by decide) (by cases ho; exact hd ⟨51, .data⟩ (by simp) rfl)
      cases ho
      clear hd HT hT
      go_simp
      exact hK _ HB8.out
    · have s85 : a'.tmps[85]? = some (.pointer (some ⟨R, 0, none⟩)) := HT.out (52, 85) (by decide) (by cases ho; exact hd ⟨52, .data⟩ (by simp) rfl)
      cases ho
      clear hd HT hT
      go_simp
      exact hK _ HB8.out
    · have s86 : a'.tmps[86]? = some (.pointer (some ⟨R, 5, none⟩)) := HT.out (53, 86) (by decide) (by cases ho; exact hd ⟨53, .data⟩ (by simp) rfl)
      cases ho
      clear hd HT hT
      go_simp
      exact hK _ HB8.out
    · have s83 : a'.tmps[83]? = some (.slice fa k fc) := HT.out (50, 83) (by decide) (by cases ho; exact hd ⟨50, .data⟩ (by simp) rfl)
      have s87 : a'.tmps[87]? = some (.slice fb k fd) := HT.out (54, 87) (by decide) (by cases ho; exact hd ⟨54, .data⟩ (by simp) rfl)
      cases ho
      clear hd HT hT
      go_simp
      go_at_call 13
      refine hsi.mono ?_
      rintro e w9 ⟨rfl, hb9⟩
      go_simp
      exact hK _ (Bl.trans HB8.out hb9)
    · have s81 : a'.tmps[81]? = some (.bool true) := HT.out (48, 81) (by decide) (by cases ho; exact hd ⟨48, .data⟩ (by simp) rfl)
      have s88 : a'.tmps[88]? = some (.bool true) := HT.out (55, 88) (by decide) (by cases ho; exact hd ⟨55, .data⟩ (by simp) rfl)
      cases ho
      clear hd HT hT
      go_simp
      exact hK _ HB8.out
    · have s89 : a'.tmps[89]? = some (.bool true) := HT.out (56, 89) (by decide) (by cases ho; exact hd ⟨56, .data⟩ (by simp) rfl)
      cases ho
      clear hd HT hT
      go_simp
      exact hK _ HB8.out
    · cases ho
      clear hd HT hT
      go_simp
      go_at_call 6
      refine (awake44 _).mono ?_
      rintro e w9 ⟨rfl, hb9⟩
      go_simp
      exact hK _ (Bl.trans HB8.out hb9)
    · have s90 : a'.tmps[90]? = some (.bool true) := HT.out (57, 90) (by decide) (by cases ho; exact hd ⟨57, .data⟩ (by simp) rfl)
      have s91 : a'.tmps[91]? = some (.bool true) := HT.out (58, 91) (by decide) (by cases ho; exact hd ⟨58, .data⟩ (by simp) rfl)
      cases ho
      clear hd HT hT
      go_simp
      exact hK _ HB8.out
    · have s92 : a'.tmps[92]? = some (.bool true) := HT.out (59, 92) (by decide) (by cases ho; exact hd ⟨59, .data⟩ (by simp) rfl)
      cases ho
      clear hd HT hT
      go_simp
      exact hK _ HB8.out
end Go.Proofs.YtonndofbnhnkpaaGreat.Evl
set_option linter.unusedVariables false
set_option linter.unusedSimpArgs false
set_option linter.unusedSectionVars false
namespace Go.Proofs.YtonndofbnhnkpaaGreat.Evl
open Go.RowKit Num KeyM KeyW StatW Blk VmA VmG Prg EvM Rf PutA CodA Frm
structure NuS (a : Act) (ns : Value) (arg : Int) (cn : Bool) : Prop where
  sz : a.tmps.size = 93
  dfs : a.defers = []
  t0 : a.tmps[0]? = some ns
  t1 : a.tmps[1]? = some (.int .i64 arg)
  t2 : a.tmps[2]? = some (.bool cn)
structure NuT (a : Act) (arg : Int) (Zb : Nat) : Prop where
  sz : a.tmps.size = 93
  dfs : a.defers = []
  t1 : a.tmps[1]? = some (.int .i64 arg)
  t7 : a.tmps[7]? = some (.pointer (some ⟨Zb, 0, none⟩))
structure NuU (a : Act) (arg : Int) (Zb Rb : Nat) : Prop extends NuT a arg Zb where
  t8 : a.tmps[8]? = some (.pointer (some ⟨Rb, 0, none⟩))
  t9 : a.tmps[9]? = some (.int .i64 0)
section
variable (arg : Int) (cn : Bool) (nsA : Option Addr) (la ca : Nat) (w : World) (a : Act) (Q : Exit → Act → World → Prop)
set_option maxRecDepth 100000 in
set_option maxHeartbeats 8000000 in
theorem nu_r0 (ha : NuS a (.slice nsA la ca) arg cn) (hQ : ∀ a' : Act, NuS a' (.slice nsA la ca) arg cn → Q .normal a' w) : (nth 0 (bodyOf Tryz.f4)).wp Tryz.prog Q a w := by
  simp only [nth, bodyOf, Tryz.f4, Option.getD]
  obtain ⟨hsz, hdf, t0, t1, t2⟩ := ha
  have HQ := Lib.hid hQ
  clear hQ
  go_wp2_with fail
  exact HQ.out _ ⟨by simp [hsz], by first | rfl | exact hdf, by simp [Array.getElem?_setIfInBounds, t0], by simp [Array.getElem?_setIfInBounds, t1], by simp [Array.getElem?_setIfInBounds, t2]⟩
set_option maxRecDepth 100000 in
set_option maxHeartbeats 8000000 in
theorem nu_r1 (ha : NuS a (.slice nsA la ca) arg cn) (hQ : ∀ a' : Act, NuS a' (.slice nsA la ca) arg cn → a'.tmps[15]? = some (.bool (decide ((100 : Int) < (la : Int)))) → Q .normal a' w) : (nth 0 (nth 1 (bodyOf Tryz.f4))).wp Tryz.prog Q a w := by
  simp only [nth, bodyOf, Tryz.f4, Option.getD]
  obtain ⟨hsz, hdf, t0, t1, t2⟩ := ha
  obtain ⟨_, t0'⟩ := get_of t0
  have HQ := Lib.hid hQ
  clear hQ
  go_wp2_with fail
  exact HQ.out _ ⟨by simp [hsz], by first | rfl | exact hdf, by simp [Array.getElem?_setIfInBounds, t0], by simp [Array.getElem?_setIfInBounds, t1], by simp [Array.getElem?_setIfInBounds, t2]⟩ (by simp [Array.getElem?_setIfInBounds, hsz])
set_option maxRecDepth 100000 in
set_option maxHeartbeats 8000000 in
theorem nu_c1y (ha : NuS a (.slice nsA la ca) arg cn) (h : a.tmps[15]? = some (.bool true)) (hQ : ∀ (a' : Act) (w' : World), a'.tmps.size = 93 → a'.defers = [] → a'.tmps[6]? = some (.bool true) → Bl w w' → Q .ret a' w') : (nth 1 (nth 1 (bodyOf Tryz.f4))).wp Tryz.prog Q a w := by
  simp only [nth, bodyOf, Tryz.f4, Option.getD]
  obtain ⟨hsz, hdf, t0, t1, t2⟩ := ha
  have HQ := Lib.hid hQ
  clear hQ
  refine wp_cond (t := true) (by show a.tmps.getD 15 undef = _; rw [Array.getD_eq_getD_getElem?, h]; rfl) ?_
  simp only [if_true]
  go_wp2_with (first | (go_at_call 6; refine (awake44 _).mono ?_; rintro e w9 ⟨rfl, hb9⟩))
  exact HQ.out _ _ (by simp [hsz]) (by first | rfl | exact hdf) (by simp [Array.getElem?_setIfInBounds, hsz]) hb9
theorem nu_c1 (h : a.tmps[15]? = some (.bool false)) (hQ : Q .normal a w) : (nth 1 (nth 1 (bodyOf Tryz.f4))).wp Tryz.prog Q a w := by
  simp only [nth, bodyOf, Tryz.f4, Option.getD]
  refine wp_cond_false (by show a.tmps.getD 15 undef = _; rw [Array.getD_eq_getD_getElem?, h]; rfl) ?_
  go_wp2_with fail
  exact hQ
set_option maxRecDepth 100000 in
set_option maxHeartbeats 8000000 in
theorem nu_r3 (X : Option Addr → Nat → Nat → Int → Int → Int → World → Prop) (ha : NuS a (.slice nsA la ca) arg cn)
    (hP : Calls Tryz.prog 15 #[.slice nsA la ca, .bool cn] w fun e w' => ∃ A n c futs depth fuel, e = .returned (.agg #[.slice A n c, .int .i64 futs, .int .i64 depth, .int .i64 fuel]) ∧ X A n c futs depth fuel w')
    (hQ : ∀ (a' : Act) (w' : World) (A : Option Addr) (n c : Nat) (futs depth fuel : Int), NuT a' arg w'.heap.size → X A n c futs depth fuel w' → Q .normal a' (w'.alloc (.cells #[.slice A n c, .int .i64 futs, .int .i64 depth, .int .i64 fuel] 24))) : (nth 2 (bodyOf Tryz.f4)).wp Tryz.prog Q a w := by
  simp only [nth, bodyOf, Tryz.f4, Option.getD]
  obtain ⟨hsz, hdf, t0, t1, t2⟩ := ha
  obtain ⟨_, t0'⟩ := get_of t0
  obtain ⟨_, t2'⟩ := get_of t2
  have HQ := Lib.hid hQ
  have HP := Lib.hid hP
  clear hQ hP
  go_wp2_with fail
  refine HP.out.mono ?_
  rintro e w2 ⟨A, n, c, futs, depth, fuel, rfl, hx⟩
  have HX := Lib.hid hx
  clear hx
  go_wp2_with fail
  exact HQ.out _ _ A n c futs depth fuel ⟨by simp [hsz], by first | rfl | exact hdf, by simp [Array.getElem?_setIfInBounds, t1], by simp [Array.getElem?_setIfInBounds, hsz]⟩ HX.out
set_option maxRecDepth 100000 in
set_option maxHeartbeats 8000000 in
theorem nu_r4 (Zb : Nat) (A : Option Addr) (n c : Nat) (futs depth fuel how val steps forks : Int) (over : Bool) (X : Option Addr → Nat → Nat → Option Addr → Nat → Nat → World → Prop) (ha : NuT a arg Zb) (hz : w.rowIs Zb 24 4 (four (.slice A n c) (.int .i64 futs) (.int .i64 depth) (.int .i64 fuel)))
    (hE : Calls Tryz.prog 8 #[.agg #[.slice A n c, .int .i64 futs, .int .i64 depth, .int .i64 fuel], .int .i64 arg, .int .i64 1500] w fun e w' => ∃ (ra fa wa : Option Addr) (rn rc fn fc wn wc : Nat), e = .returned (.tuple #[resAgg how val (.slice ra rn rc) (.slice fa fn fc) (.slice wa wn wc) steps forks over, .int .i64 0]) ∧ X ra rn rc fa fn fc w')
    (hQ : ∀ (a' : Act) (w' : World) (ra fa wa : Option Addr) (rn rc fn fc wn wc : Nat), NuU a' arg Zb w'.heap.size → X ra rn rc fa fn fc w' → Q .normal a' (w'.alloc (.cells #[.int .i64 how, .int .i64 val, .slice ra rn rc, .slice fa fn fc, .slice wa wn wc, .int .i64 steps, .int .i64 forks, .bool over] 34))) : (nth 3 (bodyOf Tryz.f4)).wp Tryz.prog Q a w := by
  simp only [nth, bodyOf, Tryz.f4, Option.getD]
  unfold resAgg at hE
  obtain ⟨hsz, hdf, t1, t7⟩ := ha
  obtain ⟨_, t1'⟩ := get_of t1
  obtain ⟨_, t7'⟩ := get_of t7
  obtain ⟨⟨x0, x1, x2, x3⟩, _⟩ := row4_cells hz
  have lZ := hz.lt
  have HQ := Lib.hid hQ
  have HE := Lib.hid hE
  clear hQ hE hz
  go_wp2_with fail
  refine HE.out.mono ?_
  rintro e w2 ⟨ra, fa, wa, rn, rc, fn, fc, wn, wc, rfl, hx⟩
  have HX := Lib.hid hx
  clear hx x0 x1 x2 x3 lZ
  go_wp2_with fail
  exact HQ.out _ _ ra fa wa rn rc fn fc wn wc ⟨⟨by simp [hsz], by first | rfl | exact hdf, by simp [Array.getElem?_setIfInBounds, t1], by simp [Array.getElem?_setIfInBounds, t7]⟩, by simp [Array.getElem?_setIfInBounds, hsz], by simp [Array.getElem?_setIfInBounds, hsz]⟩ HX.out
set_option maxRecDepth 100000 in
set_option maxHeartbeats 8000000 in
theorem nu_r5 (Zb Rb : Nat) (A : Option Addr) (n c : Nat) (futs depth fuel how val : Int) (X : Nat → World → Prop) (ha : NuU a arg Zb Rb) (hz : w.rowIs Zb 24 4 (four (.slice A n c) (.int .i64 futs) (.int .i64 depth) (.int .i64 fuel)))
    (hE : Calls Tryz.prog 10 #[.agg #[.slice A n c, .int .i64 futs, .int .i64 depth, .int .i64 fuel], .int .i64 arg, .int .i64 1500] w fun e w' => ∃ R : Nat, e = .returned (.tuple #[.agg #[.int .i64 how, .int .i64 val], .pointer (some ⟨R, 0, none⟩), .int .i64 0]) ∧ X R w')
    (hQ : ∀ (a' : Act) (w' : World) (R : Nat), NuB a' Rb w'.heap.size R → X R w' → Q .normal a' (w'.alloc (.cells #[.int .i64 how, .int .i64 val] 29))) : (nth 4 (bodyOf Tryz.f4)).wp Tryz.prog Q a w := by
  simp only [nth, bodyOf, Tryz.f4, Option.getD]
  obtain ⟨⟨hsz, hdf, t1, t7⟩, t8, t9⟩ := ha
  obtain ⟨_, t1'⟩ := get_of t1
  obtain ⟨_, t7'⟩ := get_of t7
  obtain ⟨⟨x0, x1, x2, x3⟩, _⟩ := row4_cells hz
  have lZ := hz.lt
  have HQ := Lib.hid hQ
  have HE := Lib.hid hE
  clear hQ hE hz
  go_wp2_with fail
  refine HE.out.mono ?_
  rintro e w2 ⟨R, rfl, hx⟩
  have HX := Lib.hid hx
  clear hx x0 x1 x2 x3 lZ
  go_wp2_with fail
  exact HQ.out _ _ R ⟨by simp [hsz], by first | rfl | exact hdf, by simp [Array.getElem?_setIfInBounds, t8], by simp [Array.getElem?_setIfInBounds, t9], by simp [Array.getElem?_setIfInBounds, hsz], by simp [Array.getElem?_setIfInBounds, hsz], by simp [Array.getElem?_setIfInBounds, hsz]⟩ HX.out
end
theorem own_cells {w : World} {base n g cap size : Nat} {e : TypeId} {xs : List Value} (h : w.ownsRow base e size (.slice (some ⟨g, 0, none⟩) n cap) n xs) {k : Nat} {u : Value} (hk : xs[k]? = some u) : w.cell? ⟨g, k, none⟩ = some u := by
  obtain ⟨h1, ⟨h2, _⟩ | ⟨g', cap', cur, h2, h3, h4, h5, h6, h7, h8⟩⟩ := h
  · cases h2
  · injection h2 with h2 _ _
    injection h2 with h2
    injection h2 with h2
    subst h2
    rw [cell_of_row _ _ _ _ _ _ h4, ← Array.getElem?_toList]
    have hkl : k < n * size := by
      have := (List.getElem?_eq_some_iff.1 hk).1
      omega
    rw [← h8, List.getElem?_take, if_pos hkl] at hk
    exact hk
theorem own_one {w : World} {base n size : Nat} {e : TypeId} {ra : Option Addr} {rn rc : Nat} {xs : List Value} (h : w.ownsRow base e size (.slice ra rn rc) n xs) (hn : 1 ≤ n) : ∃ g, ra = some ⟨g, 0, none⟩ ∧ rn = n := by
  obtain ⟨h1, ⟨h2, h3⟩ | ⟨g', cap', cur, h2, _⟩⟩ := h
  · omega
  · injection h2 with h2 h3 h4
    exact ⟨g', h2, h3⟩
def ran5 (m : List FRan) (i j : Nat) : Int := match m[i]? with
  | some r => if j = 0 then r.key else if j = 1 then r.fn else if j = 2 then r.arg else if j = 3 then r.how else r.val
  | none => 0
theorem fives5 {w : World} {base rn cap : Nat} {A : Option Addr} {m : List FRan} (h : w.ownsRow base 67 5 (.slice A rn cap) m.length (rcs5 m)) (hm : 1 ≤ m.length) : rn = m.length ∧ SmR.Fives w A m.length (ran5 m) := by
  obtain ⟨g, rfl, rfl⟩ := own_one h hm
  refine ⟨rfl, fun h0 => ⟨g, rfl, fun i j hi hj => ?_⟩⟩
  obtain ⟨r, hr⟩ : ∃ r, m[i]? = some r := ⟨_, List.getElem?_eq_getElem hi⟩
  refine own_cells h ((rcs5_get m i j r hr hj).trans ?_)
  unfold ran5
  rw [hr]
  obtain rfl | rfl | rfl | rfl | rfl : j = 0 ∨ j = 1 ∨ j = 2 ∨ j = 3 ∨ j = 4 := by omega
  all_goals rfl
theorem same_ints0 (w : World) : Calls Tryz.prog 13 #[.slice none 0 0, .slice none 0 0] w fun e w' => e = .returned (.bool true) ∧ Bl w w' := by
  go_enter Tryz.func13, Tryz.ntmps13
  go_wp2_with fail
  go_loopw [5] (fun c wr => c = .int .i64 0 ∧ Bl w wr) (fun c _ => 0)
  case atStart => exact ⟨rfl, Bl.refl _⟩
  case round =>
    obtain ⟨rfl, hb⟩ := hrel
    go_wp2_with fail
    go_ret
    exact ⟨rfl, hb⟩
theorem body4 : bodyOf Tryz.f4 = .seq (nth 0 (bodyOf Tryz.f4)) (.seq (.seq (nth 0 (nth 1 (bodyOf Tryz.f4))) (nth 1 (nth 1 (bodyOf Tryz.f4)))) (.seq (nth 2 (bodyOf Tryz.f4)) (.seq (nth 3 (bodyOf Tryz.f4)) (.seq (nth 4 (bodyOf Tryz.f4)) (.seq (nth 5 (bodyOf Tryz.f4)) .ret))))) := by kernel_rfl
theorem code_bl {w w' : World} {A : Option Addr} {fs : List (List Ins)} (hC : CodeAt w.heap.size w A fs) (hb : Bl w w') : CodeAt w'.heap.size w' A fs :=
  Prg.CodeAt.mono (CodeAt.later (S := fun _ => False) hC (Ch.of_bl hb) (fun _ _ h => h)) hb.size
theorem res_row (w : World) (how val steps forks : Int) (vr vf vw : Value) (over : Bool) : (w.alloc (.cells #[.int .i64 how, .int .i64 val, vr, vf, vw, .int .i64 steps, .int .i64 forks, .bool over] 34)).rowIs w.heap.size 34 8 (resV how val vr vf vw steps forks over) :=
  World.rowIs_alloc w #[.int .i64 how, .int .i64 val, vr, vf, vw, .int .i64 steps, .int .i64 forks, .bool over] 34 _ (by
    show ∀ i, i < 8 → _
    repeat refine all_lt ?_ rfl
    exact all_none)
theorem end_row (w : World) (how val : Int) : (w.alloc (.cells #[.int .i64 how, .int .i64 val] 29)).rowIs w.heap.size 29 2 (fun j => if j = 0 then .int .i64 how else .int .i64 val) :=
  World.rowIs_alloc w #[.int .i64 how, .int .i64 val] 29 _ (by
    show ∀ i, i < 2 → _
    repeat refine all_lt ?_ rfl
    exact all_none)
theorem numbers_wp (a0 : Option Addr) (la ca : Nat) (zs : List Int) (arg : Int) (cn : Bool) (w : World) (a : Act) (Q : Exit → Act → World → Prop) (hrow : IsRow .i64 w a0 la ca zs) (ha : NuS a (.slice a0 la ca) arg cn)
    (hQ : ∀ (a' : Act) (w' : World), a'.tmps.size = 93 → a'.defers = [] → a'.tmps[6]? = some (.bool true) → Bl w w' → Q .ret a' w') : (bodyOf Tryz.f4).wp Tryz.prog Q a w := by
  rw [body4]
  refine seq_then fun K1 g1 => ?_
  refine nu_r0 arg cn a0 la ca w a _ ha fun a1 ha1 => g1 _ _ ?_
  refine seq_then fun K2 g2 => ?_
  refine seq_then fun K3 g3 => ?_
  refine nu_r1 arg cn a0 la ca w a1 _ ha1 fun a2 ha2 h15 => g3 _ _ ?_
  by_cases hl : 100 < la
  · exact nu_c1y arg cn a0 la ca w a2 _ ha2 (by rw [h15]; simp; omega) hQ
  refine nu_c1 w a2 _ (by rw [h15]; simp; omega) (g2 _ _ ?_)
  refine seq_then fun K4 g4 => ?_
  refine nu_r3 arg cn a0 la ca w a2 _ (fun A n c futs depth fuel w' => ∃ fs : List (List Ins), n = fs.length ∧ PV fs futs depth fuel ∧ CodeAt w'.heap.size w' A fs ∧ Bl w w') ha2 ((Prg.prog_any a0 la ca zs cn w hrow).mono ?_) (fun a3 w3 A n pc futs depth fuel ha3 hX => g4 _ _ ?_)
  · rintro e w' ⟨pa, pc, futs, depth, fuel, fs, he, h1, h2, h3⟩
    exact ⟨pa, _, pc, futs, depth, fuel, he, fs, rfl, h1, h2, h3⟩
  obtain ⟨fs, rfl, hP, hC3, hb3⟩ := hX
  obtain ⟨F, rfl⟩ : ∃ F : Nat, futs = F := ⟨futs.toNat, by have := hP.futs0; omega⟩
  obtain ⟨r1, r2, r3⟩ := root_facts
  have hone := hP.one
  have hdp := hP.dep1
  have hfu := hP.fuel0
  have hf16 := hP.futs1
  obtain ⟨n, ⟨u, S2⟩, hev⟩ := term (most := 1500) hP 5 fuel.toNat (rt0 0 arg rootK fuel) s0e (by show dep rootK + (5 : Nat) = 5; rw [r2]; rfl) (by show fuel = _; omega) (rok_new hP (n := 0) rfl (by omega) r1)
  have hz4 := row4_alloc w3 (.slice A fs.length pc) (.int .i64 F) (.int .i64 depth) (.int .i64 fuel) 24
  have hb4 : Bl w (w3.alloc (.cells #[.slice A fs.length pc, .int .i64 F, .int .i64 depth, .int .i64 fuel] 24)) := Bl.alloc hb3 _
  have hC4 := code_bl hC3 (Bl.alloc (Bl.refl w3) (.cells #[.slice A fs.length pc, .int .i64 F, .int .i64 depth, .int .i64 fuel] 24))
  generalize w3.alloc (.cells #[.slice A fs.length pc, .int .i64 F, .int .i64 depth, .int .i64 fuel] 24) = w4 at *
  generalize w3.heap.size = Zb at *
  refine seq_then fun K5 g5 => ?_
  cases ho : S2.over with
  | true =>
    refine nu_r4 arg w4 a3 _ Zb A fs.length pc F depth fuel 0 0 0 0 true (fun ra rn rc fa fn fc w' => ra = none ∧ rn = 0 ∧ rc = 0 ∧ fa = none ∧ fn = 0 ∧ fc = 0 ∧ Bl w4 w') ha3 hz4 ((eval_over A pc F depth fuel arg 1500 fs w4 hP hC4 (by decide) (by decide) n u S2 hev ho).mono ?_) (fun a5 w5 ra fa wa rn rc fn fc wn wc ha5 hX => g5 _ _ ?_)
    · rintro e w' ⟨he, hb⟩
      exact ⟨none, none, none, 0, 0, 0, 0, 0, 0, he, rfl, rfl, rfl, rfl, rfl, rfl, hb⟩
    obtain ⟨rfl, rfl, rfl, rfl, rfl, rfl, hb5⟩ := hX
    have hrR := res_row w5 0 0 0 0 (.slice none 0 0) (.slice none 0 0) (.slice wa wn wc) true
    have hb6 := Bl.alloc hb5 (.cells #[.int .i64 0, .int .i64 0, .slice none 0 0, .slice none 0 0, .slice wa wn wc, .int .i64 0, .int .i64 0, .bool true] 34)
    generalize w5.alloc (.cells #[.int .i64 0, .int .i64 0, .slice none 0 0, .slice none 0 0, .slice wa wn wc, .int .i64 0, .int .i64 0, .bool true] 34) = w6 at *
    generalize w5.heap.size = Rb at *
    refine seq_then fun K6 g6 => ?_
    refine nu_r5 arg w6 a5 _ Zb Rb A fs.length pc F depth fuel 0 0 (fun R w' => w'.rowIs R 43 11 overR ∧ Bl w6 w') ha5 (row_bl hz4 hb6) ((run_over A pc F depth fuel arg 1500 fs w6 hP (code_bl hC4 hb6) (by decide) (by decide) n u S2 hev ho).mono ?_) (fun a7 w7 R ha7 hX => g6 _ _ ?_)
    · rintro e w' ⟨R, he, h1, h2⟩
      exact ⟨R, he, h1, h2⟩
    obtain ⟨hR7, hb7⟩ := hX
    have hE := end_row w7 0 0
    have hb8 := Bl.alloc (Bl.refl w7) (.cells #[.int .i64 0, .int .i64 0] 29)
    generalize w7.alloc (.cells #[.int .i64 0, .int .i64 0] 29) = w8 at *
    generalize w7.heap.size = Eb at *
    have hR8 := row_bl hR7 hb8
    refine seq_then fun K7 g7 => ?_
    refine nu_r6 Rb Eb R 0 0 0 0 true none none none none 0 0 0 0 0 0 w8 a7 _ ha7 wa wn wc (row_bl (row_bl hrR hb7) hb8) hE (hR8.cell (i := 4) (by decide)) (hR8.cell (i := 5) (by decide)) (hR8.cell (i := 7) (by decide)) (hR8.cell (i := 8) (by decide)) (hR8.cell (i := 10) (by decide)) (fun w' _ => SmR.same_ran none none 0 0 0 (fun _ _ => 0) w' (fun h => by omega) (fun h => by omega) (by omega)) (fun w' _ => same_ints0 w') fun a9 w9 s9 d9 p9 b9 => g7 _ _ ?_
    exact wp_ret (hQ a9 w9 s9 d9 p9 (Bl.trans hb4 (Bl.trans hb6 (Bl.trans hb7 (Bl.trans hb8 b9)))))
  | false =>
    obtain ⟨_, _, hlen⟩ := ends_of hdp (by decide) (by decide) hev arg
    have hl1 : 1 ≤ (finish u S2 arg).ran.length := by
      unfold finish
      rw [if_neg (by rw [ho]; decide)]
      show 1 ≤ (EvM.put _ _).length
      rw [put_len]; omega
    have hst : (finish u S2 arg).steps = S2.steps ∧ (finish u S2 arg).forks = S2.forks ∧ (finish u S2 arg).over = false ∧ (finish u S2 arg).futs = S2.futs := by unfold finish; rw [if_neg (by rw [ho]; decide)]; exact ⟨rfl, rfl, ho, rfl⟩
    refine nu_r4 arg w4 a3 _ Zb A fs.length pc F depth fuel u.how u.val S2.steps S2.forks false (fun ra rn rc fa fn fc w' => w'.ownsRow w4.heap.size 67 5 (.slice ra rn rc) (finish u S2 arg).ran.length (rcs5 (finish u S2 arg).ran) ∧ (∃ FB, fa = some ⟨FB, 0, none⟩ ∧ fn = F ∧ fc = F ∧ w'.rowIs FB 3 F (fun j => .int .i64 (S2.futs j))) ∧ Bl w4 w') ha3 hz4 ((eval_any A pc F depth fuel arg 1500 fs w4 hP hC4 (by decide) (by decide) n u S2 hev ho).mono ?_) (fun a5 w5 ra fa wa rn rc fn fc wn wc ha5 hX => g5 _ _ ?_)
    · rintro e w' ⟨FB, WB, ra, rn, rc, he, ho', h2, _, _, _, hb⟩
      exact ⟨ra, _, _, rn, rc, _, _, _, _, he, ho', ⟨FB, rfl, rfl, rfl, h2⟩, hb⟩
    obtain ⟨hown, ⟨FB, rfl, hfn, hfc, hfb⟩, hb5⟩ := hX
    have hfn := hfn.symm
    have hfc := hfc.symm
    subst hfn
    subst hfc
    obtain ⟨rfl, hfiv⟩ := fives5 hown hl1
    have hrR := res_row w5 u.how u.val S2.steps S2.forks (.slice ra (finish u S2 arg).ran.length rc) (.slice (some ⟨FB, 0, none⟩) F F) (.slice wa wn wc) false
    have hba := Bl.alloc (Bl.refl w5) (.cells #[.int .i64 u.how, .int .i64 u.val, .slice ra (finish u S2 arg).ran.length rc, .slice (some ⟨FB, 0, none⟩) F F, .slice wa wn wc, .int .i64 S2.steps, .int .i64 S2.forks, .bool false] 34)
    have hb6 := Bl.trans hb5 hba
    generalize w5.alloc (.cells #[.int .i64 u.how, .int .i64 u.val, .slice ra (finish u S2 arg).ran.length rc, .slice (some ⟨FB, 0, none⟩) F F, .slice wa wn wc, .int .i64 S2.steps, .int .i64 S2.forks, .bool false] 34) = w6 at *
    generalize w5.heap.size = Rb at *
    refine seq_then fun K6 g6 => ?_
    refine nu_r5 arg w6 a5 _ Zb Rb A fs.length pc F depth fuel u.how u.val (fun R w' => ∃ FB' WB', IsR ⟨w6.heap.size, R, FB', WB', A, pc, fs, F, depth, fuel, 1500⟩ w6.heap.size w' (finish u S2 arg) ∧ Bl w6 w') ha5 (row_bl hz4 hb6) ((run_any A pc F depth fuel arg 1500 fs w6 hP (code_bl hC4 hb6) (by decide) (by decide) n u S2 hev ho).mono ?_) (fun a7 w7 R ha7 hX => g6 _ _ ?_)
    · rintro e w' ⟨R, FB', WB', he, h1, h2⟩
      exact ⟨R, he, FB', WB', h1, h2⟩
    obtain ⟨FB', WB', hI7, hb7⟩ := hX
    have hE := end_row w7 u.how u.val
    have hb8 := Bl.alloc (Bl.refl w7) (.cells #[.int .i64 u.how, .int .i64 u.val] 29)
    generalize w7.alloc (.cells #[.int .i64 u.how, .int .i64 u.val] 29) = w8 at *
    generalize w7.heap.size = Eb at *
    have hI8 := IsR.bl hI7 hb8
    obtain ⟨vr, hR8, hown8⟩ := hI8.ran
    obtain ⟨A8, n8, c8, rfl⟩ := own_slice hown8
    obtain ⟨rfl, hfiv8⟩ := fives5 hown8 hl1
    have hfb8 := hI8.fut
    rw [hst.2.2.2] at hfb8
    have hb68 := Bl.trans hb7 hb8
    refine seq_then fun K7 g7 => ?_
    refine nu_r6 Rb Eb R u.how u.val S2.steps S2.forks false ra A8 (some ⟨FB, 0, none⟩) (some ⟨FB', 0, none⟩) (finish u S2 arg).ran.length rc c8 F F F w8 a7 _ ha7 wa wn wc (row_bl hrR hb68) hE (hR8.cell (i := 4) (by decide)) (hR8.cell (i := 5) (by decide)) ((hR8.cell (i := 7) (by decide)).trans (by rw [← hst.1]; rfl)) ((hR8.cell (i := 8) (by decide)).trans (by rw [← hst.2.1]; rfl)) ((hR8.cell (i := 10) (by decide)).trans (by rw [← hst.2.2.1]; rfl))
      (fun w' hw' => SmR.same_ran ra A8 (finish u S2 arg).ran.length rc c8 (ran5 (finish u S2 arg).ran) w' ((hfiv.bl hba).bl (Bl.trans hb68 hw')) (hfiv8.bl hw') (by omega))
      (fun w' hw' => SmI.same_ints FB FB' F S2.futs w' (row_bl (row_bl hfb hba) (Bl.trans hb68 hw')) (row_bl hfb8 hw') (by omega)) fun a9 w9 s9 d9 p9 b9 => g7 _ _ ?_
    exact wp_ret (hQ a9 w9 s9 d9 p9 (Bl.trans hb4 (Bl.trans hb6 (Bl.trans hb68 b9))))
set_option maxRecDepth 100000 in
set_option maxHeartbeats 8000000 in
theorem numbers_any (a0 : Option Addr) (la ca : Nat) (zs : List Int) (arg : Int) (cn : Bool) (w : World) (h1 : IsRow .i64 w a0 la ca zs) (h2 : la * 8 ≤ 140737488351232) (h3 : (Lit.int .i64 arg).wf = true) : Calls Tryz.prog 4 #[.slice a0 la ca, .int .i64 arg, .bool cn] w fun e w' => e = .returned (.bool true) ∧ Bl w w' := by
  go_enter Tryz.func4, Tryz.ntmps4
  refine numbers_wp a0 la ca zs arg cn w _ _ h1 ⟨rfl, rfl, rfl, rfl, rfl⟩ fun a' w' hs hd h6 hb => ?_
  obtain ⟨_, h6'⟩ := get_of h6
  exact bodyPost_ret (v := .bool true) (by simp [results, Tryz.results4, go_sem, hs, h6']) hd ⟨rfl, hb⟩
end Go.Proofs.YtonndofbnhnkpaaGreat.Evl
