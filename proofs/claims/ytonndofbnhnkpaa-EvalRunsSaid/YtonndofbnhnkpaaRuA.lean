/- The law of what ran: the pieces. -/
import Derived.Test.YtonndofbnhnkpaaEvE
set_option linter.unusedVariables false
set_option linter.unusedSimpArgs false
set_option linter.unusedSectionVars false
namespace Go.Proofs.Ytonndofbnhnkpaa.Evl
open Go.RowKit Num KeyM KeyW StatW Blk VmA VmG Prg EvM Rf PutA CodA
/-- The frame of the law. -/
structure RuA (a : Act) (arg less : Int) (Zb Rb : Nat) : Prop where
  sz : a.tmps.size = 240
  dfs : a.defers = []
  t1 : a.tmps[1]? = some (.int .i64 arg)
  t2 : a.tmps[2]? = some (.int .i64 less)
  t7 : a.tmps[7]? = some (.pointer (some ⟨Zb, 0, none⟩))
  t8 : a.tmps[8]? = some (.pointer (some ⟨Rb, 0, none⟩))
/-- The loop's round, and its first region. -/
def ruL (f : Func) : Code := inK (nth 1 (nth 5 (bodyOf f)))
def ruR10 (f : Func) : Code := nth 0 (nth 0 (inK (nth 1 (ruL f))))
def idxru10_z1 : List (Nat × Nat) := [(0, 62), (1, 63), (2, 64), (3, 65), (4, 66), (5, 67), (6, 68), (7, 69), (8, 70), (9, 71), (10, 72), (11, 73), (12, 74), (13, 75), (14, 76), (15, 77), (16, 78), (17, 79), (18, 80), (19, 81), (20, 82), (21, 83), (22, 84), (23, 85), (24, 86), (25, 87), (26, 88), (27, 89), (28, 90), (29, 91), (30, 92), (31, 93), (32, 94), (33, 95), (34, 96), (35, 97), (36, 98), (37, 99), (38, 100), (39, 101), (40, 102), (41, 103), (42, 104), (43, 105), (44, 106), (45, 107), (46, 108), (47, 109), (48, 110), (49, 111), (50, 112), (51, 113), (52, 114), (53, 115), (54, 116), (55, 117), (56, 118), (57, 119)]
def Vru10_z1 (Rb g n c k km : Nat) (key keyp how : Int) : Nat → Value := fun sl => match sl with
  | 62 => .int .i64 (k : Int)
  | 63 => .bool false
  | 64 => .bool false
  | 65 => undef
  | 66 => undef
  | 67 => undef
  | 68 => undef
  | 69 => undef
  | 70 => undef
  | 71 => undef
  | 72 => undef
  | 73 => undef
  | 74 => undef
  | 75 => undef
  | 76 => undef
  | 77 => undef
  | 78 => undef
  | 79 => .bool false
  | 80 => .bool false
  | 81 => .pointer (some ⟨Rb, 2, none⟩)
  | 82 => .slice (some ⟨g, 0, none⟩) n c
  | 83 => .int .i64 (k : Int)
  | 84 => .pointer (some ⟨g, k * 5, none⟩)
  | 85 => .pointer (some ⟨g, k * 5 + 3, none⟩)
  | 86 => .pointer (some ⟨g, k * 5 + 3, none⟩)
  | 87 => .int .i64 how
  | 88 => .bool false
  | 89 => .bool false
  | 90 => .bool false
  | 91 => .pointer (some ⟨Rb, 2, none⟩)
  | 92 => .slice (some ⟨g, 0, none⟩) n c
  | 93 => .int .i64 (k : Int)
  | 94 => .pointer (some ⟨g, k * 5, none⟩)
  | 95 => .pointer (some ⟨g, k * 5 + 3, none⟩)
  | 96 => .pointer (some ⟨g, k * 5 + 3, none⟩)
  | 97 => .int .i64 how
  | 98 => .bool false
  | 99 => .bool false
  | 100 => .bool false
  | 101 => .pointer (some ⟨Rb, 2, none⟩)
  | 102 => .slice (some ⟨g, 0, none⟩) n c
  | 103 => .int .i64 (k : Int)
  | 104 => .pointer (some ⟨g, k * 5, none⟩)
  | 105 => .pointer (some ⟨g, k * 5 + 3, none⟩)
  | 106 => .pointer (some ⟨g, k * 5 + 3, none⟩)
  | 107 => .int .i64 how
  | 108 => .bool false
  | 109 => .bool false
  | 110 => undef
  | 111 => undef
  | 112 => undef
  | 113 => undef
  | 114 => undef
  | 115 => undef
  | 116 => undef
  | 117 => undef
  | 118 => .bool false
  | 119 => .bool false
  | _ => undef
set_option maxRecDepth 100000 in
set_option maxHeartbeats 8000000 in
theorem ru10_z1 (arg less : Int) (Zb Rb g n c k km : Nat) (key keyp how : Int) (w : World) (a : Act) (Q : Exit → Act → World → Prop) (ha : RuA a arg less Zb Rb) (t10 : a.tmps[10]? = some (.int .i64 (k : Int))) (cR : w.cell? ⟨Rb, 2, none⟩ = some (.slice (some ⟨g, 0, none⟩) n c)) (hk : k < n) (hn1 : n ≤ 100000)
    (ckey : w.cell? ⟨g, k * 5, none⟩ = some (.int .i64 key)) (chow : w.cell? ⟨g, k * 5 + 3, none⟩ = some (.int .i64 how)) (hw1 : 1 ≤ how) (hw9 : how ≤ 9) (k0 : ¬ 0 < k) (h1 : how = 1)
    (hQ : ∀ a' : Act, RuA a' arg less Zb Rb → a'.tmps[10]? = some (.int .i64 (k : Int)) → a'.tmps[119]? = some (.bool false) → Q .normal a' w.drew) : (ruR10 Try.f14).wp Try.prog Q a w := by
  simp only [ruR10, ruL, nth, bodyOf, Try.f14, Option.getD, inK]
  obtain ⟨hsz, hdf, t1, t2, t7, t8⟩ := ha
  refine Tab.region_rdG (by kernel_rfl) idxru10_z1 [(2, 64, false), (18, 80, false), (28, 90, false), (38, 100, false), (47, 109, false)] [65, 66, 67, 68, 69, 70, 71, 72, 73, 74, 75, 76, 77, 78, 110, 111, 112, 113, 114, 115, 116, 117] 240 (Vru10_z1 Rb g n c k km key keyp how) (by kernel_rfl) hsz (by kernel_rfl) (by intro q hq; simp at hq; rcases hq with rfl | rfl | rfl | rfl | rfl <;> exact ⟨by decide, rfl⟩) (by intro d hd; simp at hd; rcases hd with rfl | rfl | rfl | rfl | rfl | rfl | rfl | rfl | rfl | rfl | rfl | rfl | rfl | rfl | rfl | rfl | rfl | rfl | rfl | rfl | rfl | rfl <;> rfl) ?_ ?_
  · intro a' hT
    exact hQ a' ⟨hT.sz.trans hsz, hT.dfs.trans hdf, (hT.out 1 (by decide)).trans t1, (hT.out 2 (by decide)).trans t2, (hT.out 7 (by decide)).trans t7, (hT.out 8 (by decide)).trans t8⟩ ((hT.out 10 (by decide)).trans t10) (hT.tab (57, 119) (by decide) (by simp [Array.getElem?_replicate]))
  · intro i' o L a' K' Q' hT hL ho hd hw hK
    have hi' : i' < 58 := (Array.getElem?_eq_some_iff.1 ho).1
    have HT : Hid (∀ q ∈ idxru10_z1, L[q.1]? = some true → a'.tmps[q.2]? = some (Vru10_z1 Rb g n c k km key keyp how q.2)) := hT.tab
    have d0 : w.drew.cell? ⟨Rb, 2, none⟩ = some (.slice (some ⟨g, 0, none⟩) n c) := cR
    have d1 : w.drew.cell? ⟨g, k * 5, none⟩ = some (.int .i64 key) := ckey
    have d2 : w.drew.cell? ⟨g, k * 5 + 3, none⟩ = some (.int .i64 how) := chow
    have l1 : Rb < w.drew.heap.size := lt_of_cell cR
    have l2 : g < w.drew.heap.size := lt_of_cell ckey
    have b1 : (k : Int) < n := by omega
    have b2 : (0 : Int) ≤ k := by omega
    have b3 : ¬ how < 1 := by omega
    have b4 : ¬ 9 < how := by omega
    have b9 : (how != 1) = false := by simp [h1]
    clear hQ cR ckey chow hw1 hw9 h1
    obtain rfl | rfl | rfl | rfl | rfl | rfl | rfl | rfl | rfl | rfl | rfl | rfl | rfl | rfl | rfl | rfl | rfl | rfl | rfl | rfl | rfl | rfl | rfl | rfl | rfl | rfl | rfl | rfl | rfl | rfl | rfl | rfl | rfl | rfl | rfl | rfl | rfl | rfl | rfl | rfl | rfl | rfl | rfl | rfl | rfl | rfl | rfl | rfl | rfl | rfl | rfl | rfl | rfl | rfl | rfl | rfl | rfl | rfl : i' = 0 ∨ i' = 1 ∨ i' = 2 ∨ i' = 3 ∨ i' = 4 ∨ i' = 5 ∨ i' = 6 ∨ i' = 7 ∨ i' = 8 ∨ i' = 9 ∨ i' = 10 ∨ i' = 11 ∨ i' = 12 ∨ i' = 13 ∨ i' = 14 ∨ i' = 15 ∨ i' = 16 ∨ i' = 17 ∨ i' = 18 ∨ i' = 19 ∨ i' = 20 ∨ i' = 21 ∨ i' = 22 ∨ i' = 23 ∨ i' = 24 ∨ i' = 25 ∨ i' = 26 ∨ i' = 27 ∨ i' = 28 ∨ i' = 29 ∨ i' = 30 ∨ i' = 31 ∨ i' = 32 ∨ i' = 33 ∨ i' = 34 ∨ i' = 35 ∨ i' = 36 ∨ i' = 37 ∨ i' = 38 ∨ i' = 39 ∨ i' = 40 ∨ i' = 41 ∨ i' = 42 ∨ i' = 43 ∨ i' = 44 ∨ i' = 45 ∨ i' = 46 ∨ i' = 47 ∨ i' = 48 ∨ i' = 49 ∨ i' = 50 ∨ i' = 51 ∨ i' = 52 ∨ i' = 53 ∨ i' = 54 ∨ i' = 55 ∨ i' = 56 ∨ i' = 57 := by omega
    · have s10 : a'.tmps[10]? = some (.int .i64 (k : Int)) := (hT.out 10 (by decide)).trans t10
      cases ho
      clear hd HT hT hw
      go_simp
      exact hK
    · have s62 : a'.tmps[62]? = some (.int .i64 (k : Int)) := HT.out (0, 62) (by decide) (by cases ho; exact hd ⟨0, .data⟩ (by simp) rfl)
      cases ho
      clear hd HT hT hw
      go_simp
      exact hK
    · have s63 : a'.tmps[63]? = some (.bool false) := HT.out (1, 63) (by decide) (by cases ho; exact hd ⟨1, .data⟩ (by simp) rfl)
      cases ho
      clear hd HT hT hw
      go_simp
      exact hK
    · have s64 : a'.tmps[64]? = some (.bool false) := HT.out (2, 64) (by decide) (by cases ho; exact hd ⟨2, .guard⟩ (by simp) rfl)
      cases ho
      exfalso; revert hw; simp [Region.wanted, yielded, s64]
    · have s64 : a'.tmps[64]? = some (.bool false) := HT.out (2, 64) (by decide) (by cases ho; exact hd ⟨2, .guard⟩ (by simp) rfl)
      cases ho
      exfalso; revert hw; simp [Region.wanted, yielded, s64]
    · have s64 : a'.tmps[64]? = some (.bool false) := HT.out (2, 64) (by decide) (by cases ho; exact hd ⟨2, .guard⟩ (by simp) rfl)
      cases ho
      exfalso; revert hw; simp [Region.wanted, yielded, s64]
    · have s64 : a'.tmps[64]? = some (.bool false) := HT.out (2, 64) (by decide) (by cases ho; exact hd ⟨2, .guard⟩ (by simp) rfl)
      cases ho
      exfalso; revert hw; simp [Region.wanted, yielded, s64]
    · have s64 : a'.tmps[64]? = some (.bool false) := HT.out (2, 64) (by decide) (by cases ho; exact hd ⟨2, .guard⟩ (by simp) rfl)
      cases ho
      exfalso; revert hw; simp [Region.wanted, yielded, s64]
    · have s64 : a'.tmps[64]? = some (.bool false) := HT.out (2, 64) (by decide) (by cases ho; exact hd ⟨2, .guard⟩ (by simp) rfl)
      cases ho
      exfalso; revert hw; simp [Region.wanted, yielded, s64]
    · have s64 : a'.tmps[64]? = some (.bool false) := HT.out (2, 64) (by decide) (by cases ho; exact hd ⟨2, .guard⟩ (by simp) rfl)
      cases ho
      exfalso; revert hw; simp [Region.wanted, yielded, s64]
    · have s64 : a'.tmps[64]? = some (.bool false) := HT.out (2, 64) (by decide) (by cases ho; exact hd ⟨2, .guard⟩ (by simp) rfl)
      cases ho
      exfalso; revert hw; simp [Region.wanted, yielded, s64]
    · have s64 : a'.tmps[64]? = some (.bool false) := HT.out (2, 64) (by decide) (by cases ho; exact hd ⟨2, .guard⟩ (by simp) rfl)
      cases ho
      exfalso; revert hw; simp [Region.wanted, yielded, s64]
    · have s64 : a'.tmps[64]? = some (.bool false) := HT.out (2, 64) (by decide) (by cases ho; exact hd ⟨2, .guard⟩ (by simp) rfl)
      cases ho
      exfalso; revert hw; simp [Region.wanted, yielded, s64]
    · have s64 : a'.tmps[64]? = some (.bool false) := HT.out (2, 64) (by decide) (by cases ho; exact hd ⟨2, .guard⟩ (by simp) rfl)
      cases ho
      exfalso; revert hw; simp [Region.wanted, yielded, s64]
    · have s64 : a'.tmps[64]? = some (.bool false) := HT.out (2, 64) (by decide) (by cases ho; exact hd ⟨2, .guard⟩ (by simp) rfl)
      cases ho
      exfalso; revert hw; simp [Region.wanted, yielded, s64]
    · have s64 : a'.tmps[64]? = some (.bool false) := HT.out (2, 64) (by decide) (by cases ho; exact hd ⟨2, .guard⟩ (by simp) rfl)
      cases ho
      exfalso; revert hw; simp [Region.wanted, yielded, s64]
    · have s64 : a'.tmps[64]? = some (.bool false) := HT.out (2, 64) (by decide) (by cases ho; exact hd ⟨2, .guard⟩ (by simp) rfl)
      cases ho
      exfalso; revert hw; simp [Region.wanted, yielded, s64]
    · have s64 : a'.tmps[64]? = some (.bool false) := HT.out (2, 64) (by decide) (by cases ho; exact hd ⟨2, .data⟩ (by simp) rfl)
      have s78 : a'.tmps[78]? = some (undef) := HT.out (16, 78) (by decide) (by cases ho; exact hd ⟨16, .data⟩ (by simp) rfl)
      cases ho
      clear hd HT hT hw
      go_simp
      exact hK
    · have s79 : a'.tmps[79]? = some (.bool false) := HT.out (17, 79) (by decide) (by cases ho; exact hd ⟨17, .data⟩ (by simp) rfl)
      cases ho
      clear hd HT hT hw
      go_simp
      exact hK
    · have s8 : a'.tmps[8]? = some (.pointer (some ⟨Rb, 0, none⟩)) := (hT.out 8 (by decide)).trans t8
      cases ho
      clear hd HT hT hw
      go_simp
      exact hK
    · have s81 : a'.tmps[81]? = some (.pointer (some ⟨Rb, 2, none⟩)) := HT.out (19, 81) (by decide) (by cases ho; exact hd ⟨19, .data⟩ (by simp) rfl)
      cases ho
      clear hd HT hT hw
      go_simp
      exact hK
    · have s10 : a'.tmps[10]? = some (.int .i64 (k : Int)) := (hT.out 10 (by decide)).trans t10
      cases ho
      clear hd HT hT hw
      go_simp
      exact hK
    · have s82 : a'.tmps[82]? = some (.slice (some ⟨g, 0, none⟩) n c) := HT.out (20, 82) (by decide) (by cases ho; exact hd ⟨20, .data⟩ (by simp) rfl)
      have s83 : a'.tmps[83]? = some (.int .i64 (k : Int)) := HT.out (21, 83) (by decide) (by cases ho; exact hd ⟨21, .data⟩ (by simp) rfl)
      cases ho
      clear hd HT hT hw
      go_simp
      exact hK
    · have s84 : a'.tmps[84]? = some (.pointer (some ⟨g, k * 5, none⟩)) := HT.out (22, 84) (by decide) (by cases ho; exact hd ⟨22, .data⟩ (by simp) rfl)
      cases ho
      clear hd HT hT hw
      go_simp
      exact hK
    · have s85 : a'.tmps[85]? = some (.pointer (some ⟨g, k * 5 + 3, none⟩)) := HT.out (23, 85) (by decide) (by cases ho; exact hd ⟨23, .data⟩ (by simp) rfl)
      cases ho
      clear hd HT hT hw
      go_simp
      exact hK
    · have s86 : a'.tmps[86]? = some (.pointer (some ⟨g, k * 5 + 3, none⟩)) := HT.out (24, 86) (by decide) (by cases ho; exact hd ⟨24, .data⟩ (by simp) rfl)
      cases ho
      clear hd HT hT hw
      go_simp
      exact hK
    · have s87 : a'.tmps[87]? = some (.int .i64 how) := HT.out (25, 87) (by decide) (by cases ho; exact hd ⟨25, .data⟩ (by simp) rfl)
      cases ho
      clear hd HT hT hw
      go_simp
      exact hK
    · have s80 : a'.tmps[80]? = some (.bool false) := HT.out (18, 80) (by decide) (by cases ho; exact hd ⟨18, .data⟩ (by simp) rfl)
      have s88 : a'.tmps[88]? = some (.bool false) := HT.out (26, 88) (by decide) (by cases ho; exact hd ⟨26, .data⟩ (by simp) rfl)
      cases ho
      clear hd HT hT hw
      go_simp
      exact hK
    · have s89 : a'.tmps[89]? = some (.bool false) := HT.out (27, 89) (by decide) (by cases ho; exact hd ⟨27, .data⟩ (by simp) rfl)
      cases ho
      clear hd HT hT hw
      go_simp
      exact hK
    · have s8 : a'.tmps[8]? = some (.pointer (some ⟨Rb, 0, none⟩)) := (hT.out 8 (by decide)).trans t8
      cases ho
      clear hd HT hT hw
      go_simp
      exact hK
    · have s91 : a'.tmps[91]? = some (.pointer (some ⟨Rb, 2, none⟩)) := HT.out (29, 91) (by decide) (by cases ho; exact hd ⟨29, .data⟩ (by simp) rfl)
      cases ho
      clear hd HT hT hw
      go_simp
      exact hK
    · have s10 : a'.tmps[10]? = some (.int .i64 (k : Int)) := (hT.out 10 (by decide)).trans t10
      cases ho
      clear hd HT hT hw
      go_simp
      exact hK
    · have s92 : a'.tmps[92]? = some (.slice (some ⟨g, 0, none⟩) n c) := HT.out (30, 92) (by decide) (by cases ho; exact hd ⟨30, .data⟩ (by simp) rfl)
      have s93 : a'.tmps[93]? = some (.int .i64 (k : Int)) := HT.out (31, 93) (by decide) (by cases ho; exact hd ⟨31, .data⟩ (by simp) rfl)
      cases ho
      clear hd HT hT hw
      go_simp
      exact hK
    · have s94 : a'.tmps[94]? = some (.pointer (some ⟨g, k * 5, none⟩)) := HT.out (32, 94) (by decide) (by cases ho; exact hd ⟨32, .data⟩ (by simp) rfl)
      cases ho
      clear hd HT hT hw
      go_simp
      exact hK
    · have s95 : a'.tmps[95]? = some (.pointer (some ⟨g, k * 5 + 3, none⟩)) := HT.out (33, 95) (by decide) (by cases ho; exact hd ⟨33, .data⟩ (by simp) rfl)
      cases ho
      clear hd HT hT hw
      go_simp
      exact hK
    · have s96 : a'.tmps[96]? = some (.pointer (some ⟨g, k * 5 + 3, none⟩)) := HT.out (34, 96) (by decide) (by cases ho; exact hd ⟨34, .data⟩ (by simp) rfl)
      cases ho
      clear hd HT hT hw
      go_simp
      exact hK
    · have s97 : a'.tmps[97]? = some (.int .i64 how) := HT.out (35, 97) (by decide) (by cases ho; exact hd ⟨35, .data⟩ (by simp) rfl)
      cases ho
      clear hd HT hT hw
      go_simp
      exact hK
    · have s90 : a'.tmps[90]? = some (.bool false) := HT.out (28, 90) (by decide) (by cases ho; exact hd ⟨28, .data⟩ (by simp) rfl)
      have s98 : a'.tmps[98]? = some (.bool false) := HT.out (36, 98) (by decide) (by cases ho; exact hd ⟨36, .data⟩ (by simp) rfl)
      cases ho
      clear hd HT hT hw
      go_simp
      exact hK
    · have s99 : a'.tmps[99]? = some (.bool false) := HT.out (37, 99) (by decide) (by cases ho; exact hd ⟨37, .data⟩ (by simp) rfl)
      cases ho
      clear hd HT hT hw
      go_simp
      exact hK
    · have s8 : a'.tmps[8]? = some (.pointer (some ⟨Rb, 0, none⟩)) := (hT.out 8 (by decide)).trans t8
      cases ho
      clear hd HT hT hw
      go_simp
      exact hK
    · have s101 : a'.tmps[101]? = some (.pointer (some ⟨Rb, 2, none⟩)) := HT.out (39, 101) (by decide) (by cases ho; exact hd ⟨39, .data⟩ (by simp) rfl)
      cases ho
      clear hd HT hT hw
      go_simp
      exact hK
    · have s10 : a'.tmps[10]? = some (.int .i64 (k : Int)) := (hT.out 10 (by decide)).trans t10
      cases ho
      clear hd HT hT hw
      go_simp
      exact hK
    · have s102 : a'.tmps[102]? = some (.slice (some ⟨g, 0, none⟩) n c) := HT.out (40, 102) (by decide) (by cases ho; exact hd ⟨40, .data⟩ (by simp) rfl)
      have s103 : a'.tmps[103]? = some (.int .i64 (k : Int)) := HT.out (41, 103) (by decide) (by cases ho; exact hd ⟨41, .data⟩ (by simp) rfl)
      cases ho
      clear hd HT hT hw
      go_simp
      exact hK
    · have s104 : a'.tmps[104]? = some (.pointer (some ⟨g, k * 5, none⟩)) := HT.out (42, 104) (by decide) (by cases ho; exact hd ⟨42, .data⟩ (by simp) rfl)
      cases ho
      clear hd HT hT hw
      go_simp
      exact hK
    · have s105 : a'.tmps[105]? = some (.pointer (some ⟨g, k * 5 + 3, none⟩)) := HT.out (43, 105) (by decide) (by cases ho; exact hd ⟨43, .data⟩ (by simp) rfl)
      cases ho
      clear hd HT hT hw
      go_simp
      exact hK
    · have s106 : a'.tmps[106]? = some (.pointer (some ⟨g, k * 5 + 3, none⟩)) := HT.out (44, 106) (by decide) (by cases ho; exact hd ⟨44, .data⟩ (by simp) rfl)
      cases ho
      clear hd HT hT hw
      go_simp
      exact hK
    · have s107 : a'.tmps[107]? = some (.int .i64 how) := HT.out (45, 107) (by decide) (by cases ho; exact hd ⟨45, .data⟩ (by simp) rfl)
      cases ho
      clear hd HT hT hw
      go_simp
      exact hK
    · have s108 : a'.tmps[108]? = some (.bool false) := HT.out (46, 108) (by decide) (by cases ho; exact hd ⟨46, .data⟩ (by simp) rfl)
      cases ho
      clear hd HT hT hw
      go_simp
      exact hK
    · have s109 : a'.tmps[109]? = some (.bool false) := HT.out (47, 109) (by decide) (by cases ho; exact hd ⟨47, .guard⟩ (by simp) rfl)
      cases ho
      exfalso; revert hw; simp [Region.wanted, yielded, s109]
    · have s109 : a'.tmps[109]? = some (.bool false) := HT.out (47, 109) (by decide) (by cases ho; exact hd ⟨47, .guard⟩ (by simp) rfl)
      cases ho
      exfalso; revert hw; simp [Region.wanted, yielded, s109]
    · have s109 : a'.tmps[109]? = some (.bool false) := HT.out (47, 109) (by decide) (by cases ho; exact hd ⟨47, .guard⟩ (by simp) rfl)
      cases ho
      exfalso; revert hw; simp [Region.wanted, yielded, s109]
    · have s109 : a'.tmps[109]? = some (.bool false) := HT.out (47, 109) (by decide) (by cases ho; exact hd ⟨47, .guard⟩ (by simp) rfl)
      cases ho
      exfalso; revert hw; simp [Region.wanted, yielded, s109]
    · have s109 : a'.tmps[109]? = some (.bool false) := HT.out (47, 109) (by decide) (by cases ho; exact hd ⟨47, .guard⟩ (by simp) rfl)
      cases ho
      exfalso; revert hw; simp [Region.wanted, yielded, s109]
    · have s109 : a'.tmps[109]? = some (.bool false) := HT.out (47, 109) (by decide) (by cases ho; exact hd ⟨47, .guard⟩ (by simp) rfl)
      cases ho
      exfalso; revert hw; simp [Region.wanted, yielded, s109]
    · have s109 : a'.tmps[109]? = some (.bool false) := HT.out (47, 109) (by decide) (by cases ho; exact hd ⟨47, .guard⟩ (by simp) rfl)
      cases ho
      exfalso; revert hw; simp [Region.wanted, yielded, s109]
    · have s109 : a'.tmps[109]? = some (.bool false) := HT.out (47, 109) (by decide) (by cases ho; exact hd ⟨47, .guard⟩ (by simp) rfl)
      cases ho
      exfalso; revert hw; simp [Region.wanted, yielded, s109]
    · have s109 : a'.tmps[109]? = some (.bool false) := HT.out (47, 109) (by decide) (by cases ho; exact hd ⟨47, .data⟩ (by simp) rfl)
      have s117 : a'.tmps[117]? = some (undef) := HT.out (55, 117) (by decide) (by cases ho; exact hd ⟨55, .data⟩ (by simp) rfl)
      cases ho
      clear hd HT hT hw
      go_simp
      exact hK
    · have s100 : a'.tmps[100]? = some (.bool false) := HT.out (38, 100) (by decide) (by cases ho; exact hd ⟨38, .data⟩ (by simp) rfl)
      have s118 : a'.tmps[118]? = some (.bool false) := HT.out (56, 118) (by decide) (by cases ho; exact hd ⟨56, .data⟩ (by simp) rfl)
      cases ho
      clear hd HT hT hw
      go_simp
      exact hK
def idxru10_zn : List (Nat × Nat) := [(0, 62), (1, 63), (2, 64), (3, 65), (4, 66), (5, 67), (6, 68), (7, 69), (8, 70), (9, 71), (10, 72), (11, 73), (12, 74), (13, 75), (14, 76), (15, 77), (16, 78), (17, 79), (18, 80), (19, 81), (20, 82), (21, 83), (22, 84), (23, 85), (24, 86), (25, 87), (26, 88), (27, 89), (28, 90), (29, 91), (30, 92), (31, 93), (32, 94), (33, 95), (34, 96), (35, 97), (36, 98), (37, 99), (38, 100), (39, 101), (40, 102), (41, 103), (42, 104), (43, 105), (44, 106), (45, 107), (46, 108), (47, 109), (48, 110), (49, 111), (50, 112), (51, 113), (52, 114), (53, 115), (54, 116), (55, 117), (56, 118), (57, 119)]
def Vru10_zn (Rb g n c k km : Nat) (key keyp how : Int) : Nat → Value := fun sl => match sl with
  | 62 => .int .i64 (k : Int)
  | 63 => .bool false
  | 64 => .bool false
  | 65 => undef
  | 66 => undef
  | 67 => undef
  | 68 => undef
  | 69 => undef
  | 70 => undef
  | 71 => undef
  | 72 => undef
  | 73 => undef
  | 74 => undef
  | 75 => undef
  | 76 => undef
  | 77 => undef
  | 78 => undef
  | 79 => .bool false
  | 80 => .bool false
  | 81 => .pointer (some ⟨Rb, 2, none⟩)
  | 82 => .slice (some ⟨g, 0, none⟩) n c
  | 83 => .int .i64 (k : Int)
  | 84 => .pointer (some ⟨g, k * 5, none⟩)
  | 85 => .pointer (some ⟨g, k * 5 + 3, none⟩)
  | 86 => .pointer (some ⟨g, k * 5 + 3, none⟩)
  | 87 => .int .i64 how
  | 88 => .bool false
  | 89 => .bool false
  | 90 => .bool false
  | 91 => .pointer (some ⟨Rb, 2, none⟩)
  | 92 => .slice (some ⟨g, 0, none⟩) n c
  | 93 => .int .i64 (k : Int)
  | 94 => .pointer (some ⟨g, k * 5, none⟩)
  | 95 => .pointer (some ⟨g, k * 5 + 3, none⟩)
  | 96 => .pointer (some ⟨g, k * 5 + 3, none⟩)
  | 97 => .int .i64 how
  | 98 => .bool false
  | 99 => .bool false
  | 100 => .bool false
  | 101 => .pointer (some ⟨Rb, 2, none⟩)
  | 102 => .slice (some ⟨g, 0, none⟩) n c
  | 103 => .int .i64 (k : Int)
  | 104 => .pointer (some ⟨g, k * 5, none⟩)
  | 105 => .pointer (some ⟨g, k * 5 + 3, none⟩)
  | 106 => .pointer (some ⟨g, k * 5 + 3, none⟩)
  | 107 => .int .i64 how
  | 108 => .bool true
  | 109 => .bool true
  | 110 => .pointer (some ⟨Rb, 2, none⟩)
  | 111 => .slice (some ⟨g, 0, none⟩) n c
  | 112 => .int .i64 (k : Int)
  | 113 => .pointer (some ⟨g, k * 5, none⟩)
  | 114 => .pointer (some ⟨g, k * 5 + 3, none⟩)
  | 115 => .pointer (some ⟨g, k * 5 + 4, none⟩)
  | 116 => .int .i64 0
  | 117 => .bool false
  | 118 => .bool false
  | 119 => .bool false
  | _ => undef
set_option maxRecDepth 100000 in
set_option maxHeartbeats 8000000 in
theorem ru10_zn (arg less : Int) (Zb Rb g n c k km : Nat) (key keyp how : Int) (w : World) (a : Act) (Q : Exit → Act → World → Prop) (ha : RuA a arg less Zb Rb) (t10 : a.tmps[10]? = some (.int .i64 (k : Int))) (cR : w.cell? ⟨Rb, 2, none⟩ = some (.slice (some ⟨g, 0, none⟩) n c)) (hk : k < n) (hn1 : n ≤ 100000)
    (ckey : w.cell? ⟨g, k * 5, none⟩ = some (.int .i64 key)) (chow : w.cell? ⟨g, k * 5 + 3, none⟩ = some (.int .i64 how)) (hw1 : 1 ≤ how) (hw9 : how ≤ 9) (k0 : ¬ 0 < k) (hn : how ≠ 1) (cv : w.cell? ⟨g, k * 5 + 4, none⟩ = some (.int .i64 0))
    (hQ : ∀ a' : Act, RuA a' arg less Zb Rb → a'.tmps[10]? = some (.int .i64 (k : Int)) → a'.tmps[119]? = some (.bool false) → Q .normal a' w.drew) : (ruR10 Try.f14).wp Try.prog Q a w := by
  simp only [ruR10, ruL, nth, bodyOf, Try.f14, Option.getD, inK]
  obtain ⟨hsz, hdf, t1, t2, t7, t8⟩ := ha
  refine Tab.region_rdG (by kernel_rfl) idxru10_zn [(2, 64, false), (18, 80, false), (28, 90, false), (38, 100, false), (47, 109, true)] [65, 66, 67, 68, 69, 70, 71, 72, 73, 74, 75, 76, 77, 78] 240 (Vru10_zn Rb g n c k km key keyp how) (by kernel_rfl) hsz (by kernel_rfl) (by intro q hq; simp at hq; rcases hq with rfl | rfl | rfl | rfl | rfl <;> exact ⟨by decide, rfl⟩) (by intro d hd; simp at hd; rcases hd with rfl | rfl | rfl | rfl | rfl | rfl | rfl | rfl | rfl | rfl | rfl | rfl | rfl | rfl <;> rfl) ?_ ?_
  · intro a' hT
    exact hQ a' ⟨hT.sz.trans hsz, hT.dfs.trans hdf, (hT.out 1 (by decide)).trans t1, (hT.out 2 (by decide)).trans t2, (hT.out 7 (by decide)).trans t7, (hT.out 8 (by decide)).trans t8⟩ ((hT.out 10 (by decide)).trans t10) (hT.tab (57, 119) (by decide) (by simp [Array.getElem?_replicate]))
  · intro i' o L a' K' Q' hT hL ho hd hw hK
    have hi' : i' < 58 := (Array.getElem?_eq_some_iff.1 ho).1
    have HT : Hid (∀ q ∈ idxru10_zn, L[q.1]? = some true → a'.tmps[q.2]? = some (Vru10_zn Rb g n c k km key keyp how q.2)) := hT.tab
    have d0 : w.drew.cell? ⟨Rb, 2, none⟩ = some (.slice (some ⟨g, 0, none⟩) n c) := cR
    have d1 : w.drew.cell? ⟨g, k * 5, none⟩ = some (.int .i64 key) := ckey
    have d2 : w.drew.cell? ⟨g, k * 5 + 3, none⟩ = some (.int .i64 how) := chow
    have l1 : Rb < w.drew.heap.size := lt_of_cell cR
    have l2 : g < w.drew.heap.size := lt_of_cell ckey
    have b1 : (k : Int) < n := by omega
    have b2 : (0 : Int) ≤ k := by omega
    have b3 : ¬ how < 1 := by omega
    have b4 : ¬ 9 < how := by omega
    have d4 : w.drew.cell? ⟨g, k * 5 + 4, none⟩ = some (.int .i64 0) := cv
    have b9 : (how != 1) = true := by simpa using hn
    clear hQ cR ckey chow hw1 hw9 hn
    obtain rfl | rfl | rfl | rfl | rfl | rfl | rfl | rfl | rfl | rfl | rfl | rfl | rfl | rfl | rfl | rfl | rfl | rfl | rfl | rfl | rfl | rfl | rfl | rfl | rfl | rfl | rfl | rfl | rfl | rfl | rfl | rfl | rfl | rfl | rfl | rfl | rfl | rfl | rfl | rfl | rfl | rfl | rfl | rfl | rfl | rfl | rfl | rfl | rfl | rfl | rfl | rfl | rfl | rfl | rfl | rfl | rfl | rfl : i' = 0 ∨ i' = 1 ∨ i' = 2 ∨ i' = 3 ∨ i' = 4 ∨ i' = 5 ∨ i' = 6 ∨ i' = 7 ∨ i' = 8 ∨ i' = 9 ∨ i' = 10 ∨ i' = 11 ∨ i' = 12 ∨ i' = 13 ∨ i' = 14 ∨ i' = 15 ∨ i' = 16 ∨ i' = 17 ∨ i' = 18 ∨ i' = 19 ∨ i' = 20 ∨ i' = 21 ∨ i' = 22 ∨ i' = 23 ∨ i' = 24 ∨ i' = 25 ∨ i' = 26 ∨ i' = 27 ∨ i' = 28 ∨ i' = 29 ∨ i' = 30 ∨ i' = 31 ∨ i' = 32 ∨ i' = 33 ∨ i' = 34 ∨ i' = 35 ∨ i' = 36 ∨ i' = 37 ∨ i' = 38 ∨ i' = 39 ∨ i' = 40 ∨ i' = 41 ∨ i' = 42 ∨ i' = 43 ∨ i' = 44 ∨ i' = 45 ∨ i' = 46 ∨ i' = 47 ∨ i' = 48 ∨ i' = 49 ∨ i' = 50 ∨ i' = 51 ∨ i' = 52 ∨ i' = 53 ∨ i' = 54 ∨ i' = 55 ∨ i' = 56 ∨ i' = 57 := by omega
    · have s10 : a'.tmps[10]? = some (.int .i64 (k : Int)) := (hT.out 10 (by decide)).trans t10
      cases ho
      clear hd HT hT hw
      go_simp
      exact hK
    · have s62 : a'.tmps[62]? = some (.int .i64 (k : Int)) := HT.out (0, 62) (by decide) (by cases ho; exact hd ⟨0, .data⟩ (by simp) rfl)
      cases ho
      clear hd HT hT hw
      go_simp
      exact hK
    · have s63 : a'.tmps[63]? = some (.bool false) := HT.out (1, 63) (by decide) (by cases ho; exact hd ⟨1, .data⟩ (by simp) rfl)
      cases ho
      clear hd HT hT hw
      go_simp
      exact hK
    · have s64 : a'.tmps[64]? = some (.bool false) := HT.out (2, 64) (by decide) (by cases ho; exact hd ⟨2, .guard⟩ (by simp) rfl)
      cases ho
      exfalso; revert hw; simp [Region.wanted, yielded, s64]
    · have s64 : a'.tmps[64]? = some (.bool false) := HT.out (2, 64) (by decide) (by cases ho; exact hd ⟨2, .guard⟩ (by simp) rfl)
      cases ho
      exfalso; revert hw; simp [Region.wanted, yielded, s64]
    · have s64 : a'.tmps[64]? = some (.bool false) := HT.out (2, 64) (by decide) (by cases ho; exact hd ⟨2, .guard⟩ (by simp) rfl)
      cases ho
      exfalso; revert hw; simp [Region.wanted, yielded, s64]
    · have s64 : a'.tmps[64]? = some (.bool false) := HT.out (2, 64) (by decide) (by cases ho; exact hd ⟨2, .guard⟩ (by simp) rfl)
      cases ho
      exfalso; revert hw; simp [Region.wanted, yielded, s64]
    · have s64 : a'.tmps[64]? = some (.bool false) := HT.out (2, 64) (by decide) (by cases ho; exact hd ⟨2, .guard⟩ (by simp) rfl)
      cases ho
      exfalso; revert hw; simp [Region.wanted, yielded, s64]
    · have s64 : a'.tmps[64]? = some (.bool false) := HT.out (2, 64) (by decide) (by cases ho; exact hd ⟨2, .guard⟩ (by simp) rfl)
      cases ho
      exfalso; revert hw; simp [Region.wanted, yielded, s64]
    · have s64 : a'.tmps[64]? = some (.bool false) := HT.out (2, 64) (by decide) (by cases ho; exact hd ⟨2, .guard⟩ (by simp) rfl)
      cases ho
      exfalso; revert hw; simp [Region.wanted, yielded, s64]
    · have s64 : a'.tmps[64]? = some (.bool false) := HT.out (2, 64) (by decide) (by cases ho; exact hd ⟨2, .guard⟩ (by simp) rfl)
      cases ho
      exfalso; revert hw; simp [Region.wanted, yielded, s64]
    · have s64 : a'.tmps[64]? = some (.bool false) := HT.out (2, 64) (by decide) (by cases ho; exact hd ⟨2, .guard⟩ (by simp) rfl)
      cases ho
      exfalso; revert hw; simp [Region.wanted, yielded, s64]
    · have s64 : a'.tmps[64]? = some (.bool false) := HT.out (2, 64) (by decide) (by cases ho; exact hd ⟨2, .guard⟩ (by simp) rfl)
      cases ho
      exfalso; revert hw; simp [Region.wanted, yielded, s64]
    · have s64 : a'.tmps[64]? = some (.bool false) := HT.out (2, 64) (by decide) (by cases ho; exact hd ⟨2, .guard⟩ (by simp) rfl)
      cases ho
      exfalso; revert hw; simp [Region.wanted, yielded, s64]
    · have s64 : a'.tmps[64]? = some (.bool false) := HT.out (2, 64) (by decide) (by cases ho; exact hd ⟨2, .guard⟩ (by simp) rfl)
      cases ho
      exfalso; revert hw; simp [Region.wanted, yielded, s64]
    · have s64 : a'.tmps[64]? = some (.bool false) := HT.out (2, 64) (by decide) (by cases ho; exact hd ⟨2, .guard⟩ (by simp) rfl)
      cases ho
      exfalso; revert hw; simp [Region.wanted, yielded, s64]
    · have s64 : a'.tmps[64]? = some (.bool false) := HT.out (2, 64) (by decide) (by cases ho; exact hd ⟨2, .guard⟩ (by simp) rfl)
      cases ho
      exfalso; revert hw; simp [Region.wanted, yielded, s64]
    · have s64 : a'.tmps[64]? = some (.bool false) := HT.out (2, 64) (by decide) (by cases ho; exact hd ⟨2, .data⟩ (by simp) rfl)
      have s78 : a'.tmps[78]? = some (undef) := HT.out (16, 78) (by decide) (by cases ho; exact hd ⟨16, .data⟩ (by simp) rfl)
      cases ho
      clear hd HT hT hw
      go_simp
      exact hK
    · have s79 : a'.tmps[79]? = some (.bool false) := HT.out (17, 79) (by decide) (by cases ho; exact hd ⟨17, .data⟩ (by simp) rfl)
      cases ho
      clear hd HT hT hw
      go_simp
      exact hK
    · have s8 : a'.tmps[8]? = some (.pointer (some ⟨Rb, 0, none⟩)) := (hT.out 8 (by decide)).trans t8
      cases ho
      clear hd HT hT hw
      go_simp
      exact hK
    · have s81 : a'.tmps[81]? = some (.pointer (some ⟨Rb, 2, none⟩)) := HT.out (19, 81) (by decide) (by cases ho; exact hd ⟨19, .data⟩ (by simp) rfl)
      cases ho
      clear hd HT hT hw
      go_simp
      exact hK
    · have s10 : a'.tmps[10]? = some (.int .i64 (k : Int)) := (hT.out 10 (by decide)).trans t10
      cases ho
      clear hd HT hT hw
      go_simp
      exact hK
    · have s82 : a'.tmps[82]? = some (.slice (some ⟨g, 0, none⟩) n c) := HT.out (20, 82) (by decide) (by cases ho; exact hd ⟨20, .data⟩ (by simp) rfl)
      have s83 : a'.tmps[83]? = some (.int .i64 (k : Int)) := HT.out (21, 83) (by decide) (by cases ho; exact hd ⟨21, .data⟩ (by simp) rfl)
      cases ho
      clear hd HT hT hw
      go_simp
      exact hK
    · have s84 : a'.tmps[84]? = some (.pointer (some ⟨g, k * 5, none⟩)) := HT.out (22, 84) (by decide) (by cases ho; exact hd ⟨22, .data⟩ (by simp) rfl)
      cases ho
      clear hd HT hT hw
      go_simp
      exact hK
    · have s85 : a'.tmps[85]? = some (.pointer (some ⟨g, k * 5 + 3, none⟩)) := HT.out (23, 85) (by decide) (by cases ho; exact hd ⟨23, .data⟩ (by simp) rfl)
      cases ho
      clear hd HT hT hw
      go_simp
      exact hK
    · have s86 : a'.tmps[86]? = some (.pointer (some ⟨g, k * 5 + 3, none⟩)) := HT.out (24, 86) (by decide) (by cases ho; exact hd ⟨24, .data⟩ (by simp) rfl)
      cases ho
      clear hd HT hT hw
      go_simp
      exact hK
    · have s87 : a'.tmps[87]? = some (.int .i64 how) := HT.out (25, 87) (by decide) (by cases ho; exact hd ⟨25, .data⟩ (by simp) rfl)
      cases ho
      clear hd HT hT hw
      go_simp
      exact hK
    · have s80 : a'.tmps[80]? = some (.bool false) := HT.out (18, 80) (by decide) (by cases ho; exact hd ⟨18, .data⟩ (by simp) rfl)
      have s88 : a'.tmps[88]? = some (.bool false) := HT.out (26, 88) (by decide) (by cases ho; exact hd ⟨26, .data⟩ (by simp) rfl)
      cases ho
      clear hd HT hT hw
      go_simp
      exact hK
    · have s89 : a'.tmps[89]? = some (.bool false) := HT.out (27, 89) (by decide) (by cases ho; exact hd ⟨27, .data⟩ (by simp) rfl)
      cases ho
      clear hd HT hT hw
      go_simp
      exact hK
    · have s8 : a'.tmps[8]? = some (.pointer (some ⟨Rb, 0, none⟩)) := (hT.out 8 (by decide)).trans t8
      cases ho
      clear hd HT hT hw
      go_simp
      exact hK
    · have s91 : a'.tmps[91]? = some (.pointer (some ⟨Rb, 2, none⟩)) := HT.out (29, 91) (by decide) (by cases ho; exact hd ⟨29, .data⟩ (by simp) rfl)
      cases ho
      clear hd HT hT hw
      go_simp
      exact hK
    · have s10 : a'.tmps[10]? = some (.int .i64 (k : Int)) := (hT.out 10 (by decide)).trans t10
      cases ho
      clear hd HT hT hw
      go_simp
      exact hK
    · have s92 : a'.tmps[92]? = some (.slice (some ⟨g, 0, none⟩) n c) := HT.out (30, 92) (by decide) (by cases ho; exact hd ⟨30, .data⟩ (by simp) rfl)
      have s93 : a'.tmps[93]? = some (.int .i64 (k : Int)) := HT.out (31, 93) (by decide) (by cases ho; exact hd ⟨31, .data⟩ (by simp) rfl)
      cases ho
      clear hd HT hT hw
      go_simp
      exact hK
    · have s94 : a'.tmps[94]? = some (.pointer (some ⟨g, k * 5, none⟩)) := HT.out (32, 94) (by decide) (by cases ho; exact hd ⟨32, .data⟩ (by simp) rfl)
      cases ho
      clear hd HT hT hw
      go_simp
      exact hK
    · have s95 : a'.tmps[95]? = some (.pointer (some ⟨g, k * 5 + 3, none⟩)) := HT.out (33, 95) (by decide) (by cases ho; exact hd ⟨33, .data⟩ (by simp) rfl)
      cases ho
      clear hd HT hT hw
      go_simp
      exact hK
    · have s96 : a'.tmps[96]? = some (.pointer (some ⟨g, k * 5 + 3, none⟩)) := HT.out (34, 96) (by decide) (by cases ho; exact hd ⟨34, .data⟩ (by simp) rfl)
      cases ho
      clear hd HT hT hw
      go_simp
      exact hK
    · have s97 : a'.tmps[97]? = some (.int .i64 how) := HT.out (35, 97) (by decide) (by cases ho; exact hd ⟨35, .data⟩ (by simp) rfl)
      cases ho
      clear hd HT hT hw
      go_simp
      exact hK
    · have s90 : a'.tmps[90]? = some (.bool false) := HT.out (28, 90) (by decide) (by cases ho; exact hd ⟨28, .data⟩ (by simp) rfl)
      have s98 : a'.tmps[98]? = some (.bool false) := HT.out (36, 98) (by decide) (by cases ho; exact hd ⟨36, .data⟩ (by simp) rfl)
      cases ho
      clear hd HT hT hw
      go_simp
      exact hK
    · have s99 : a'.tmps[99]? = some (.bool false) := HT.out (37, 99) (by decide) (by cases ho; exact hd ⟨37, .data⟩ (by simp) rfl)
      cases ho
      clear hd HT hT hw
      go_simp
      exact hK
    · have s8 : a'.tmps[8]? = some (.pointer (some ⟨Rb, 0, none⟩)) := (hT.out 8 (by decide)).trans t8
      cases ho
      clear hd HT hT hw
      go_simp
      exact hK
    · have s101 : a'.tmps[101]? = some (.pointer (some ⟨Rb, 2, none⟩)) := HT.out (39, 101) (by decide) (by cases ho; exact hd ⟨39, .data⟩ (by simp) rfl)
      cases ho
      clear hd HT hT hw
      go_simp
      exact hK
    · have s10 : a'.tmps[10]? = some (.int .i64 (k : Int)) := (hT.out 10 (by decide)).trans t10
      cases ho
      clear hd HT hT hw
      go_simp
      exact hK
    · have s102 : a'.tmps[102]? = some (.slice (some ⟨g, 0, none⟩) n c) := HT.out (40, 102) (by decide) (by cases ho; exact hd ⟨40, .data⟩ (by simp) rfl)
      have s103 : a'.tmps[103]? = some (.int .i64 (k : Int)) := HT.out (41, 103) (by decide) (by cases ho; exact hd ⟨41, .data⟩ (by simp) rfl)
      cases ho
      clear hd HT hT hw
      go_simp
      exact hK
    · have s104 : a'.tmps[104]? = some (.pointer (some ⟨g, k * 5, none⟩)) := HT.out (42, 104) (by decide) (by cases ho; exact hd ⟨42, .data⟩ (by simp) rfl)
      cases ho
      clear hd HT hT hw
      go_simp
      exact hK
    · have s105 : a'.tmps[105]? = some (.pointer (some ⟨g, k * 5 + 3, none⟩)) := HT.out (43, 105) (by decide) (by cases ho; exact hd ⟨43, .data⟩ (by simp) rfl)
      cases ho
      clear hd HT hT hw
      go_simp
      exact hK
    · have s106 : a'.tmps[106]? = some (.pointer (some ⟨g, k * 5 + 3, none⟩)) := HT.out (44, 106) (by decide) (by cases ho; exact hd ⟨44, .data⟩ (by simp) rfl)
      cases ho
      clear hd HT hT hw
      go_simp
      exact hK
    · have s107 : a'.tmps[107]? = some (.int .i64 how) := HT.out (45, 107) (by decide) (by cases ho; exact hd ⟨45, .data⟩ (by simp) rfl)
      cases ho
      clear hd HT hT hw
      go_simp
      exact hK
    · have s108 : a'.tmps[108]? = some (.bool true) := HT.out (46, 108) (by decide) (by cases ho; exact hd ⟨46, .data⟩ (by simp) rfl)
      cases ho
      clear hd HT hT hw
      go_simp
      exact hK
    · have s8 : a'.tmps[8]? = some (.pointer (some ⟨Rb, 0, none⟩)) := (hT.out 8 (by decide)).trans t8
      cases ho
      clear hd HT hT hw
      go_simp
      exact hK
    · have s110 : a'.tmps[110]? = some (.pointer (some ⟨Rb, 2, none⟩)) := HT.out (48, 110) (by decide) (by cases ho; exact hd ⟨48, .data⟩ (by simp) rfl)
      cases ho
      clear hd HT hT hw
      go_simp
      exact hK
    · have s10 : a'.tmps[10]? = some (.int .i64 (k : Int)) := (hT.out 10 (by decide)).trans t10
      cases ho
      clear hd HT hT hw
      go_simp
      exact hK
    · have s111 : a'.tmps[111]? = some (.slice (some ⟨g, 0, none⟩) n c) := HT.out (49, 111) (by decide) (by cases ho; exact hd ⟨49, .data⟩ (by simp) rfl)
      have s112 : a'.tmps[112]? = some (.int .i64 (k : Int)) := HT.out (50, 112) (by decide) (by cases ho; exact hd ⟨50, .data⟩ (by simp) rfl)
      cases ho
      clear hd HT hT hw
      go_simp
      exact hK
    · have s113 : a'.tmps[113]? = some (.pointer (some ⟨g, k * 5, none⟩)) := HT.out (51, 113) (by decide) (by cases ho; exact hd ⟨51, .data⟩ (by simp) rfl)
      cases ho
      clear hd HT hT hw
      go_simp
      exact hK
    · have s114 : a'.tmps[114]? = some (.pointer (some ⟨g, k * 5 + 3, none⟩)) := HT.out (52, 114) (by decide) (by cases ho; exact hd ⟨52, .data⟩ (by simp) rfl)
      cases ho
      clear hd HT hT hw
      go_simp
      exact hK
    · have s115 : a'.tmps[115]? = some (.pointer (some ⟨g, k * 5 + 4, none⟩)) := HT.out (53, 115) (by decide) (by cases ho; exact hd ⟨53, .data⟩ (by simp) rfl)
      cases ho
      clear hd HT hT hw
      go_simp
      exact hK
    · have s116 : a'.tmps[116]? = some (.int .i64 0) := HT.out (54, 116) (by decide) (by cases ho; exact hd ⟨54, .data⟩ (by simp) rfl)
      cases ho
      clear hd HT hT hw
      go_simp
      exact hK
    · have s109 : a'.tmps[109]? = some (.bool true) := HT.out (47, 109) (by decide) (by cases ho; exact hd ⟨47, .data⟩ (by simp) rfl)
      have s117 : a'.tmps[117]? = some (.bool false) := HT.out (55, 117) (by decide) (by cases ho; exact hd ⟨55, .data⟩ (by simp) rfl)
      cases ho
      clear hd HT hT hw
      go_simp
      exact hK
    · have s100 : a'.tmps[100]? = some (.bool false) := HT.out (38, 100) (by decide) (by cases ho; exact hd ⟨38, .data⟩ (by simp) rfl)
      have s118 : a'.tmps[118]? = some (.bool false) := HT.out (56, 118) (by decide) (by cases ho; exact hd ⟨56, .data⟩ (by simp) rfl)
      cases ho
      clear hd HT hT hw
      go_simp
      exact hK
def idxru10_p1 : List (Nat × Nat) := [(0, 62), (1, 63), (2, 64), (3, 65), (4, 66), (5, 67), (6, 68), (7, 69), (8, 70), (9, 71), (10, 72), (11, 73), (12, 74), (13, 75), (14, 76), (15, 77), (16, 78), (17, 79), (18, 80), (19, 81), (20, 82), (21, 83), (22, 84), (23, 85), (24, 86), (25, 87), (26, 88), (27, 89), (28, 90), (29, 91), (30, 92), (31, 93), (32, 94), (33, 95), (34, 96), (35, 97), (36, 98), (37, 99), (38, 100), (39, 101), (40, 102), (41, 103), (42, 104), (43, 105), (44, 106), (45, 107), (46, 108), (47, 109), (48, 110), (49, 111), (50, 112), (51, 113), (52, 114), (53, 115), (54, 116), (55, 117), (56, 118), (57, 119)]
def Vru10_p1 (Rb g n c k km : Nat) (key keyp how : Int) : Nat → Value := fun sl => match sl with
  | 62 => .int .i64 (k : Int)
  | 63 => .bool true
  | 64 => .bool true
  | 65 => .pointer (some ⟨Rb, 2, none⟩)
  | 66 => .slice (some ⟨g, 0, none⟩) n c
  | 67 => .int .i64 (k : Int)
  | 68 => .pointer (some ⟨g, k * 5, none⟩)
  | 69 => .pointer (some ⟨g, k * 5, none⟩)
  | 70 => .int .i64 key
  | 71 => .pointer (some ⟨Rb, 2, none⟩)
  | 72 => .slice (some ⟨g, 0, none⟩) n c
  | 73 => .int .i64 (k : Int)
  | 74 => .int .i64 ((k : Int) - 1)
  | 75 => .pointer (some ⟨g, km * 5, none⟩)
  | 76 => .pointer (some ⟨g, km * 5, none⟩)
  | 77 => .int .i64 keyp
  | 78 => .bool false
  | 79 => .bool false
  | 80 => .bool false
  | 81 => .pointer (some ⟨Rb, 2, none⟩)
  | 82 => .slice (some ⟨g, 0, none⟩) n c
  | 83 => .int .i64 (k : Int)
  | 84 => .pointer (some ⟨g, k * 5, none⟩)
  | 85 => .pointer (some ⟨g, k * 5 + 3, none⟩)
  | 86 => .pointer (some ⟨g, k * 5 + 3, none⟩)
  | 87 => .int .i64 how
  | 88 => .bool false
  | 89 => .bool false
  | 90 => .bool false
  | 91 => .pointer (some ⟨Rb, 2, none⟩)
  | 92 => .slice (some ⟨g, 0, none⟩) n c
  | 93 => .int .i64 (k : Int)
  | 94 => .pointer (some ⟨g, k * 5, none⟩)
  | 95 => .pointer (some ⟨g, k * 5 + 3, none⟩)
  | 96 => .pointer (some ⟨g, k * 5 + 3, none⟩)
  | 97 => .int .i64 how
  | 98 => .bool false
  | 99 => .bool false
  | 100 => .bool false
  | 101 => .pointer (some ⟨Rb, 2, none⟩)
  | 102 => .slice (some ⟨g, 0, none⟩) n c
  | 103 => .int .i64 (k : Int)
  | 104 => .pointer (some ⟨g, k * 5, none⟩)
  | 105 => .pointer (some ⟨g, k * 5 + 3, none⟩)
  | 106 => .pointer (some ⟨g, k * 5 + 3, none⟩)
  | 107 => .int .i64 how
  | 108 => .bool false
  | 109 => .bool false
  | 110 => undef
  | 111 => undef
  | 112 => undef
  | 113 => undef
  | 114 => undef
  | 115 => undef
  | 116 => undef
  | 117 => undef
  | 118 => .bool false
  | 119 => .bool false
  | _ => undef
set_option maxRecDepth 100000 in
set_option maxHeartbeats 8000000 in
theorem ru10_p1 (arg less : Int) (Zb Rb g n c k km : Nat) (key keyp how : Int) (w : World) (a : Act) (Q : Exit → Act → World → Prop) (ha : RuA a arg less Zb Rb) (t10 : a.tmps[10]? = some (.int .i64 (k : Int))) (cR : w.cell? ⟨Rb, 2, none⟩ = some (.slice (some ⟨g, 0, none⟩) n c)) (hk : k < n) (hn1 : n ≤ 100000)
    (ckey : w.cell? ⟨g, k * 5, none⟩ = some (.int .i64 key)) (chow : w.cell? ⟨g, k * 5 + 3, none⟩ = some (.int .i64 how)) (hw1 : 1 ≤ how) (hw9 : how ≤ 9) (hkm : (k : Int) - 1 = (km : Int)) (k0 : 0 < k) (ck : w.cell? ⟨g, km * 5, none⟩ = some (.int .i64 keyp)) (hlt : keyp < key) (h1 : how = 1)
    (hQ : ∀ a' : Act, RuA a' arg less Zb Rb → a'.tmps[10]? = some (.int .i64 (k : Int)) → a'.tmps[119]? = some (.bool false) → Q .normal a' w.drew) : (ruR10 Try.f14).wp Try.prog Q a w := by
  simp only [ruR10, ruL, nth, bodyOf, Try.f14, Option.getD, inK]
  obtain ⟨hsz, hdf, t1, t2, t7, t8⟩ := ha
  refine Tab.region_rdG (by kernel_rfl) idxru10_p1 [(2, 64, true), (18, 80, false), (28, 90, false), (38, 100, false), (47, 109, false)] [110, 111, 112, 113, 114, 115, 116, 117] 240 (Vru10_p1 Rb g n c k km key keyp how) (by kernel_rfl) hsz (by kernel_rfl) (by intro q hq; simp at hq; rcases hq with rfl | rfl | rfl | rfl | rfl <;> exact ⟨by decide, rfl⟩) (by intro d hd; simp at hd; rcases hd with rfl | rfl | rfl | rfl | rfl | rfl | rfl | rfl <;> rfl) ?_ ?_
  · intro a' hT
    exact hQ a' ⟨hT.sz.trans hsz, hT.dfs.trans hdf, (hT.out 1 (by decide)).trans t1, (hT.out 2 (by decide)).trans t2, (hT.out 7 (by decide)).trans t7, (hT.out 8 (by decide)).trans t8⟩ ((hT.out 10 (by decide)).trans t10) (hT.tab (57, 119) (by decide) (by simp [Array.getElem?_replicate]))
  · intro i' o L a' K' Q' hT hL ho hd hw hK
    have hi' : i' < 58 := (Array.getElem?_eq_some_iff.1 ho).1
    have HT : Hid (∀ q ∈ idxru10_p1, L[q.1]? = some true → a'.tmps[q.2]? = some (Vru10_p1 Rb g n c k km key keyp how q.2)) := hT.tab
    have d0 : w.drew.cell? ⟨Rb, 2, none⟩ = some (.slice (some ⟨g, 0, none⟩) n c) := cR
    have d1 : w.drew.cell? ⟨g, k * 5, none⟩ = some (.int .i64 key) := ckey
    have d2 : w.drew.cell? ⟨g, k * 5 + 3, none⟩ = some (.int .i64 how) := chow
    have l1 : Rb < w.drew.heap.size := lt_of_cell cR
    have l2 : g < w.drew.heap.size := lt_of_cell ckey
    have b1 : (k : Int) < n := by omega
    have b2 : (0 : Int) ≤ k := by omega
    have b3 : ¬ how < 1 := by omega
    have b4 : ¬ 9 < how := by omega
    have hwr : IntKind.i64.wrap ((k : Int) - 1) = (k : Int) - 1 := by rw [IntKind.wrap_i64]; omega
    have d3 : w.drew.cell? ⟨g, km * 5, none⟩ = some (.int .i64 keyp) := ck
    have b6 : ¬ key ≤ keyp := by omega
    have b7 : (km : Int) < n := by omega
    have b8 : (0 : Int) ≤ km := by omega
    have b9 : (how != 1) = false := by simp [h1]
    clear hQ cR ckey chow hw1 hw9 h1
    obtain rfl | rfl | rfl | rfl | rfl | rfl | rfl | rfl | rfl | rfl | rfl | rfl | rfl | rfl | rfl | rfl | rfl | rfl | rfl | rfl | rfl | rfl | rfl | rfl | rfl | rfl | rfl | rfl | rfl | rfl | rfl | rfl | rfl | rfl | rfl | rfl | rfl | rfl | rfl | rfl | rfl | rfl | rfl | rfl | rfl | rfl | rfl | rfl | rfl | rfl | rfl | rfl | rfl | rfl | rfl | rfl | rfl | rfl : i' = 0 ∨ i' = 1 ∨ i' = 2 ∨ i' = 3 ∨ i' = 4 ∨ i' = 5 ∨ i' = 6 ∨ i' = 7 ∨ i' = 8 ∨ i' = 9 ∨ i' = 10 ∨ i' = 11 ∨ i' = 12 ∨ i' = 13 ∨ i' = 14 ∨ i' = 15 ∨ i' = 16 ∨ i' = 17 ∨ i' = 18 ∨ i' = 19 ∨ i' = 20 ∨ i' = 21 ∨ i' = 22 ∨ i' = 23 ∨ i' = 24 ∨ i' = 25 ∨ i' = 26 ∨ i' = 27 ∨ i' = 28 ∨ i' = 29 ∨ i' = 30 ∨ i' = 31 ∨ i' = 32 ∨ i' = 33 ∨ i' = 34 ∨ i' = 35 ∨ i' = 36 ∨ i' = 37 ∨ i' = 38 ∨ i' = 39 ∨ i' = 40 ∨ i' = 41 ∨ i' = 42 ∨ i' = 43 ∨ i' = 44 ∨ i' = 45 ∨ i' = 46 ∨ i' = 47 ∨ i' = 48 ∨ i' = 49 ∨ i' = 50 ∨ i' = 51 ∨ i' = 52 ∨ i' = 53 ∨ i' = 54 ∨ i' = 55 ∨ i' = 56 ∨ i' = 57 := by omega
    · have s10 : a'.tmps[10]? = some (.int .i64 (k : Int)) := (hT.out 10 (by decide)).trans t10
      cases ho
      clear hd HT hT hw
      go_simp
      exact hK
    · have s62 : a'.tmps[62]? = some (.int .i64 (k : Int)) := HT.out (0, 62) (by decide) (by cases ho; exact hd ⟨0, .data⟩ (by simp) rfl)
      cases ho
      clear hd HT hT hw
      go_simp
      exact hK
    · have s63 : a'.tmps[63]? = some (.bool true) := HT.out (1, 63) (by decide) (by cases ho; exact hd ⟨1, .data⟩ (by simp) rfl)
      cases ho
      clear hd HT hT hw
      go_simp
      exact hK
    · have s8 : a'.tmps[8]? = some (.pointer (some ⟨Rb, 0, none⟩)) := (hT.out 8 (by decide)).trans t8
      cases ho
      clear hd HT hT hw
      go_simp
      exact hK
    · have s65 : a'.tmps[65]? = some (.pointer (some ⟨Rb, 2, none⟩)) := HT.out (3, 65) (by decide) (by cases ho; exact hd ⟨3, .data⟩ (by simp) rfl)
      cases ho
      clear hd HT hT hw
      go_simp
      exact hK
    · have s10 : a'.tmps[10]? = some (.int .i64 (k : Int)) := (hT.out 10 (by decide)).trans t10
      cases ho
      clear hd HT hT hw
      go_simp
      exact hK
    · have s66 : a'.tmps[66]? = some (.slice (some ⟨g, 0, none⟩) n c) := HT.out (4, 66) (by decide) (by cases ho; exact hd ⟨4, .data⟩ (by simp) rfl)
      have s67 : a'.tmps[67]? = some (.int .i64 (k : Int)) := HT.out (5, 67) (by decide) (by cases ho; exact hd ⟨5, .data⟩ (by simp) rfl)
      cases ho
      clear hd HT hT hw
      go_simp
      exact hK
    · have s68 : a'.tmps[68]? = some (.pointer (some ⟨g, k * 5, none⟩)) := HT.out (6, 68) (by decide) (by cases ho; exact hd ⟨6, .data⟩ (by simp) rfl)
      cases ho
      clear hd HT hT hw
      go_simp
      exact hK
    · have s69 : a'.tmps[69]? = some (.pointer (some ⟨g, k * 5, none⟩)) := HT.out (7, 69) (by decide) (by cases ho; exact hd ⟨7, .data⟩ (by simp) rfl)
      cases ho
      clear hd HT hT hw
      go_simp
      exact hK
    · have s8 : a'.tmps[8]? = some (.pointer (some ⟨Rb, 0, none⟩)) := (hT.out 8 (by decide)).trans t8
      cases ho
      clear hd HT hT hw
      go_simp
      exact hK
    · have s71 : a'.tmps[71]? = some (.pointer (some ⟨Rb, 2, none⟩)) := HT.out (9, 71) (by decide) (by cases ho; exact hd ⟨9, .data⟩ (by simp) rfl)
      cases ho
      clear hd HT hT hw
      go_simp
      exact hK
    · have s10 : a'.tmps[10]? = some (.int .i64 (k : Int)) := (hT.out 10 (by decide)).trans t10
      cases ho
      clear hd HT hT hw
      go_simp
      exact hK
    · have s73 : a'.tmps[73]? = some (.int .i64 (k : Int)) := HT.out (11, 73) (by decide) (by cases ho; exact hd ⟨11, .data⟩ (by simp) rfl)
      cases ho
      clear hd HT hT hw
      clear hkm
      go_simp
      exact hK
    · have s72 : a'.tmps[72]? = some (.slice (some ⟨g, 0, none⟩) n c) := HT.out (10, 72) (by decide) (by cases ho; exact hd ⟨10, .data⟩ (by simp) rfl)
      have s74 : a'.tmps[74]? = some (.int .i64 ((k : Int) - 1)) := HT.out (12, 74) (by decide) (by cases ho; exact hd ⟨12, .data⟩ (by simp) rfl)
      cases ho
      clear hd HT hT hw
      go_simp
      exact hK
    · have s75 : a'.tmps[75]? = some (.pointer (some ⟨g, km * 5, none⟩)) := HT.out (13, 75) (by decide) (by cases ho; exact hd ⟨13, .data⟩ (by simp) rfl)
      cases ho
      clear hd HT hT hw
      go_simp
      exact hK
    · have s76 : a'.tmps[76]? = some (.pointer (some ⟨g, km * 5, none⟩)) := HT.out (14, 76) (by decide) (by cases ho; exact hd ⟨14, .data⟩ (by simp) rfl)
      cases ho
      clear hd HT hT hw
      go_simp
      exact hK
    · have s70 : a'.tmps[70]? = some (.int .i64 key) := HT.out (8, 70) (by decide) (by cases ho; exact hd ⟨8, .data⟩ (by simp) rfl)
      have s77 : a'.tmps[77]? = some (.int .i64 keyp) := HT.out (15, 77) (by decide) (by cases ho; exact hd ⟨15, .data⟩ (by simp) rfl)
      cases ho
      clear hd HT hT hw
      go_simp
      exact hK
    · have s64 : a'.tmps[64]? = some (.bool true) := HT.out (2, 64) (by decide) (by cases ho; exact hd ⟨2, .data⟩ (by simp) rfl)
      have s78 : a'.tmps[78]? = some (.bool false) := HT.out (16, 78) (by decide) (by cases ho; exact hd ⟨16, .data⟩ (by simp) rfl)
      cases ho
      clear hd HT hT hw
      go_simp
      exact hK
    · have s79 : a'.tmps[79]? = some (.bool false) := HT.out (17, 79) (by decide) (by cases ho; exact hd ⟨17, .data⟩ (by simp) rfl)
      cases ho
      clear hd HT hT hw
      go_simp
      exact hK
    · have s8 : a'.tmps[8]? = some (.pointer (some ⟨Rb, 0, none⟩)) := (hT.out 8 (by decide)).trans t8
      cases ho
      clear hd HT hT hw
      go_simp
      exact hK
    · have s81 : a'.tmps[81]? = some (.pointer (some ⟨Rb, 2, none⟩)) := HT.out (19, 81) (by decide) (by cases ho; exact hd ⟨19, .data⟩ (by simp) rfl)
      cases ho
      clear hd HT hT hw
      go_simp
      exact hK
    · have s10 : a'.tmps[10]? = some (.int .i64 (k : Int)) := (hT.out 10 (by decide)).trans t10
      cases ho
      clear hd HT hT hw
      go_simp
      exact hK
    · have s82 : a'.tmps[82]? = some (.slice (some ⟨g, 0, none⟩) n c) := HT.out (20, 82) (by decide) (by cases ho; exact hd ⟨20, .data⟩ (by simp) rfl)
      have s83 : a'.tmps[83]? = some (.int .i64 (k : Int)) := HT.out (21, 83) (by decide) (by cases ho; exact hd ⟨21, .data⟩ (by simp) rfl)
      cases ho
      clear hd HT hT hw
      go_simp
      exact hK
    · have s84 : a'.tmps[84]? = some (.pointer (some ⟨g, k * 5, none⟩)) := HT.out (22, 84) (by decide) (by cases ho; exact hd ⟨22, .data⟩ (by simp) rfl)
      cases ho
      clear hd HT hT hw
      go_simp
      exact hK
    · have s85 : a'.tmps[85]? = some (.pointer (some ⟨g, k * 5 + 3, none⟩)) := HT.out (23, 85) (by decide) (by cases ho; exact hd ⟨23, .data⟩ (by simp) rfl)
      cases ho
      clear hd HT hT hw
      go_simp
      exact hK
    · have s86 : a'.tmps[86]? = some (.pointer (some ⟨g, k * 5 + 3, none⟩)) := HT.out (24, 86) (by decide) (by cases ho; exact hd ⟨24, .data⟩ (by simp) rfl)
      cases ho
      clear hd HT hT hw
      go_simp
      exact hK
    · have s87 : a'.tmps[87]? = some (.int .i64 how) := HT.out (25, 87) (by decide) (by cases ho; exact hd ⟨25, .data⟩ (by simp) rfl)
      cases ho
      clear hd HT hT hw
      go_simp
      exact hK
    · have s80 : a'.tmps[80]? = some (.bool false) := HT.out (18, 80) (by decide) (by cases ho; exact hd ⟨18, .data⟩ (by simp) rfl)
      have s88 : a'.tmps[88]? = some (.bool false) := HT.out (26, 88) (by decide) (by cases ho; exact hd ⟨26, .data⟩ (by simp) rfl)
      cases ho
      clear hd HT hT hw
      go_simp
      exact hK
    · have s89 : a'.tmps[89]? = some (.bool false) := HT.out (27, 89) (by decide) (by cases ho; exact hd ⟨27, .data⟩ (by simp) rfl)
      cases ho
      clear hd HT hT hw
      go_simp
      exact hK
    · have s8 : a'.tmps[8]? = some (.pointer (some ⟨Rb, 0, none⟩)) := (hT.out 8 (by decide)).trans t8
      cases ho
      clear hd HT hT hw
      go_simp
      exact hK
    · have s91 : a'.tmps[91]? = some (.pointer (some ⟨Rb, 2, none⟩)) := HT.out (29, 91) (by decide) (by cases ho; exact hd ⟨29, .data⟩ (by simp) rfl)
      cases ho
      clear hd HT hT hw
      go_simp
      exact hK
    · have s10 : a'.tmps[10]? = some (.int .i64 (k : Int)) := (hT.out 10 (by decide)).trans t10
      cases ho
      clear hd HT hT hw
      go_simp
      exact hK
    · have s92 : a'.tmps[92]? = some (.slice (some ⟨g, 0, none⟩) n c) := HT.out (30, 92) (by decide) (by cases ho; exact hd ⟨30, .data⟩ (by simp) rfl)
      have s93 : a'.tmps[93]? = some (.int .i64 (k : Int)) := HT.out (31, 93) (by decide) (by cases ho; exact hd ⟨31, .data⟩ (by simp) rfl)
      cases ho
      clear hd HT hT hw
      go_simp
      exact hK
    · have s94 : a'.tmps[94]? = some (.pointer (some ⟨g, k * 5, none⟩)) := HT.out (32, 94) (by decide) (by cases ho; exact hd ⟨32, .data⟩ (by simp) rfl)
      cases ho
      clear hd HT hT hw
      go_simp
      exact hK
    · have s95 : a'.tmps[95]? = some (.pointer (some ⟨g, k * 5 + 3, none⟩)) := HT.out (33, 95) (by decide) (by cases ho; exact hd ⟨33, .data⟩ (by simp) rfl)
      cases ho
      clear hd HT hT hw
      go_simp
      exact hK
    · have s96 : a'.tmps[96]? = some (.pointer (some ⟨g, k * 5 + 3, none⟩)) := HT.out (34, 96) (by decide) (by cases ho; exact hd ⟨34, .data⟩ (by simp) rfl)
      cases ho
      clear hd HT hT hw
      go_simp
      exact hK
    · have s97 : a'.tmps[97]? = some (.int .i64 how) := HT.out (35, 97) (by decide) (by cases ho; exact hd ⟨35, .data⟩ (by simp) rfl)
      cases ho
      clear hd HT hT hw
      go_simp
      exact hK
    · have s90 : a'.tmps[90]? = some (.bool false) := HT.out (28, 90) (by decide) (by cases ho; exact hd ⟨28, .data⟩ (by simp) rfl)
      have s98 : a'.tmps[98]? = some (.bool false) := HT.out (36, 98) (by decide) (by cases ho; exact hd ⟨36, .data⟩ (by simp) rfl)
      cases ho
      clear hd HT hT hw
      go_simp
      exact hK
    · have s99 : a'.tmps[99]? = some (.bool false) := HT.out (37, 99) (by decide) (by cases ho; exact hd ⟨37, .data⟩ (by simp) rfl)
      cases ho
      clear hd HT hT hw
      go_simp
      exact hK
    · have s8 : a'.tmps[8]? = some (.pointer (some ⟨Rb, 0, none⟩)) := (hT.out 8 (by decide)).trans t8
      cases ho
      clear hd HT hT hw
      go_simp
      exact hK
    · have s101 : a'.tmps[101]? = some (.pointer (some ⟨Rb, 2, none⟩)) := HT.out (39, 101) (by decide) (by cases ho; exact hd ⟨39, .data⟩ (by simp) rfl)
      cases ho
      clear hd HT hT hw
      go_simp
      exact hK
    · have s10 : a'.tmps[10]? = some (.int .i64 (k : Int)) := (hT.out 10 (by decide)).trans t10
      cases ho
      clear hd HT hT hw
      go_simp
      exact hK
    · have s102 : a'.tmps[102]? = some (.slice (some ⟨g, 0, none⟩) n c) := HT.out (40, 102) (by decide) (by cases ho; exact hd ⟨40, .data⟩ (by simp) rfl)
      have s103 : a'.tmps[103]? = some (.int .i64 (k : Int)) := HT.out (41, 103) (by decide) (by cases ho; exact hd ⟨41, .data⟩ (by simp) rfl)
      cases ho
      clear hd HT hT hw
      go_simp
      exact hK
    · have s104 : a'.tmps[104]? = some (.pointer (some ⟨g, k * 5, none⟩)) := HT.out (42, 104) (by decide) (by cases ho; exact hd ⟨42, .data⟩ (by simp) rfl)
      cases ho
      clear hd HT hT hw
      go_simp
      exact hK
    · have s105 : a'.tmps[105]? = some (.pointer (some ⟨g, k * 5 + 3, none⟩)) := HT.out (43, 105) (by decide) (by cases ho; exact hd ⟨43, .data⟩ (by simp) rfl)
      cases ho
      clear hd HT hT hw
      go_simp
      exact hK
    · have s106 : a'.tmps[106]? = some (.pointer (some ⟨g, k * 5 + 3, none⟩)) := HT.out (44, 106) (by decide) (by cases ho; exact hd ⟨44, .data⟩ (by simp) rfl)
      cases ho
      clear hd HT hT hw
      go_simp
      exact hK
    · have s107 : a'.tmps[107]? = some (.int .i64 how) := HT.out (45, 107) (by decide) (by cases ho; exact hd ⟨45, .data⟩ (by simp) rfl)
      cases ho
      clear hd HT hT hw
      go_simp
      exact hK
    · have s108 : a'.tmps[108]? = some (.bool false) := HT.out (46, 108) (by decide) (by cases ho; exact hd ⟨46, .data⟩ (by simp) rfl)
      cases ho
      clear hd HT hT hw
      go_simp
      exact hK
    · have s109 : a'.tmps[109]? = some (.bool false) := HT.out (47, 109) (by decide) (by cases ho; exact hd ⟨47, .guard⟩ (by simp) rfl)
      cases ho
      exfalso; revert hw; simp [Region.wanted, yielded, s109]
    · have s109 : a'.tmps[109]? = some (.bool false) := HT.out (47, 109) (by decide) (by cases ho; exact hd ⟨47, .guard⟩ (by simp) rfl)
      cases ho
      exfalso; revert hw; simp [Region.wanted, yielded, s109]
    · have s109 : a'.tmps[109]? = some (.bool false) := HT.out (47, 109) (by decide) (by cases ho; exact hd ⟨47, .guard⟩ (by simp) rfl)
      cases ho
      exfalso; revert hw; simp [Region.wanted, yielded, s109]
    · have s109 : a'.tmps[109]? = some (.bool false) := HT.out (47, 109) (by decide) (by cases ho; exact hd ⟨47, .guard⟩ (by simp) rfl)
      cases ho
      exfalso; revert hw; simp [Region.wanted, yielded, s109]
    · have s109 : a'.tmps[109]? = some (.bool false) := HT.out (47, 109) (by decide) (by cases ho; exact hd ⟨47, .guard⟩ (by simp) rfl)
      cases ho
      exfalso; revert hw; simp [Region.wanted, yielded, s109]
    · have s109 : a'.tmps[109]? = some (.bool false) := HT.out (47, 109) (by decide) (by cases ho; exact hd ⟨47, .guard⟩ (by simp) rfl)
      cases ho
      exfalso; revert hw; simp [Region.wanted, yielded, s109]
    · have s109 : a'.tmps[109]? = some (.bool false) := HT.out (47, 109) (by decide) (by cases ho; exact hd ⟨47, .guard⟩ (by simp) rfl)
      cases ho
      exfalso; revert hw; simp [Region.wanted, yielded, s109]
    · have s109 : a'.tmps[109]? = some (.bool false) := HT.out (47, 109) (by decide) (by cases ho; exact hd ⟨47, .guard⟩ (by simp) rfl)
      cases ho
      exfalso; revert hw; simp [Region.wanted, yielded, s109]
    · have s109 : a'.tmps[109]? = some (.bool false) := HT.out (47, 109) (by decide) (by cases ho; exact hd ⟨47, .data⟩ (by simp) rfl)
      have s117 : a'.tmps[117]? = some (undef) := HT.out (55, 117) (by decide) (by cases ho; exact hd ⟨55, .data⟩ (by simp) rfl)
      cases ho
      clear hd HT hT hw
      go_simp
      exact hK
    · have s100 : a'.tmps[100]? = some (.bool false) := HT.out (38, 100) (by decide) (by cases ho; exact hd ⟨38, .data⟩ (by simp) rfl)
      have s118 : a'.tmps[118]? = some (.bool false) := HT.out (56, 118) (by decide) (by cases ho; exact hd ⟨56, .data⟩ (by simp) rfl)
      cases ho
      clear hd HT hT hw
      go_simp
      exact hK
def idxru10_pn : List (Nat × Nat) := [(0, 62), (1, 63), (2, 64), (3, 65), (4, 66), (5, 67), (6, 68), (7, 69), (8, 70), (9, 71), (10, 72), (11, 73), (12, 74), (13, 75), (14, 76), (15, 77), (16, 78), (17, 79), (18, 80), (19, 81), (20, 82), (21, 83), (22, 84), (23, 85), (24, 86), (25, 87), (26, 88), (27, 89), (28, 90), (29, 91), (30, 92), (31, 93), (32, 94), (33, 95), (34, 96), (35, 97), (36, 98), (37, 99), (38, 100), (39, 101), (40, 102), (41, 103), (42, 104), (43, 105), (44, 106), (45, 107), (46, 108), (47, 109), (48, 110), (49, 111), (50, 112), (51, 113), (52, 114), (53, 115), (54, 116), (55, 117), (56, 118), (57, 119)]
def Vru10_pn (Rb g n c k km : Nat) (key keyp how : Int) : Nat → Value := fun sl => match sl with
  | 62 => .int .i64 (k : Int)
  | 63 => .bool true
  | 64 => .bool true
  | 65 => .pointer (some ⟨Rb, 2, none⟩)
  | 66 => .slice (some ⟨g, 0, none⟩) n c
  | 67 => .int .i64 (k : Int)
  | 68 => .pointer (some ⟨g, k * 5, none⟩)
  | 69 => .pointer (some ⟨g, k * 5, none⟩)
  | 70 => .int .i64 key
  | 71 => .pointer (some ⟨Rb, 2, none⟩)
  | 72 => .slice (some ⟨g, 0, none⟩) n c
  | 73 => .int .i64 (k : Int)
  | 74 => .int .i64 ((k : Int) - 1)
  | 75 => .pointer (some ⟨g, km * 5, none⟩)
  | 76 => .pointer (some ⟨g, km * 5, none⟩)
  | 77 => .int .i64 keyp
  | 78 => .bool false
  | 79 => .bool false
  | 80 => .bool false
  | 81 => .pointer (some ⟨Rb, 2, none⟩)
  | 82 => .slice (some ⟨g, 0, none⟩) n c
  | 83 => .int .i64 (k : Int)
  | 84 => .pointer (some ⟨g, k * 5, none⟩)
  | 85 => .pointer (some ⟨g, k * 5 + 3, none⟩)
  | 86 => .pointer (some ⟨g, k * 5 + 3, none⟩)
  | 87 => .int .i64 how
  | 88 => .bool false
  | 89 => .bool false
  | 90 => .bool false
  | 91 => .pointer (some ⟨Rb, 2, none⟩)
  | 92 => .slice (some ⟨g, 0, none⟩) n c
  | 93 => .int .i64 (k : Int)
  | 94 => .pointer (some ⟨g, k * 5, none⟩)
  | 95 => .pointer (some ⟨g, k * 5 + 3, none⟩)
  | 96 => .pointer (some ⟨g, k * 5 + 3, none⟩)
  | 97 => .int .i64 how
  | 98 => .bool false
  | 99 => .bool false
  | 100 => .bool false
  | 101 => .pointer (some ⟨Rb, 2, none⟩)
  | 102 => .slice (some ⟨g, 0, none⟩) n c
  | 103 => .int .i64 (k : Int)
  | 104 => .pointer (some ⟨g, k * 5, none⟩)
  | 105 => .pointer (some ⟨g, k * 5 + 3, none⟩)
  | 106 => .pointer (some ⟨g, k * 5 + 3, none⟩)
  | 107 => .int .i64 how
  | 108 => .bool true
  | 109 => .bool true
  | 110 => .pointer (some ⟨Rb, 2, none⟩)
  | 111 => .slice (some ⟨g, 0, none⟩) n c
  | 112 => .int .i64 (k : Int)
  | 113 => .pointer (some ⟨g, k * 5, none⟩)
  | 114 => .pointer (some ⟨g, k * 5 + 3, none⟩)
  | 115 => .pointer (some ⟨g, k * 5 + 4, none⟩)
  | 116 => .int .i64 0
  | 117 => .bool false
  | 118 => .bool false
  | 119 => .bool false
  | _ => undef
set_option maxRecDepth 100000 in
set_option maxHeartbeats 8000000 in
theorem ru10_pn (arg less : Int) (Zb Rb g n c k km : Nat) (key keyp how : Int) (w : World) (a : Act) (Q : Exit → Act → World → Prop) (ha : RuA a arg less Zb Rb) (t10 : a.tmps[10]? = some (.int .i64 (k : Int))) (cR : w.cell? ⟨Rb, 2, none⟩ = some (.slice (some ⟨g, 0, none⟩) n c)) (hk : k < n) (hn1 : n ≤ 100000)
    (ckey : w.cell? ⟨g, k * 5, none⟩ = some (.int .i64 key)) (chow : w.cell? ⟨g, k * 5 + 3, none⟩ = some (.int .i64 how)) (hw1 : 1 ≤ how) (hw9 : how ≤ 9) (hkm : (k : Int) - 1 = (km : Int)) (k0 : 0 < k) (ck : w.cell? ⟨g, km * 5, none⟩ = some (.int .i64 keyp)) (hlt : keyp < key) (hn : how ≠ 1) (cv : w.cell? ⟨g, k * 5 + 4, none⟩ = some (.int .i64 0))
    (hQ : ∀ a' : Act, RuA a' arg less Zb Rb → a'.tmps[10]? = some (.int .i64 (k : Int)) → a'.tmps[119]? = some (.bool false) → Q .normal a' w.drew) : (ruR10 Try.f14).wp Try.prog Q a w := by
  simp only [ruR10, ruL, nth, bodyOf, Try.f14, Option.getD, inK]
  obtain ⟨hsz, hdf, t1, t2, t7, t8⟩ := ha
  refine Tab.region_rdG (by kernel_rfl) idxru10_pn [(2, 64, true), (18, 80, false), (28, 90, false), (38, 100, false), (47, 109, true)] [] 240 (Vru10_pn Rb g n c k km key keyp how) (by kernel_rfl) hsz (by kernel_rfl) (by intro q hq; simp at hq; rcases hq with rfl | rfl | rfl | rfl | rfl <;> exact ⟨by decide, rfl⟩) (by intro d hd; cases hd) ?_ ?_
  · intro a' hT
    exact hQ a' ⟨hT.sz.trans hsz, hT.dfs.trans hdf, (hT.out 1 (by decide)).trans t1, (hT.out 2 (by decide)).trans t2, (hT.out 7 (by decide)).trans t7, (hT.out 8 (by decide)).trans t8⟩ ((hT.out 10 (by decide)).trans t10) (hT.tab (57, 119) (by decide) (by simp [Array.getElem?_replicate]))
  · intro i' o L a' K' Q' hT hL ho hd hw hK
    have hi' : i' < 58 := (Array.getElem?_eq_some_iff.1 ho).1
    have HT : Hid (∀ q ∈ idxru10_pn, L[q.1]? = some true → a'.tmps[q.2]? = some (Vru10_pn Rb g n c k km key keyp how q.2)) := hT.tab
    have d0 : w.drew.cell? ⟨Rb, 2, none⟩ = some (.slice (some ⟨g, 0, none⟩) n c) := cR
    have d1 : w.drew.cell? ⟨g, k * 5, none⟩ = some (.int .i64 key) := ckey
    have d2 : w.drew.cell? ⟨g, k * 5 + 3, none⟩ = some (.int .i64 how) := chow
    have l1 : Rb < w.drew.heap.size := lt_of_cell cR
    have l2 : g < w.drew.heap.size := lt_of_cell ckey
    have b1 : (k : Int) < n := by omega
    have b2 : (0 : Int) ≤ k := by omega
    have b3 : ¬ how < 1 := by omega
    have b4 : ¬ 9 < how := by omega
    have hwr : IntKind.i64.wrap ((k : Int) - 1) = (k : Int) - 1 := by rw [IntKind.wrap_i64]; omega
    have d3 : w.drew.cell? ⟨g, km * 5, none⟩ = some (.int .i64 keyp) := ck
    have b6 : ¬ key ≤ keyp := by omega
    have b7 : (km : Int) < n := by omega
    have b8 : (0 : Int) ≤ km := by omega
    have d4 : w.drew.cell? ⟨g, k * 5 + 4, none⟩ = some (.int .i64 0) := cv
    have b9 : (how != 1) = true := by simpa using hn
    clear hQ cR ckey chow hw1 hw9 hn
    obtain rfl | rfl | rfl | rfl | rfl | rfl | rfl | rfl | rfl | rfl | rfl | rfl | rfl | rfl | rfl | rfl | rfl | rfl | rfl | rfl | rfl | rfl | rfl | rfl | rfl | rfl | rfl | rfl | rfl | rfl | rfl | rfl | rfl | rfl | rfl | rfl | rfl | rfl | rfl | rfl | rfl | rfl | rfl | rfl | rfl | rfl | rfl | rfl | rfl | rfl | rfl | rfl | rfl | rfl | rfl | rfl | rfl | rfl : i' = 0 ∨ i' = 1 ∨ i' = 2 ∨ i' = 3 ∨ i' = 4 ∨ i' = 5 ∨ i' = 6 ∨ i' = 7 ∨ i' = 8 ∨ i' = 9 ∨ i' = 10 ∨ i' = 11 ∨ i' = 12 ∨ i' = 13 ∨ i' = 14 ∨ i' = 15 ∨ i' = 16 ∨ i' = 17 ∨ i' = 18 ∨ i' = 19 ∨ i' = 20 ∨ i' = 21 ∨ i' = 22 ∨ i' = 23 ∨ i' = 24 ∨ i' = 25 ∨ i' = 26 ∨ i' = 27 ∨ i' = 28 ∨ i' = 29 ∨ i' = 30 ∨ i' = 31 ∨ i' = 32 ∨ i' = 33 ∨ i' = 34 ∨ i' = 35 ∨ i' = 36 ∨ i' = 37 ∨ i' = 38 ∨ i' = 39 ∨ i' = 40 ∨ i' = 41 ∨ i' = 42 ∨ i' = 43 ∨ i' = 44 ∨ i' = 45 ∨ i' = 46 ∨ i' = 47 ∨ i' = 48 ∨ i' = 49 ∨ i' = 50 ∨ i' = 51 ∨ i' = 52 ∨ i' = 53 ∨ i' = 54 ∨ i' = 55 ∨ i' = 56 ∨ i' = 57 := by omega
    · have s10 : a'.tmps[10]? = some (.int .i64 (k : Int)) := (hT.out 10 (by decide)).trans t10
      cases ho
      clear hd HT hT hw
      go_simp
      exact hK
    · have s62 : a'.tmps[62]? = some (.int .i64 (k : Int)) := HT.out (0, 62) (by decide) (by cases ho; exact hd ⟨0, .data⟩ (by simp) rfl)
      cases ho
      clear hd HT hT hw
      go_simp
      exact hK
    · have s63 : a'.tmps[63]? = some (.bool true) := HT.out (1, 63) (by decide) (by cases ho; exact hd ⟨1, .data⟩ (by simp) rfl)
      cases ho
      clear hd HT hT hw
      go_simp
      exact hK
    · have s8 : a'.tmps[8]? = some (.pointer (some ⟨Rb, 0, none⟩)) := (hT.out 8 (by decide)).trans t8
      cases ho
      clear hd HT hT hw
      go_simp
      exact hK
    · have s65 : a'.tmps[65]? = some (.pointer (some ⟨Rb, 2, none⟩)) := HT.out (3, 65) (by decide) (by cases ho; exact hd ⟨3, .data⟩ (by simp) rfl)
      cases ho
      clear hd HT hT hw
      go_simp
      exact hK
    · have s10 : a'.tmps[10]? = some (.int .i64 (k : Int)) := (hT.out 10 (by decide)).trans t10
      cases ho
      clear hd HT hT hw
      go_simp
      exact hK
    · have s66 : a'.tmps[66]? = some (.slice (some ⟨g, 0, none⟩) n c) := HT.out (4, 66) (by decide) (by cases ho; exact hd ⟨4, .data⟩ (by simp) rfl)
      have s67 : a'.tmps[67]? = some (.int .i64 (k : Int)) := HT.out (5, 67) (by decide) (by cases ho; exact hd ⟨5, .data⟩ (by simp) rfl)
      cases ho
      clear hd HT hT hw
      go_simp
      exact hK
    · have s68 : a'.tmps[68]? = some (.pointer (some ⟨g, k * 5, none⟩)) := HT.out (6, 68) (by decide) (by cases ho; exact hd ⟨6, .data⟩ (by simp) rfl)
      cases ho
      clear hd HT hT hw
      go_simp
      exact hK
    · have s69 : a'.tmps[69]? = some (.pointer (some ⟨g, k * 5, none⟩)) := HT.out (7, 69) (by decide) (by cases ho; exact hd ⟨7, .data⟩ (by simp) rfl)
      cases ho
      clear hd HT hT hw
      go_simp
      exact hK
    · have s8 : a'.tmps[8]? = some (.pointer (some ⟨Rb, 0, none⟩)) := (hT.out 8 (by decide)).trans t8
      cases ho
      clear hd HT hT hw
      go_simp
      exact hK
    · have s71 : a'.tmps[71]? = some (.pointer (some ⟨Rb, 2, none⟩)) := HT.out (9, 71) (by decide) (by cases ho; exact hd ⟨9, .data⟩ (by simp) rfl)
      cases ho
      clear hd HT hT hw
      go_simp
      exact hK
    · have s10 : a'.tmps[10]? = some (.int .i64 (k : Int)) := (hT.out 10 (by decide)).trans t10
      cases ho
      clear hd HT hT hw
      go_simp
      exact hK
    · have s73 : a'.tmps[73]? = some (.int .i64 (k : Int)) := HT.out (11, 73) (by decide) (by cases ho; exact hd ⟨11, .data⟩ (by simp) rfl)
      cases ho
      clear hd HT hT hw
      clear hkm
      go_simp
      exact hK
    · have s72 : a'.tmps[72]? = some (.slice (some ⟨g, 0, none⟩) n c) := HT.out (10, 72) (by decide) (by cases ho; exact hd ⟨10, .data⟩ (by simp) rfl)
      have s74 : a'.tmps[74]? = some (.int .i64 ((k : Int) - 1)) := HT.out (12, 74) (by decide) (by cases ho; exact hd ⟨12, .data⟩ (by simp) rfl)
      cases ho
      clear hd HT hT hw
      go_simp
      exact hK
    · have s75 : a'.tmps[75]? = some (.pointer (some ⟨g, km * 5, none⟩)) := HT.out (13, 75) (by decide) (by cases ho; exact hd ⟨13, .data⟩ (by simp) rfl)
      cases ho
      clear hd HT hT hw
      go_simp
      exact hK
    · have s76 : a'.tmps[76]? = some (.pointer (some ⟨g, km * 5, none⟩)) := HT.out (14, 76) (by decide) (by cases ho; exact hd ⟨14, .data⟩ (by simp) rfl)
      cases ho
      clear hd HT hT hw
      go_simp
      exact hK
    · have s70 : a'.tmps[70]? = some (.int .i64 key) := HT.out (8, 70) (by decide) (by cases ho; exact hd ⟨8, .data⟩ (by simp) rfl)
      have s77 : a'.tmps[77]? = some (.int .i64 keyp) := HT.out (15, 77) (by decide) (by cases ho; exact hd ⟨15, .data⟩ (by simp) rfl)
      cases ho
      clear hd HT hT hw
      go_simp
      exact hK
    · have s64 : a'.tmps[64]? = some (.bool true) := HT.out (2, 64) (by decide) (by cases ho; exact hd ⟨2, .data⟩ (by simp) rfl)
      have s78 : a'.tmps[78]? = some (.bool false) := HT.out (16, 78) (by decide) (by cases ho; exact hd ⟨16, .data⟩ (by simp) rfl)
      cases ho
      clear hd HT hT hw
      go_simp
      exact hK
    · have s79 : a'.tmps[79]? = some (.bool false) := HT.out (17, 79) (by decide) (by cases ho; exact hd ⟨17, .data⟩ (by simp) rfl)
      cases ho
      clear hd HT hT hw
      go_simp
      exact hK
    · have s8 : a'.tmps[8]? = some (.pointer (some ⟨Rb, 0, none⟩)) := (hT.out 8 (by decide)).trans t8
      cases ho
      clear hd HT hT hw
      go_simp
      exact hK
    · have s81 : a'.tmps[81]? = some (.pointer (some ⟨Rb, 2, none⟩)) := HT.out (19, 81) (by decide) (by cases ho; exact hd ⟨19, .data⟩ (by simp) rfl)
      cases ho
      clear hd HT hT hw
      go_simp
      exact hK
    · have s10 : a'.tmps[10]? = some (.int .i64 (k : Int)) := (hT.out 10 (by decide)).trans t10
      cases ho
      clear hd HT hT hw
      go_simp
      exact hK
    · have s82 : a'.tmps[82]? = some (.slice (some ⟨g, 0, none⟩) n c) := HT.out (20, 82) (by decide) (by cases ho; exact hd ⟨20, .data⟩ (by simp) rfl)
      have s83 : a'.tmps[83]? = some (.int .i64 (k : Int)) := HT.out (21, 83) (by decide) (by cases ho; exact hd ⟨21, .data⟩ (by simp) rfl)
      cases ho
      clear hd HT hT hw
      go_simp
      exact hK
    · have s84 : a'.tmps[84]? = some (.pointer (some ⟨g, k * 5, none⟩)) := HT.out (22, 84) (by decide) (by cases ho; exact hd ⟨22, .data⟩ (by simp) rfl)
      cases ho
      clear hd HT hT hw
      go_simp
      exact hK
    · have s85 : a'.tmps[85]? = some (.pointer (some ⟨g, k * 5 + 3, none⟩)) := HT.out (23, 85) (by decide) (by cases ho; exact hd ⟨23, .data⟩ (by simp) rfl)
      cases ho
      clear hd HT hT hw
      go_simp
      exact hK
    · have s86 : a'.tmps[86]? = some (.pointer (some ⟨g, k * 5 + 3, none⟩)) := HT.out (24, 86) (by decide) (by cases ho; exact hd ⟨24, .data⟩ (by simp) rfl)
      cases ho
      clear hd HT hT hw
      go_simp
      exact hK
    · have s87 : a'.tmps[87]? = some (.int .i64 how) := HT.out (25, 87) (by decide) (by cases ho; exact hd ⟨25, .data⟩ (by simp) rfl)
      cases ho
      clear hd HT hT hw
      go_simp
      exact hK
    · have s80 : a'.tmps[80]? = some (.bool false) := HT.out (18, 80) (by decide) (by cases ho; exact hd ⟨18, .data⟩ (by simp) rfl)
      have s88 : a'.tmps[88]? = some (.bool false) := HT.out (26, 88) (by decide) (by cases ho; exact hd ⟨26, .data⟩ (by simp) rfl)
      cases ho
      clear hd HT hT hw
      go_simp
      exact hK
    · have s89 : a'.tmps[89]? = some (.bool false) := HT.out (27, 89) (by decide) (by cases ho; exact hd ⟨27, .data⟩ (by simp) rfl)
      cases ho
      clear hd HT hT hw
      go_simp
      exact hK
    · have s8 : a'.tmps[8]? = some (.pointer (some ⟨Rb, 0, none⟩)) := (hT.out 8 (by decide)).trans t8
      cases ho
      clear hd HT hT hw
      go_simp
      exact hK
    · have s91 : a'.tmps[91]? = some (.pointer (some ⟨Rb, 2, none⟩)) := HT.out (29, 91) (by decide) (by cases ho; exact hd ⟨29, .data⟩ (by simp) rfl)
      cases ho
      clear hd HT hT hw
      go_simp
      exact hK
    · have s10 : a'.tmps[10]? = some (.int .i64 (k : Int)) := (hT.out 10 (by decide)).trans t10
      cases ho
      clear hd HT hT hw
      go_simp
      exact hK
    · have s92 : a'.tmps[92]? = some (.slice (some ⟨g, 0, none⟩) n c) := HT.out (30, 92) (by decide) (by cases ho; exact hd ⟨30, .data⟩ (by simp) rfl)
      have s93 : a'.tmps[93]? = some (.int .i64 (k : Int)) := HT.out (31, 93) (by decide) (by cases ho; exact hd ⟨31, .data⟩ (by simp) rfl)
      cases ho
      clear hd HT hT hw
      go_simp
      exact hK
    · have s94 : a'.tmps[94]? = some (.pointer (some ⟨g, k * 5, none⟩)) := HT.out (32, 94) (by decide) (by cases ho; exact hd ⟨32, .data⟩ (by simp) rfl)
      cases ho
      clear hd HT hT hw
      go_simp
      exact hK
    · have s95 : a'.tmps[95]? = some (.pointer (some ⟨g, k * 5 + 3, none⟩)) := HT.out (33, 95) (by decide) (by cases ho; exact hd ⟨33, .data⟩ (by simp) rfl)
      cases ho
      clear hd HT hT hw
      go_simp
      exact hK
    · have s96 : a'.tmps[96]? = some (.pointer (some ⟨g, k * 5 + 3, none⟩)) := HT.out (34, 96) (by decide) (by cases ho; exact hd ⟨34, .data⟩ (by simp) rfl)
      cases ho
      clear hd HT hT hw
      go_simp
      exact hK
    · have s97 : a'.tmps[97]? = some (.int .i64 how) := HT.out (35, 97) (by decide) (by cases ho; exact hd ⟨35, .data⟩ (by simp) rfl)
      cases ho
      clear hd HT hT hw
      go_simp
      exact hK
    · have s90 : a'.tmps[90]? = some (.bool false) := HT.out (28, 90) (by decide) (by cases ho; exact hd ⟨28, .data⟩ (by simp) rfl)
      have s98 : a'.tmps[98]? = some (.bool false) := HT.out (36, 98) (by decide) (by cases ho; exact hd ⟨36, .data⟩ (by simp) rfl)
      cases ho
      clear hd HT hT hw
      go_simp
      exact hK
    · have s99 : a'.tmps[99]? = some (.bool false) := HT.out (37, 99) (by decide) (by cases ho; exact hd ⟨37, .data⟩ (by simp) rfl)
      cases ho
      clear hd HT hT hw
      go_simp
      exact hK
    · have s8 : a'.tmps[8]? = some (.pointer (some ⟨Rb, 0, none⟩)) := (hT.out 8 (by decide)).trans t8
      cases ho
      clear hd HT hT hw
      go_simp
      exact hK
    · have s101 : a'.tmps[101]? = some (.pointer (some ⟨Rb, 2, none⟩)) := HT.out (39, 101) (by decide) (by cases ho; exact hd ⟨39, .data⟩ (by simp) rfl)
      cases ho
      clear hd HT hT hw
      go_simp
      exact hK
    · have s10 : a'.tmps[10]? = some (.int .i64 (k : Int)) := (hT.out 10 (by decide)).trans t10
      cases ho
      clear hd HT hT hw
      go_simp
      exact hK
    · have s102 : a'.tmps[102]? = some (.slice (some ⟨g, 0, none⟩) n c) := HT.out (40, 102) (by decide) (by cases ho; exact hd ⟨40, .data⟩ (by simp) rfl)
      have s103 : a'.tmps[103]? = some (.int .i64 (k : Int)) := HT.out (41, 103) (by decide) (by cases ho; exact hd ⟨41, .data⟩ (by simp) rfl)
      cases ho
      clear hd HT hT hw
      go_simp
      exact hK
    · have s104 : a'.tmps[104]? = some (.pointer (some ⟨g, k * 5, none⟩)) := HT.out (42, 104) (by decide) (by cases ho; exact hd ⟨42, .data⟩ (by simp) rfl)
      cases ho
      clear hd HT hT hw
      go_simp
      exact hK
    · have s105 : a'.tmps[105]? = some (.pointer (some ⟨g, k * 5 + 3, none⟩)) := HT.out (43, 105) (by decide) (by cases ho; exact hd ⟨43, .data⟩ (by simp) rfl)
      cases ho
      clear hd HT hT hw
      go_simp
      exact hK
    · have s106 : a'.tmps[106]? = some (.pointer (some ⟨g, k * 5 + 3, none⟩)) := HT.out (44, 106) (by decide) (by cases ho; exact hd ⟨44, .data⟩ (by simp) rfl)
      cases ho
      clear hd HT hT hw
      go_simp
      exact hK
    · have s107 : a'.tmps[107]? = some (.int .i64 how) := HT.out (45, 107) (by decide) (by cases ho; exact hd ⟨45, .data⟩ (by simp) rfl)
      cases ho
      clear hd HT hT hw
      go_simp
      exact hK
    · have s108 : a'.tmps[108]? = some (.bool true) := HT.out (46, 108) (by decide) (by cases ho; exact hd ⟨46, .data⟩ (by simp) rfl)
      cases ho
      clear hd HT hT hw
      go_simp
      exact hK
    · have s8 : a'.tmps[8]? = some (.pointer (some ⟨Rb, 0, none⟩)) := (hT.out 8 (by decide)).trans t8
      cases ho
      clear hd HT hT hw
      go_simp
      exact hK
    · have s110 : a'.tmps[110]? = some (.pointer (some ⟨Rb, 2, none⟩)) := HT.out (48, 110) (by decide) (by cases ho; exact hd ⟨48, .data⟩ (by simp) rfl)
      cases ho
      clear hd HT hT hw
      go_simp
      exact hK
    · have s10 : a'.tmps[10]? = some (.int .i64 (k : Int)) := (hT.out 10 (by decide)).trans t10
      cases ho
      clear hd HT hT hw
      go_simp
      exact hK
    · have s111 : a'.tmps[111]? = some (.slice (some ⟨g, 0, none⟩) n c) := HT.out (49, 111) (by decide) (by cases ho; exact hd ⟨49, .data⟩ (by simp) rfl)
      have s112 : a'.tmps[112]? = some (.int .i64 (k : Int)) := HT.out (50, 112) (by decide) (by cases ho; exact hd ⟨50, .data⟩ (by simp) rfl)
      cases ho
      clear hd HT hT hw
      go_simp
      exact hK
    · have s113 : a'.tmps[113]? = some (.pointer (some ⟨g, k * 5, none⟩)) := HT.out (51, 113) (by decide) (by cases ho; exact hd ⟨51, .data⟩ (by simp) rfl)
      cases ho
      clear hd HT hT hw
      go_simp
      exact hK
    · have s114 : a'.tmps[114]? = some (.pointer (some ⟨g, k * 5 + 3, none⟩)) := HT.out (52, 114) (by decide) (by cases ho; exact hd ⟨52, .data⟩ (by simp) rfl)
      cases ho
      clear hd HT hT hw
      go_simp
      exact hK
    · have s115 : a'.tmps[115]? = some (.pointer (some ⟨g, k * 5 + 4, none⟩)) := HT.out (53, 115) (by decide) (by cases ho; exact hd ⟨53, .data⟩ (by simp) rfl)
      cases ho
      clear hd HT hT hw
      go_simp
      exact hK
    · have s116 : a'.tmps[116]? = some (.int .i64 0) := HT.out (54, 116) (by decide) (by cases ho; exact hd ⟨54, .data⟩ (by simp) rfl)
      cases ho
      clear hd HT hT hw
      go_simp
      exact hK
    · have s109 : a'.tmps[109]? = some (.bool true) := HT.out (47, 109) (by decide) (by cases ho; exact hd ⟨47, .data⟩ (by simp) rfl)
      have s117 : a'.tmps[117]? = some (.bool false) := HT.out (55, 117) (by decide) (by cases ho; exact hd ⟨55, .data⟩ (by simp) rfl)
      cases ho
      clear hd HT hT hw
      go_simp
      exact hK
    · have s100 : a'.tmps[100]? = some (.bool false) := HT.out (38, 100) (by decide) (by cases ho; exact hd ⟨38, .data⟩ (by simp) rfl)
      have s118 : a'.tmps[118]? = some (.bool false) := HT.out (56, 118) (by decide) (by cases ho; exact hd ⟨56, .data⟩ (by simp) rfl)
      cases ho
      clear hd HT hT hw
      go_simp
      exact hK
end Go.Proofs.Ytonndofbnhnkpaa.Evl
