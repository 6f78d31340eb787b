/- The law of what ran: the last look. The law of what ran: the pieces of its loops. The law of what ran: the pieces of its end. The law of what ran: the pieces of its beginning. The law of what ran: its inner loop. The law of what ran: its loop. The law of what ran: plain Lean. The law of what ran: the whole body. -/
import Derived.Test.YtonndofbnhnkpaaRuA
import Derived.Test.YtonndofbnhnkpaaSmR
import Derived.Test.YtonndofbnhnkpaaEvG
import Derived.Test.YtonndofbnhnkpaaPrgP
set_option linter.unusedVariables false
set_option linter.unusedSimpArgs false
set_option linter.unusedSectionVars false
namespace Go.Proofs.Ytonndofbnhnkpaa.Evl
open Go.RowKit Num KeyM KeyW StatW Blk VmA VmG Prg EvM Rf PutA CodA
def idxru20 : List (Nat × Nat) := [(0, 159), (1, 160), (2, 161), (3, 162), (4, 163), (5, 164), (6, 165), (7, 166), (8, 167), (9, 168), (10, 169), (11, 170), (12, 171), (13, 172), (14, 173), (15, 174), (16, 175), (17, 176), (18, 177), (19, 178), (20, 179), (21, 180), (22, 181), (23, 182), (24, 183), (25, 184), (26, 185), (27, 186), (28, 187)]
def Vru20 (Rb g n c : Nat) (how val steps forks : Int) : Nat → Value := fun sl => match sl with
  | 159 => .pointer (some ⟨Rb, 5, none⟩)
  | 160 => .int .i64 steps
  | 161 => .bool false
  | 162 => .bool false
  | 163 => .pointer (some ⟨Rb, 2, none⟩)
  | 164 => .slice (some ⟨g, 0, none⟩) n c
  | 165 => .int .i64 (n : Int)
  | 166 => .bool false
  | 167 => .bool false
  | 168 => .bool false
  | 169 => .pointer (some ⟨Rb, 2, none⟩)
  | 170 => .slice (some ⟨g, 0, none⟩) n c
  | 171 => .int .i64 (n : Int)
  | 172 => .pointer (some ⟨Rb, 6, none⟩)
  | 173 => .int .i64 forks
  | 174 => .int .i64 (forks + 1)
  | 175 => .bool false
  | 176 => .bool false
  | 177 => .bool false
  | 178 => .pointer (some ⟨Rb, 2, none⟩)
  | 179 => .slice (some ⟨g, 0, none⟩) n c
  | 180 => .pointer (some ⟨g, 0, none⟩)
  | 181 => .pointer (some ⟨g, 3, none⟩)
  | 182 => .agg #[.int .i64 how, .int .i64 val]
  | 183 => .pointer (some ⟨Rb, 0, none⟩)
  | 184 => .agg #[.int .i64 how, .int .i64 val]
  | 185 => .bool true
  | 186 => .bool false
  | 187 => .bool false
  | _ => undef
set_option maxRecDepth 100000 in
set_option maxHeartbeats 8000000 in
theorem ru20 (arg less : Int) (Zb Rb g n c : Nat) (how val steps forks : Int) (f : Nat → Value) (w : World) (a : Act) (Q : Exit → Act → World → Prop) (ha : RuA a arg less Zb Rb) (hr : w.rowIs Rb 81 8 f) (f0 : f 0 = .int .i64 how) (f1 : f 1 = .int .i64 val) (f2 : f 2 = .slice (some ⟨g, 0, none⟩) n c) (f5 : f 5 = .int .i64 steps) (f6 : f 6 = .int .i64 forks)
    (ch : w.cell? ⟨g, 3, none⟩ = some (.int .i64 how)) (cv : w.cell? ⟨g, 4, none⟩ = some (.int .i64 val)) (hs : 0 < steps) (hn : 0 < n) (hf : (n : Int) = forks + 1) (hf0 : 0 ≤ forks) (hn1 : n ≤ 100000)
    (hQ : ∀ (a' : Act) (w' : World), RuA a' arg less Zb Rb → a'.tmps[187]? = some (.bool false) → Bl w w' → Q .normal a' w') : (nth 0 (nth 6 (bodyOf Try.f14))).wp Try.prog Q a w := by
  simp only [nth, bodyOf, Try.f14, Option.getD]
  obtain ⟨hsz, hdf, t1, t2, t7, t8⟩ := ha
  refine Tab.region_tab2 (by kernel_rfl) idxru20 [(3, 162, false), (9, 168, false), (18, 177, false)] 240 (Vru20 Rb g n c how val steps forks) (fun _ w' => Bl w w') (by kernel_rfl) hsz (by kernel_rfl) (by intro q hq; simp at hq; rcases hq with rfl | rfl | rfl <;> exact ⟨by decide, rfl⟩) (Bl.drew (Bl.refl _)) ?_ ?_
  · intro L a' w' hT hsz' hd hb
    exact hQ a' w' ⟨hT.sz.trans hsz, hT.dfs.trans hdf, (hT.out 1 (by decide)).trans t1, (hT.out 2 (by decide)).trans t2, (hT.out 7 (by decide)).trans t7, (hT.out 8 (by decide)).trans t8⟩ (hT.tab (28, 187) (by decide) (hd 28 (by decide))) hb
  · intro i' o L a' w8 K' Q' hT hsz' hb8 hL ho hd hK
    have hi' : i' < 29 := (Array.getElem?_eq_some_iff.1 ho).1
    have HT : Hid (∀ q ∈ idxru20, L[q.1]? = some true → a'.tmps[q.2]? = some (Vru20 Rb g n c how val steps forks q.2)) := hT.tab
    have hr8 := row_bl hr hb8
    have hc8 : Ch (fun _ => False) w w8 := Ch.of_bl hb8
    have c0 : w8.cell? ⟨Rb, 0, none⟩ = some (.int .i64 how) := (hr8.cell (i := 0) (by omega)).trans (congrArg some f0)
    have c1 : w8.cell? ⟨Rb, 1, none⟩ = some (.int .i64 val) := (hr8.cell (i := 1) (by omega)).trans (congrArg some f1)
    have c2 : w8.cell? ⟨Rb, 2, none⟩ = some (.slice (some ⟨g, 0, none⟩) n c) := (hr8.cell (i := 2) (by omega)).trans (congrArg some f2)
    have c5 : w8.cell? ⟨Rb, 5, none⟩ = some (.int .i64 steps) := (hr8.cell (i := 5) (by omega)).trans (congrArg some f5)
    have c6 : w8.cell? ⟨Rb, 6, none⟩ = some (.int .i64 forks) := (hr8.cell (i := 6) (by omega)).trans (congrArg some f6)
    have c3 : w8.cell? ⟨g, 3, none⟩ = some (.int .i64 how) := hc8.cell ch id
    have c4 : w8.cell? ⟨g, 4, none⟩ = some (.int .i64 val) := hc8.cell cv id
    have l1 := hr8.lt
    have l2 : g < w8.heap.size := lt_of_cell c3
    have b1 : ¬ steps ≤ 0 := by omega
    have b2 : ((n : Int) == 0) = false := by simp; omega
    have b3 : ((n : Int) != forks + 1) = false := by simp [hf]
    have b4 : (0 : Int) < n := by omega
    have b5 : forks ≤ 100000 := by omega
    have hwr : IntKind.i64.wrap (forks + 1) = forks + 1 := by rw [IntKind.wrap_i64]; omega
    have HB8 := Lib.hid hb8
    clear hQ hr f0 f1 f2 f5 f6 ch cv hs hf hr8 hc8 hb8
    obtain rfl | rfl | rfl | rfl | rfl | rfl | rfl | rfl | rfl | rfl | rfl | rfl | rfl | rfl | rfl | rfl | rfl | rfl | rfl | rfl | rfl | rfl | rfl | rfl | rfl | rfl | rfl | rfl | rfl : i' = 0 ∨ i' = 1 ∨ i' = 2 ∨ i' = 3 ∨ i' = 4 ∨ i' = 5 ∨ i' = 6 ∨ i' = 7 ∨ i' = 8 ∨ i' = 9 ∨ i' = 10 ∨ i' = 11 ∨ i' = 12 ∨ i' = 13 ∨ i' = 14 ∨ i' = 15 ∨ i' = 16 ∨ i' = 17 ∨ i' = 18 ∨ i' = 19 ∨ i' = 20 ∨ i' = 21 ∨ i' = 22 ∨ i' = 23 ∨ i' = 24 ∨ i' = 25 ∨ i' = 26 ∨ i' = 27 ∨ i' = 28 := by omega
    · have s8 : a'.tmps[8]? = some (.pointer (some ⟨Rb, 0, none⟩)) := (hT.out 8 (by decide)).trans t8
      cases ho
      clear hd HT hT
      go_simp
      exact hK _ HB8.out
    · have s159 : a'.tmps[159]? = some (.pointer (some ⟨Rb, 5, none⟩)) := HT.out (0, 159) (by decide) (by cases ho; exact hd ⟨0, .data⟩ (by simp) rfl)
      cases ho
      clear hd HT hT
      go_simp
      exact hK _ HB8.out
    · have s160 : a'.tmps[160]? = some (.int .i64 steps) := HT.out (1, 160) (by decide) (by cases ho; exact hd ⟨1, .data⟩ (by simp) rfl)
      cases ho
      clear hd HT hT
      go_simp
      exact hK _ HB8.out
    · have s161 : a'.tmps[161]? = some (.bool false) := HT.out (2, 161) (by decide) (by cases ho; exact hd ⟨2, .data⟩ (by simp) rfl)
      cases ho
      clear hd HT hT
      go_simp
      exact hK _ HB8.out
    · have s8 : a'.tmps[8]? = some (.pointer (some ⟨Rb, 0, none⟩)) := (hT.out 8 (by decide)).trans t8
      cases ho
      clear hd HT hT
      go_simp
      exact hK _ HB8.out
    · have s163 : a'.tmps[163]? = some (.pointer (some ⟨Rb, 2, none⟩)) := HT.out (4, 163) (by decide) (by cases ho; exact hd ⟨4, .data⟩ (by simp) rfl)
      cases ho
      clear hd HT hT
      go_simp
      exact hK _ HB8.out
    · have s164 : a'.tmps[164]? = some (.slice (some ⟨g, 0, none⟩) n c) := HT.out (5, 164) (by decide) (by cases ho; exact hd ⟨5, .data⟩ (by simp) rfl)
      cases ho
      clear hd HT hT
      go_simp
      exact hK _ HB8.out
    · have s165 : a'.tmps[165]? = some (.int .i64 (n : Int)) := HT.out (6, 165) (by decide) (by cases ho; exact hd ⟨6, .data⟩ (by simp) rfl)
      cases ho
      clear hd HT hT
      go_simp
      exact hK _ HB8.out
    · have s162 : a'.tmps[162]? = some (.bool false) := HT.out (3, 162) (by decide) (by cases ho; exact hd ⟨3, .data⟩ (by simp) rfl)
      have s166 : a'.tmps[166]? = some (.bool false) := HT.out (7, 166) (by decide) (by cases ho; exact hd ⟨7, .data⟩ (by simp) rfl)
      cases ho
      clear hd HT hT
      go_simp
      exact hK _ HB8.out
    · have s167 : a'.tmps[167]? = some (.bool false) := HT.out (8, 167) (by decide) (by cases ho; exact hd ⟨8, .data⟩ (by simp) rfl)
      cases ho
      clear hd HT hT
      go_simp
      exact hK _ HB8.out
    · have s8 : a'.tmps[8]? = some (.pointer (some ⟨Rb, 0, none⟩)) := (hT.out 8 (by decide)).trans t8
      cases ho
      clear hd HT hT
      go_simp
      exact hK _ HB8.out
    · have s169 : a'.tmps[169]? = some (.pointer (some ⟨Rb, 2, none⟩)) := HT.out (10, 169) (by decide) (by cases ho; exact hd ⟨10, .data⟩ (by simp) rfl)
      cases ho
      clear hd HT hT
      go_simp
      exact hK _ HB8.out
    · have s170 : a'.tmps[170]? = some (.slice (some ⟨g, 0, none⟩) n c) := HT.out (11, 170) (by decide) (by cases ho; exact hd ⟨11, .data⟩ (by simp) rfl)
      cases ho
      clear hd HT hT
      go_simp
      exact hK _ HB8.out
    · have s8 : a'.tmps[8]? = some (.pointer (some ⟨Rb, 0, none⟩)) := (hT.out 8 (by decide)).trans t8
      cases ho
      clear hd HT hT
      go_simp
      exact hK _ HB8.out
    · have s172 : a'.tmps[172]? = some (.pointer (some ⟨Rb, 6, none⟩)) := HT.out (13, 172) (by decide) (by cases ho; exact hd ⟨13, .data⟩ (by simp) rfl)
      cases ho
      clear hd HT hT
      go_simp
      exact hK _ HB8.out
    · have s173 : a'.tmps[173]? = some (.int .i64 forks) := HT.out (14, 173) (by decide) (by cases ho; exact hd ⟨14, .data⟩ (by simp) rfl)
      cases ho
      clear hd HT hT
      go_simp
      exact hK _ HB8.out
    · have s171 : a'.tmps[171]? = some (.int .i64 (n : Int)) := HT.out (12, 171) (by decide) (by cases ho; exact hd ⟨12, .data⟩ (by simp) rfl)
      have s174 : a'.tmps[174]? = some (.int .i64 (forks + 1)) := HT.out (15, 174) (by decide) (by cases ho; exact hd ⟨15, .data⟩ (by simp) rfl)
      cases ho
      clear hd HT hT
      go_simp
      exact hK _ HB8.out
    · have s168 : a'.tmps[168]? = some (.bool false) := HT.out (9, 168) (by decide) (by cases ho; exact hd ⟨9, .data⟩ (by simp) rfl)
      have s175 : a'.tmps[175]? = some (.bool false) := HT.out (16, 175) (by decide) (by cases ho; exact hd ⟨16, .data⟩ (by simp) rfl)
      cases ho
      clear hd HT hT
      go_simp
      exact hK _ HB8.out
    · have s176 : a'.tmps[176]? = some (.bool false) := HT.out (17, 176) (by decide) (by cases ho; exact hd ⟨17, .data⟩ (by simp) rfl)
      cases ho
      clear hd HT hT
      go_simp
      exact hK _ HB8.out
    · have s8 : a'.tmps[8]? = some (.pointer (some ⟨Rb, 0, none⟩)) := (hT.out 8 (by decide)).trans t8
      cases ho
      clear hd HT hT
      go_simp
      exact hK _ HB8.out
    · have s178 : a'.tmps[178]? = some (.pointer (some ⟨Rb, 2, none⟩)) := HT.out (19, 178) (by decide) (by cases ho; exact hd ⟨19, .data⟩ (by simp) rfl)
      cases ho
      clear hd HT hT
      go_simp
      exact hK _ HB8.out
    · have s179 : a'.tmps[179]? = some (.slice (some ⟨g, 0, none⟩) n c) := HT.out (20, 179) (by decide) (by cases ho; exact hd ⟨20, .data⟩ (by simp) rfl)
      cases ho
      clear hd HT hT
      go_simp
      exact hK _ HB8.out
    · have s180 : a'.tmps[180]? = some (.pointer (some ⟨g, 0, none⟩)) := HT.out (21, 180) (by decide) (by cases ho; exact hd ⟨21, .data⟩ (by simp) rfl)
      cases ho
      clear hd HT hT
      go_simp
      exact hK _ HB8.out
    · have s181 : a'.tmps[181]? = some (.pointer (some ⟨g, 3, none⟩)) := HT.out (22, 181) (by decide) (by cases ho; exact hd ⟨22, .data⟩ (by simp) rfl)
      cases ho
      clear hd HT hT
      go_simp
      exact hK _ HB8.out
    · have s8 : a'.tmps[8]? = some (.pointer (some ⟨Rb, 0, none⟩)) := (hT.out 8 (by decide)).trans t8
      cases ho
      clear hd HT hT
      go_simp
      exact hK _ HB8.out
    · have s183 : a'.tmps[183]? = some (.pointer (some ⟨Rb, 0, none⟩)) := HT.out (24, 183) (by decide) (by cases ho; exact hd ⟨24, .data⟩ (by simp) rfl)
      cases ho
      clear hd HT hT
      go_simp
      exact hK _ HB8.out
    · have s182 : a'.tmps[182]? = some (.agg #[.int .i64 how, .int .i64 val]) := HT.out (23, 182) (by decide) (by cases ho; exact hd ⟨23, .data⟩ (by simp) rfl)
      have s184 : a'.tmps[184]? = some (.agg #[.int .i64 how, .int .i64 val]) := HT.out (25, 184) (by decide) (by cases ho; exact hd ⟨25, .data⟩ (by simp) rfl)
      cases ho
      clear hd HT hT
      go_simp
      go_at_call 39
      refine (SmR.same_end _ _ _).mono ?_
      rintro e w9 ⟨rfl, hb9⟩
      go_simp
      exact hK _ (Bl.trans HB8.out hb9)
    · have s185 : a'.tmps[185]? = some (.bool true) := HT.out (26, 185) (by decide) (by cases ho; exact hd ⟨26, .data⟩ (by simp) rfl)
      cases ho
      clear hd HT hT
      go_simp
      exact hK _ HB8.out
    · have s177 : a'.tmps[177]? = some (.bool false) := HT.out (18, 177) (by decide) (by cases ho; exact hd ⟨18, .data⟩ (by simp) rfl)
      have s186 : a'.tmps[186]? = some (.bool false) := HT.out (27, 186) (by decide) (by cases ho; exact hd ⟨27, .data⟩ (by simp) rfl)
      cases ho
      clear hd HT hT
      go_simp
      exact hK _ HB8.out
end Go.Proofs.Ytonndofbnhnkpaa.Evl
set_option linter.unusedVariables false
set_option linter.unusedSimpArgs false
set_option linter.unusedSectionVars false
namespace Go.Proofs.Ytonndofbnhnkpaa.Evl
open Go.RowKit Num KeyM KeyW StatW Blk VmA VmG Prg EvM Rf PutA CodA
/-- The frame within the loop. -/
structure RuC (a : Act) (arg less : Int) (Zb Rb : Nat) (i : Int) : Prop extends RuA a arg less Zb Rb where
  t10 : a.tmps[10]? = some (.int .i64 i)
structure RuD (a : Act) (arg less : Int) (Zb Rb : Nat) (i up : Int) (ok th : Bool) : Prop extends RuC a arg less Zb Rb i where
  t11 : a.tmps[11]? = some (.int .i64 up)
  t13 : a.tmps[13]? = some (.bool ok)
  t14 : a.tmps[14]? = some (.bool th)
def ruB (f : Func) : Code := inK (nth 1 (ruL f))
def ruK (f : Func) : Code := inK (nth 1 (nth 3 (ruB f)))
section
variable (arg less : Int) (Zb Rb : Nat) (w : World) (a : Act) (Q : Exit → Act → World → Prop)
set_option maxRecDepth 100000 in
set_option maxHeartbeats 8000000 in
theorem ru_r7 (ha : RuA a arg less Zb Rb) (hQ : ∀ a' : Act, RuC a' arg less Zb Rb 0 → Q .normal a' w) : (nth 0 (nth 5 (bodyOf Try.f14))).wp Try.prog Q a w := by
  simp only [nth, bodyOf, Try.f14, Option.getD]
  obtain ⟨hsz, hdf, t1, t2, t7, t8⟩ := ha
  have HQ := Lib.hid hQ
  clear hQ
  go_wp2_with fail
  exact HQ.out _ ⟨⟨by simp [hsz], by first | rfl | exact hdf, by simp [Array.getElem?_setIfInBounds, t1], by simp [Array.getElem?_setIfInBounds, t2], by simp [Array.getElem?_setIfInBounds, t7], by simp [Array.getElem?_setIfInBounds, t8]⟩, by simp [Array.getElem?_setIfInBounds, hsz]⟩
set_option maxRecDepth 100000 in
set_option maxHeartbeats 8000000 in
theorem ru_r8 (g n c : Nat) (i : Int) (ha : RuC a arg less Zb Rb i) (cR : w.cell? ⟨Rb, 2, none⟩ = some (.slice (some ⟨g, 0, none⟩) n c)) (hQ : ∀ a' : Act, RuC a' arg less Zb Rb i → a'.tmps[59]? = some (.bool (decide (i < (n : Int)))) → Q .normal a' w) : (nth 0 (nth 0 (ruL Try.f14))).wp Try.prog Q a w := by
  simp only [nth, bodyOf, Try.f14, Option.getD, ruL, inK]
  obtain ⟨⟨hsz, hdf, t1, t2, t7, t8⟩, t10⟩ := ha
  obtain ⟨_, t8'⟩ := get_of t8
  obtain ⟨_, t10'⟩ := get_of t10
  have lR := lt_of_cell cR
  simp only at lR
  have HQ := Lib.hid hQ
  clear hQ
  go_wp2_with fail
  exact HQ.out _ ⟨⟨by simp [hsz], by first | rfl | exact hdf, by simp [Array.getElem?_setIfInBounds, t1], by simp [Array.getElem?_setIfInBounds, t2], by simp [Array.getElem?_setIfInBounds, t7], by simp [Array.getElem?_setIfInBounds, t8]⟩, by simp [Array.getElem?_setIfInBounds, t10]⟩ (by simp [Array.getElem?_setIfInBounds, hsz])
theorem ru_c8 (h : a.tmps[59]? = some (.bool true)) (hQ : Q .normal a w) : (nth 1 (nth 0 (ruL Try.f14))).wp Try.prog Q a w := by
  simp only [nth, bodyOf, Try.f14, Option.getD, ruL, inK]
  refine wp_cond (t := true) (by show a.tmps.getD 59 undef = _; rw [Array.getD_eq_getD_getElem?, h]; rfl) ?_
  simp only [if_true]
  go_wp2_with fail
  exact hQ
theorem ru_c8n (h : a.tmps[59]? = some (.bool false)) (hQ : Q (.exit 0) a w) : (nth 1 (nth 0 (ruL Try.f14))).wp Try.prog Q a w := by
  simp only [nth, bodyOf, Try.f14, Option.getD, ruL, inK]
  refine wp_cond_false (by show a.tmps.getD 59 undef = _; rw [Array.getD_eq_getD_getElem?, h]; rfl) ?_
  go_wp2_with fail
  exact hQ
theorem ru_c10 (h : a.tmps[119]? = some (.bool false)) (hQ : Q .normal a w) : (nth 1 (nth 0 (ruB Try.f14))).wp Try.prog Q a w := by
  simp only [nth, bodyOf, Try.f14, Option.getD, ruL, ruB, inK]
  refine wp_cond_false (by show a.tmps.getD 119 undef = _; rw [Array.getD_eq_getD_getElem?, h]; rfl) ?_
  go_wp2_with fail
  exact hQ
set_option maxRecDepth 100000 in
set_option maxHeartbeats 8000000 in
theorem ru_r12 (g n c k : Nat) (key up m : Int) (ok : Bool) (ha : RuC a arg less Zb Rb k) (cR : w.cell? ⟨Rb, 2, none⟩ = some (.slice (some ⟨g, 0, none⟩) n c)) (hk : k < n) (ck : w.cell? ⟨g, k * 5, none⟩ = some (.int .i64 key))
    (hC : Calls Try.prog 45 #[.int .i64 key] w fun e w' => e = .returned (.tuple #[.int .i64 up, .int .i64 m, .bool ok]) ∧ w = w')
    (hQ : ∀ a' : Act, RuC a' arg less Zb Rb k → a'.tmps[11]? = some (.int .i64 up) → a'.tmps[13]? = some (.bool ok) → Q .normal a' w) : (nth 1 (ruB Try.f14)).wp Try.prog Q a w := by
  simp only [nth, bodyOf, Try.f14, Option.getD, ruL, ruB, inK]
  obtain ⟨⟨hsz, hdf, t1, t2, t7, t8⟩, t10⟩ := ha
  obtain ⟨_, t8'⟩ := get_of t8
  obtain ⟨_, t10'⟩ := get_of t10
  have lR := lt_of_cell cR
  have lg := lt_of_cell ck
  simp only at lR lg
  have b1 : (k : Int) < n := by omega
  have b2 : (0 : Int) ≤ k := by omega
  have HQ := Lib.hid hQ
  have HC := Lib.hid hC
  clear hQ hC
  go_wp2_with fail
  refine HC.out.mono ?_
  rintro e w1 ⟨rfl, rfl⟩
  go_wp2_with fail
  exact HQ.out _ ⟨⟨by simp [hsz], by first | rfl | exact hdf, by simp [Array.getElem?_setIfInBounds, t1], by simp [Array.getElem?_setIfInBounds, t2], by simp [Array.getElem?_setIfInBounds, t7], by simp [Array.getElem?_setIfInBounds, t8]⟩, by simp [Array.getElem?_setIfInBounds, t10]⟩ (by simp [Array.getElem?_setIfInBounds, hsz]) (by simp [Array.getElem?_setIfInBounds, hsz])
set_option maxRecDepth 100000 in
set_option maxHeartbeats 8000000 in
theorem ru_r13 (g n c k : Nat) (key up : Int) (ok : Bool) (ha : RuC a arg less Zb Rb k) (t11 : a.tmps[11]? = some (.int .i64 up)) (t13 : a.tmps[13]? = some (.bool ok)) (cR : w.cell? ⟨Rb, 2, none⟩ = some (.slice (some ⟨g, 0, none⟩) n c)) (hk : k < n) (ck : w.cell? ⟨g, k * 5, none⟩ = some (.int .i64 key))
    (hQ : ∀ a' : Act, RuD a' arg less Zb Rb k up ok (key == 1125899906842624) → Q .normal a' w) : (nth 2 (ruB Try.f14)).wp Try.prog Q a w := by
  simp only [nth, bodyOf, Try.f14, Option.getD, ruL, ruB, inK]
  obtain ⟨⟨hsz, hdf, t1, t2, t7, t8⟩, t10⟩ := ha
  obtain ⟨_, t8'⟩ := get_of t8
  obtain ⟨_, t10'⟩ := get_of t10
  have lR := lt_of_cell cR
  have lg := lt_of_cell ck
  simp only at lR lg
  have b1 : (k : Int) < n := by omega
  have b2 : (0 : Int) ≤ k := by omega
  have HQ := Lib.hid hQ
  clear hQ
  go_wp2_with fail
  exact HQ.out _ ⟨⟨⟨by simp [hsz], by first | rfl | exact hdf, by simp [Array.getElem?_setIfInBounds, t1], by simp [Array.getElem?_setIfInBounds, t2], by simp [Array.getElem?_setIfInBounds, t7], by simp [Array.getElem?_setIfInBounds, t8]⟩, by simp [Array.getElem?_setIfInBounds, t10]⟩, by simp [Array.getElem?_setIfInBounds, t11], by simp [Array.getElem?_setIfInBounds, t13], by simp [Array.getElem?_setIfInBounds, hsz]⟩
end
structure RuE (a : Act) (arg less : Int) (Zb Rb : Nat) (i up : Int) (ok th : Bool) (q : Int) : Prop extends RuD a arg less Zb Rb i up ok th where
  t15 : a.tmps[15]? = some (.int .i64 q)
section
variable (arg less : Int) (Zb Rb : Nat) (i up : Int) (ok th : Bool) (w : World) (a : Act) (Q : Exit → Act → World → Prop)
set_option maxRecDepth 100000 in
set_option maxHeartbeats 8000000 in
theorem ru_r14 (ha : RuD a arg less Zb Rb i up ok th) (hQ : ∀ a' : Act, RuE a' arg less Zb Rb i up ok th 0 → Q .normal a' w) : (nth 0 (nth 3 (ruB Try.f14))).wp Try.prog Q a w := by
  simp only [nth, bodyOf, Try.f14, Option.getD, ruL, ruB, inK]
  obtain ⟨⟨⟨hsz, hdf, t1, t2, t7, t8⟩, t10⟩, t11, t13, t14⟩ := ha
  have HQ := Lib.hid hQ
  clear hQ
  go_wp2_with fail
  exact HQ.out _ ⟨⟨⟨⟨by simp [hsz], by first | rfl | exact hdf, by simp [Array.getElem?_setIfInBounds, t1], by simp [Array.getElem?_setIfInBounds, t2], by simp [Array.getElem?_setIfInBounds, t7], by simp [Array.getElem?_setIfInBounds, t8]⟩, by simp [Array.getElem?_setIfInBounds, t10]⟩, by simp [Array.getElem?_setIfInBounds, t11], by simp [Array.getElem?_setIfInBounds, t13], by simp [Array.getElem?_setIfInBounds, t14]⟩, by simp [Array.getElem?_setIfInBounds, hsz]⟩
set_option maxRecDepth 100000 in
set_option maxHeartbeats 8000000 in
theorem ru_r15 (q : Int) (ha : RuE a arg less Zb Rb i up ok th q) (hQ : ∀ a' : Act, RuE a' arg less Zb Rb i up ok th q → a'.tmps[140]? = some (.bool (decide (q < i))) → Q .normal a' w) : (nth 0 (nth 0 (ruK Try.f14))).wp Try.prog Q a w := by
  simp only [nth, bodyOf, Try.f14, Option.getD, ruL, ruB, ruK, inK]
  obtain ⟨⟨⟨⟨hsz, hdf, t1, t2, t7, t8⟩, t10⟩, t11, t13, t14⟩, t15⟩ := ha
  obtain ⟨_, t10'⟩ := get_of t10
  obtain ⟨_, t15'⟩ := get_of t15
  have HQ := Lib.hid hQ
  clear hQ
  go_wp2_with fail
  exact HQ.out _ ⟨⟨⟨⟨by simp [hsz], by first | rfl | exact hdf, by simp [Array.getElem?_setIfInBounds, t1], by simp [Array.getElem?_setIfInBounds, t2], by simp [Array.getElem?_setIfInBounds, t7], by simp [Array.getElem?_setIfInBounds, t8]⟩, by simp [Array.getElem?_setIfInBounds, t10]⟩, by simp [Array.getElem?_setIfInBounds, t11], by simp [Array.getElem?_setIfInBounds, t13], by simp [Array.getElem?_setIfInBounds, t14]⟩, by simp [Array.getElem?_setIfInBounds, t15]⟩ (by simp [Array.getElem?_setIfInBounds, hsz])
theorem ru_c15 (h : a.tmps[140]? = some (.bool true)) (hQ : Q .normal a w) : (nth 1 (nth 0 (ruK Try.f14))).wp Try.prog Q a w := by
  simp only [nth, bodyOf, Try.f14, Option.getD, ruL, ruB, ruK, inK]
  refine wp_cond (t := true) (by show a.tmps.getD 140 undef = _; rw [Array.getD_eq_getD_getElem?, h]; rfl) ?_
  simp only [if_true]
  go_wp2_with fail
  exact hQ
theorem ru_c15n (h : a.tmps[140]? = some (.bool false)) (hQ : Q (.exit 2) a w) : (nth 1 (nth 0 (ruK Try.f14))).wp Try.prog Q a w := by
  simp only [nth, bodyOf, Try.f14, Option.getD, ruL, ruB, ruK, inK]
  refine wp_cond_false (by show a.tmps.getD 140 undef = _; rw [Array.getD_eq_getD_getElem?, h]; rfl) ?_
  go_wp2_with fail
  exact hQ
set_option maxRecDepth 100000 in
set_option maxHeartbeats 8000000 in
theorem ru_r17 (g n c q : Nat) (kq : Int) (ha : RuE a arg less Zb Rb i up ok th q) (cR : w.cell? ⟨Rb, 2, none⟩ = some (.slice (some ⟨g, 0, none⟩) n c)) (hq : q < n) (ck : w.cell? ⟨g, q * 5, none⟩ = some (.int .i64 kq)) (hQ : ∀ a' : Act, RuE a' arg less Zb Rb i up ok (th || (ok && (kq == up))) q → Q .normal a' w) : (inK (nth 1 (ruK Try.f14))).wp Try.prog Q a w := by
  simp only [nth, bodyOf, Try.f14, Option.getD, ruL, ruB, ruK, inK]
  obtain ⟨⟨⟨⟨hsz, hdf, t1, t2, t7, t8⟩, t10⟩, t11, t13, t14⟩, t15⟩ := ha
  obtain ⟨_, t8'⟩ := get_of t8
  obtain ⟨_, t11'⟩ := get_of t11
  obtain ⟨_, t13'⟩ := get_of t13
  obtain ⟨_, t14'⟩ := get_of t14
  obtain ⟨_, t15'⟩ := get_of t15
  have lR := lt_of_cell cR
  have lg := lt_of_cell ck
  simp only at lR lg
  have b1 : (q : Int) < n := by omega
  have b2 : (0 : Int) ≤ q := by omega
  have HQ := Lib.hid hQ
  clear hQ
  cases th
  · cases ok
    · go_wp2_with fail
      exact HQ.out _ ⟨⟨⟨⟨by simp [hsz], by first | rfl | exact hdf, by simp [Array.getElem?_setIfInBounds, t1], by simp [Array.getElem?_setIfInBounds, t2], by simp [Array.getElem?_setIfInBounds, t7], by simp [Array.getElem?_setIfInBounds, t8]⟩, by simp [Array.getElem?_setIfInBounds, t10]⟩, by simp [Array.getElem?_setIfInBounds, t11], by simp [Array.getElem?_setIfInBounds, t13], by simp [Array.getElem?_setIfInBounds, hsz]⟩, by simp [Array.getElem?_setIfInBounds, t15]⟩
    · go_wp2_with fail
      exact HQ.out _ ⟨⟨⟨⟨by simp [hsz], by first | rfl | exact hdf, by simp [Array.getElem?_setIfInBounds, t1], by simp [Array.getElem?_setIfInBounds, t2], by simp [Array.getElem?_setIfInBounds, t7], by simp [Array.getElem?_setIfInBounds, t8]⟩, by simp [Array.getElem?_setIfInBounds, t10]⟩, by simp [Array.getElem?_setIfInBounds, t11], by simp [Array.getElem?_setIfInBounds, t13], by simp [Array.getElem?_setIfInBounds, hsz]⟩, by simp [Array.getElem?_setIfInBounds, t15]⟩
  · go_wp2_with fail
    all_goals exact HQ.out _ ⟨⟨⟨⟨by simp [hsz], by first | rfl | exact hdf, by simp [Array.getElem?_setIfInBounds, t1], by simp [Array.getElem?_setIfInBounds, t2], by simp [Array.getElem?_setIfInBounds, t7], by simp [Array.getElem?_setIfInBounds, t8]⟩, by simp [Array.getElem?_setIfInBounds, t10]⟩, by simp [Array.getElem?_setIfInBounds, t11], by simp [Array.getElem?_setIfInBounds, t13], by simp [Array.getElem?_setIfInBounds, hsz]⟩, by simp [Array.getElem?_setIfInBounds, t15]⟩
set_option maxRecDepth 100000 in
set_option maxHeartbeats 8000000 in
theorem ru_r16 (q : Int) (ha : RuE a arg less Zb Rb i up ok th q) (h0 : 0 ≤ q) (h1 : q ≤ 1000000) (hQ : ∀ a' : Act, RuE a' arg less Zb Rb i up ok th (q + 1) → Q .normal a' w) : (nth 2 (ruK Try.f14)).wp Try.prog Q a w := by
  simp only [nth, bodyOf, Try.f14, Option.getD, ruL, ruB, ruK, inK]
  obtain ⟨⟨⟨⟨hsz, hdf, t1, t2, t7, t8⟩, t10⟩, t11, t13, t14⟩, t15⟩ := ha
  obtain ⟨_, t15'⟩ := get_of t15
  have HQ := Lib.hid hQ
  clear hQ
  go_wp2_with fail
  exact HQ.out _ ⟨⟨⟨⟨by simp [hsz], by first | rfl | exact hdf, by simp [Array.getElem?_setIfInBounds, t1], by simp [Array.getElem?_setIfInBounds, t2], by simp [Array.getElem?_setIfInBounds, t7], by simp [Array.getElem?_setIfInBounds, t8]⟩, by simp [Array.getElem?_setIfInBounds, t10]⟩, by simp [Array.getElem?_setIfInBounds, t11], by simp [Array.getElem?_setIfInBounds, t13], by simp [Array.getElem?_setIfInBounds, t14]⟩, by simp [Array.getElem?_setIfInBounds, hsz]⟩
set_option maxRecDepth 100000 in
set_option maxHeartbeats 8000000 in
theorem ru_r18 (ha : RuD a arg less Zb Rb i up ok true) (hQ : ∀ a' : Act, RuC a' arg less Zb Rb i → a'.tmps[158]? = some (.bool false) → Q .normal a' w) : (nth 4 (ruB Try.f14)).wp Try.prog Q a w := by
  simp only [nth, bodyOf, Try.f14, Option.getD, ruL, ruB, inK]
  obtain ⟨⟨⟨hsz, hdf, t1, t2, t7, t8⟩, t10⟩, t11, t13, t14⟩ := ha
  obtain ⟨_, t14'⟩ := get_of t14
  have HQ := Lib.hid hQ
  clear hQ
  go_wp2_with fail
  exact HQ.out _ ⟨⟨by simp [hsz], by first | rfl | exact hdf, by simp [Array.getElem?_setIfInBounds, t1], by simp [Array.getElem?_setIfInBounds, t2], by simp [Array.getElem?_setIfInBounds, t7], by simp [Array.getElem?_setIfInBounds, t8]⟩, by simp [Array.getElem?_setIfInBounds, t10]⟩ (by simp [Array.getElem?_setIfInBounds, hsz])
theorem ru_c18 (h : a.tmps[158]? = some (.bool false)) (hQ : Q .normal a w) : (nth 5 (ruB Try.f14)).wp Try.prog Q a w := by
  simp only [nth, bodyOf, Try.f14, Option.getD, ruL, ruB, inK]
  refine wp_cond_false (by show a.tmps.getD 158 undef = _; rw [Array.getD_eq_getD_getElem?, h]; rfl) ?_
  go_wp2_with fail
  exact hQ
set_option maxRecDepth 100000 in
set_option maxHeartbeats 8000000 in
theorem ru_r9 (ha : RuC a arg less Zb Rb i) (h0 : 0 ≤ i) (h1 : i ≤ 1000000) (hQ : ∀ a' : Act, RuC a' arg less Zb Rb (i + 1) → Q .normal a' w) : (nth 2 (ruL Try.f14)).wp Try.prog Q a w := by
  simp only [nth, bodyOf, Try.f14, Option.getD, ruL, inK]
  obtain ⟨⟨hsz, hdf, t1, t2, t7, t8⟩, t10⟩ := ha
  obtain ⟨_, t10'⟩ := get_of t10
  have HQ := Lib.hid hQ
  clear hQ
  go_wp2_with fail
  exact HQ.out _ ⟨⟨by simp [hsz], by first | rfl | exact hdf, by simp [Array.getElem?_setIfInBounds, t1], by simp [Array.getElem?_setIfInBounds, t2], by simp [Array.getElem?_setIfInBounds, t7], by simp [Array.getElem?_setIfInBounds, t8]⟩, by simp [Array.getElem?_setIfInBounds, hsz]⟩
end
end Go.Proofs.Ytonndofbnhnkpaa.Evl
set_option linter.unusedVariables false
set_option linter.unusedSimpArgs false
set_option linter.unusedSectionVars false
namespace Go.Proofs.Ytonndofbnhnkpaa.Evl
open Go.RowKit Num KeyM KeyW StatW Blk VmA VmG Prg EvM Rf PutA CodA
structure RuF (a : Act) (arg less : Int) (Zb Rb : Nat) (p : Int) : Prop extends RuA a arg less Zb Rb where
  t16 : a.tmps[16]? = some (.int .i64 p)
structure RuG (a : Act) (arg less : Int) (Zb Rb R2 : Nat) : Prop extends RuA a arg less Zb Rb where
  t17 : a.tmps[17]? = some (.pointer (some ⟨R2, 0, none⟩))
  t18 : a.tmps[18]? = some (.int .i64 0)
structure RuH (a : Act) (arg less : Int) (Zb Rb R2 R3 : Nat) : Prop extends RuG a arg less Zb Rb R2 where
  t19 : a.tmps[19]? = some (.pointer (some ⟨R3, 0, none⟩))
  t20 : a.tmps[20]? = some (.int .i64 0)
section
variable (arg less : Int) (Zb Rb : Nat) (w : World) (a : Act) (Q : Exit → Act → World → Prop)
theorem ru_c20 (h : a.tmps[187]? = some (.bool false)) (hQ : Q .normal a w) : (nth 1 (nth 6 (bodyOf Try.f14))).wp Try.prog Q a w := by
  simp only [nth, bodyOf, Try.f14, Option.getD]
  refine wp_cond_false (by show a.tmps.getD 187 undef = _; rw [Array.getD_eq_getD_getElem?, h]; rfl) ?_
  go_wp2_with fail
  exact hQ
set_option maxRecDepth 100000 in
set_option maxHeartbeats 8000000 in
theorem ru_r22 (steps : Int) (ha : RuA a arg less Zb Rb) (c5 : w.cell? ⟨Rb, 5, none⟩ = some (.int .i64 steps)) (h0 : 0 < steps) (h1 : steps ≤ 20000) (hQ : ∀ a' : Act, RuF a' arg less Zb Rb (less % steps) → Q .normal a' w) : (nth 7 (bodyOf Try.f14)).wp Try.prog Q a w := by
  simp only [nth, bodyOf, Try.f14, Option.getD]
  obtain ⟨hsz, hdf, t1, t2, t7, t8⟩ := ha
  obtain ⟨_, t2'⟩ := get_of t2
  obtain ⟨_, t8'⟩ := get_of t8
  have lR := lt_of_cell c5
  simp only at lR
  have HQ := Lib.hid hQ
  clear hQ
  go_wp2_with fail
  refine (Val.place_any less steps w (by omega) (by omega)).mono ?_
  rintro e w1 ⟨rfl, rfl⟩
  go_wp2_with fail
  exact HQ.out _ ⟨⟨by simp [hsz], by first | rfl | exact hdf, by simp [Array.getElem?_setIfInBounds, t1], by simp [Array.getElem?_setIfInBounds, t2], by simp [Array.getElem?_setIfInBounds, t7], by simp [Array.getElem?_setIfInBounds, t8]⟩, by simp [Array.getElem?_setIfInBounds, hsz]⟩
end
section
variable (arg less : Int) (Zb Rb : Nat) (w : World) (a : Act) (Q : Exit → Act → World → Prop) (A : Option Addr) (n c : Nat) (futs depth fuel : Int)
set_option maxRecDepth 100000 in
set_option maxHeartbeats 8000000 in
theorem ru_r23 (p : Int) (ha : RuF a arg less Zb Rb p) (hz : w.rowIs Zb 52 4 (four (.slice A n c) (.int .i64 futs) (.int .i64 depth) (.int .i64 fuel)))
    (hE : Calls Try.prog 42 #[.agg #[.slice A n c, .int .i64 futs, .int .i64 depth, .int .i64 fuel], .int .i64 arg, .int .i64 p] w fun e w' => e = .returned (.tuple #[resAgg 0 0 (.slice none 0 0) (.slice none 0 0) (.slice none 0 0) 0 0 true, .int .i64 0]) ∧ Bl w w')
    (hQ : ∀ (a' : Act) (w' : World) (R2 : Nat), RuG a' arg less Zb Rb R2 → w'.rowIs R2 81 8 (resV 0 0 (.slice none 0 0) (.slice none 0 0) (.slice none 0 0) 0 0 true) → Bl w w' → Q .normal a' w') : (nth 8 (bodyOf Try.f14)).wp Try.prog Q a w := by
  simp only [nth, bodyOf, Try.f14, Option.getD]
  unfold resAgg at hE
  obtain ⟨⟨hsz, hdf, t1, t2, t7, t8⟩, t16⟩ := ha
  obtain ⟨_, t1'⟩ := get_of t1
  obtain ⟨_, t7'⟩ := get_of t7
  obtain ⟨_, t16'⟩ := get_of t16
  obtain ⟨⟨x0, x1, x2, x3⟩, _⟩ := row4_cells hz
  have lZ := hz.lt
  have HQ := Lib.hid hQ
  have HE := Lib.hid hE
  clear hQ hE hz
  go_wp2_with fail
  refine HE.out.mono ?_
  rintro e w2 ⟨rfl, hb⟩
  have HB := Lib.hid hb
  clear hb x0 x1 x2 x3 lZ
  go_wp2_with fail
  refine HQ.out _ _ w2.heap.size ⟨⟨by simp [hsz], by first | rfl | exact hdf, by simp [Array.getElem?_setIfInBounds, t1], by simp [Array.getElem?_setIfInBounds, t2], by simp [Array.getElem?_setIfInBounds, t7], by simp [Array.getElem?_setIfInBounds, t8]⟩, by simp [Array.getElem?_setIfInBounds, hsz], by simp [Array.getElem?_setIfInBounds, hsz]⟩ ?_ (Bl.alloc HB.out _)
  exact World.rowIs_alloc w2 #[.int .i64 0, .int .i64 0, .slice none 0 0, .slice none 0 0, .slice none 0 0, .int .i64 0, .int .i64 0, .bool true] 81 _ (by
    show ∀ i, i < 8 → _
    repeat refine all_lt ?_ rfl
    exact all_none)
set_option maxRecDepth 100000 in
set_option maxHeartbeats 8000000 in
theorem ru_r24 (R2 m : Nat) (how val steps forks : Int) (ha : RuG a arg less Zb Rb R2) (hz : w.rowIs Zb 52 4 (four (.slice A n c) (.int .i64 futs) (.int .i64 depth) (.int .i64 fuel))) (c5 : w.cell? ⟨Rb, 5, none⟩ = some (.int .i64 steps))
    (hE : Calls Try.prog 42 #[.agg #[.slice A n c, .int .i64 futs, .int .i64 depth, .int .i64 fuel], .int .i64 arg, .int .i64 steps] w fun e w' => ∃ (ra fa wa : Option Addr) (rc fn fc wn wc : Nat), e = .returned (.tuple #[resAgg how val (.slice ra m rc) (.slice fa fn fc) (.slice wa wn wc) steps forks false, .int .i64 0]) ∧ Bl w w')
    (hQ : ∀ (a' : Act) (w' : World) (R3 : Nat) (ra fa wa : Option Addr) (rc fn fc wn wc : Nat), RuH a' arg less Zb Rb R2 R3 → w'.rowIs R3 81 8 (resV how val (.slice ra m rc) (.slice fa fn fc) (.slice wa wn wc) steps forks false) → Bl w w' → Q .normal a' w') : (nth 9 (bodyOf Try.f14)).wp Try.prog Q a w := by
  simp only [nth, bodyOf, Try.f14, Option.getD]
  unfold resAgg at hE
  obtain ⟨⟨hsz, hdf, t1, t2, t7, t8⟩, t17, t18⟩ := ha
  obtain ⟨_, t1'⟩ := get_of t1
  obtain ⟨_, t7'⟩ := get_of t7
  obtain ⟨_, t8'⟩ := get_of t8
  obtain ⟨⟨x0, x1, x2, x3⟩, _⟩ := row4_cells hz
  have lZ := hz.lt
  have lR := lt_of_cell c5
  simp only at lR
  have HQ := Lib.hid hQ
  have HE := Lib.hid hE
  clear hQ hE hz
  go_wp2_with fail
  refine HE.out.mono ?_
  rintro e w2 ⟨ra, fa, wa, rc, fn, fc, wn, wc, rfl, hb⟩
  have HB := Lib.hid hb
  clear hb x0 x1 x2 x3 lZ c5 lR
  go_wp2_with fail
  refine HQ.out _ _ w2.heap.size ra fa wa rc fn fc wn wc ⟨⟨⟨by simp [hsz], by first | rfl | exact hdf, by simp [Array.getElem?_setIfInBounds, t1], by simp [Array.getElem?_setIfInBounds, t2], by simp [Array.getElem?_setIfInBounds, t7], by simp [Array.getElem?_setIfInBounds, t8]⟩, by simp [Array.getElem?_setIfInBounds, t17], by simp [Array.getElem?_setIfInBounds, t18]⟩, by simp [Array.getElem?_setIfInBounds, hsz], by simp [Array.getElem?_setIfInBounds, hsz]⟩ ?_ (Bl.alloc HB.out _)
  exact World.rowIs_alloc w2 #[.int .i64 how, .int .i64 val, .slice ra m rc, .slice fa fn fc, .slice wa wn wc, .int .i64 steps, .int .i64 forks, .bool false] 81 _ (by
    show ∀ i, i < 8 → _
    repeat refine all_lt ?_ rfl
    exact all_none)
set_option maxRecDepth 100000 in
set_option maxHeartbeats 8000000 in
theorem ru_r25 (R2 R3 m : Nat) (A2 : Option Addr) (A3 : Option Addr) (k2 k3 : Nat) (ha : RuH a arg less Zb Rb R2 R3) (o2 : w.cell? ⟨R2, 7, none⟩ = some (.bool true)) (s2 : w.cell? ⟨R2, 2, none⟩ = some (.slice none 0 0)) (o3 : w.cell? ⟨R3, 7, none⟩ = some (.bool false)) (s3 : w.cell? ⟨R3, 2, none⟩ = some (.slice A3 m k3)) (s1 : w.cell? ⟨Rb, 2, none⟩ = some (.slice A2 m k2))
    (hQ : ∀ (a' : Act) (w' : World), a'.tmps.size = 240 → a'.defers = [] → a'.tmps[6]? = some (.bool true) → Bl w w' → Q .normal a' w') : (nth 10 (bodyOf Try.f14)).wp Try.prog Q a w := by
  simp only [nth, bodyOf, Try.f14, Option.getD]
  obtain ⟨⟨⟨hsz, hdf, t1, t2, t7, t8⟩, t17, t18⟩, t19, t20⟩ := ha
  obtain ⟨_, t8'⟩ := get_of t8
  obtain ⟨_, t17'⟩ := get_of t17
  obtain ⟨_, t18'⟩ := get_of t18
  obtain ⟨_, t19'⟩ := get_of t19
  obtain ⟨_, t20'⟩ := get_of t20
  have l1 := lt_of_cell s1
  have l2 := lt_of_cell o2
  have l3 := lt_of_cell o3
  simp only at l1 l2 l3
  have HQ := Lib.hid hQ
  clear hQ
  go_wp2_with (first | (go_at_call 44; refine (awake44 _).mono ?_; rintro e w9 ⟨rfl, hb9⟩))
  exact HQ.out _ _ (by simp [hsz]) (by first | rfl | exact hdf) (by simp [Array.getElem?_setIfInBounds, hsz]) hb9
end
end Go.Proofs.Ytonndofbnhnkpaa.Evl
set_option linter.unusedVariables false
set_option linter.unusedSimpArgs false
set_option linter.unusedSectionVars false
namespace Go.Proofs.Ytonndofbnhnkpaa.Evl
open Go.RowKit Num KeyM KeyW StatW Blk VmA VmG Prg EvM Rf PutA CodA
structure RuS (a : Act) (ns : Value) (arg less : Int) : Prop where
  sz : a.tmps.size = 240
  dfs : a.defers = []
  t0 : a.tmps[0]? = some ns
  t1 : a.tmps[1]? = some (.int .i64 arg)
  t2 : a.tmps[2]? = some (.int .i64 less)
structure RuT (a : Act) (arg less : Int) (Zb : Nat) : Prop where
  sz : a.tmps.size = 240
  dfs : a.defers = []
  t1 : a.tmps[1]? = some (.int .i64 arg)
  t2 : a.tmps[2]? = some (.int .i64 less)
  t7 : a.tmps[7]? = some (.pointer (some ⟨Zb, 0, none⟩))
section
variable (arg less : Int) (nsA : Option Addr) (la ca : Nat) (w : World) (a : Act) (Q : Exit → Act → World → Prop)
set_option maxRecDepth 100000 in
set_option maxHeartbeats 8000000 in
theorem ru_r0 (ha : RuS a (.slice nsA la ca) arg less) (hQ : ∀ a' : Act, RuS a' (.slice nsA la ca) arg less → Q .normal a' w) : (nth 0 (bodyOf Try.f14)).wp Try.prog Q a w := by
  simp only [nth, bodyOf, Try.f14, Option.getD]
  obtain ⟨hsz, hdf, t0, t1, t2⟩ := ha
  have HQ := Lib.hid hQ
  clear hQ
  go_wp2_with fail
  exact HQ.out _ ⟨by simp [hsz], by first | rfl | exact hdf, by simp [Array.getElem?_setIfInBounds, t0], by simp [Array.getElem?_setIfInBounds, t1], by simp [Array.getElem?_setIfInBounds, t2]⟩
set_option maxRecDepth 100000 in
set_option maxHeartbeats 8000000 in
theorem ru_r1 (ha : RuS a (.slice nsA la ca) arg less) (hQ : ∀ a' : Act, RuS a' (.slice nsA la ca) arg less → a'.tmps[23]? = some (.bool (decide ((100 : Int) < (la : Int)))) → Q .normal a' w) : (nth 0 (nth 1 (bodyOf Try.f14))).wp Try.prog Q a w := by
  simp only [nth, bodyOf, Try.f14, Option.getD]
  obtain ⟨hsz, hdf, t0, t1, t2⟩ := ha
  obtain ⟨_, t0'⟩ := get_of t0
  have HQ := Lib.hid hQ
  clear hQ
  go_wp2_with fail
  exact HQ.out _ ⟨by simp [hsz], by first | rfl | exact hdf, by simp [Array.getElem?_setIfInBounds, t0], by simp [Array.getElem?_setIfInBounds, t1], by simp [Array.getElem?_setIfInBounds, t2]⟩ (by simp [Array.getElem?_setIfInBounds, hsz])
set_option maxRecDepth 100000 in
set_option maxHeartbeats 8000000 in
theorem ru_c1y (ha : RuS a (.slice nsA la ca) arg less) (h : a.tmps[23]? = some (.bool true)) (hQ : ∀ (a' : Act) (w' : World), a'.tmps.size = 240 → a'.defers = [] → a'.tmps[6]? = some (.bool true) → Bl w w' → Q .ret a' w') : (nth 1 (nth 1 (bodyOf Try.f14))).wp Try.prog Q a w := by
  simp only [nth, bodyOf, Try.f14, Option.getD]
  obtain ⟨hsz, hdf, t0, t1, t2⟩ := ha
  have HQ := Lib.hid hQ
  clear hQ
  refine wp_cond (t := true) (by show a.tmps.getD 23 undef = _; rw [Array.getD_eq_getD_getElem?, h]; rfl) ?_
  simp only [if_true]
  go_wp2_with (first | (go_at_call 44; refine (awake44 _).mono ?_; rintro e w9 ⟨rfl, hb9⟩))
  exact HQ.out _ _ (by simp [hsz]) (by first | rfl | exact hdf) (by simp [Array.getElem?_setIfInBounds, hsz]) hb9
theorem ru_c1 (h : a.tmps[23]? = some (.bool false)) (hQ : Q .normal a w) : (nth 1 (nth 1 (bodyOf Try.f14))).wp Try.prog Q a w := by
  simp only [nth, bodyOf, Try.f14, Option.getD]
  refine wp_cond_false (by show a.tmps.getD 23 undef = _; rw [Array.getD_eq_getD_getElem?, h]; rfl) ?_
  go_wp2_with fail
  exact hQ
set_option maxRecDepth 100000 in
set_option maxHeartbeats 8000000 in
theorem ru_r3 (X : Option Addr → Nat → Nat → Int → Int → Int → World → Prop) (ha : RuS a (.slice nsA la ca) arg less)
    (hP : Calls Try.prog 34 #[.slice nsA la ca, .bool true] w fun e w' => ∃ A n c futs depth fuel, e = .returned (.agg #[.slice A n c, .int .i64 futs, .int .i64 depth, .int .i64 fuel]) ∧ X A n c futs depth fuel w')
    (hQ : ∀ (a' : Act) (w' : World) (A : Option Addr) (n c : Nat) (futs depth fuel : Int), RuT a' arg less w'.heap.size → X A n c futs depth fuel w' → Q .normal a' (w'.alloc (.cells #[.slice A n c, .int .i64 futs, .int .i64 depth, .int .i64 fuel] 52))) : (nth 2 (bodyOf Try.f14)).wp Try.prog Q a w := by
  simp only [nth, bodyOf, Try.f14, Option.getD]
  obtain ⟨hsz, hdf, t0, t1, t2⟩ := ha
  obtain ⟨_, t0'⟩ := get_of t0
  have HQ := Lib.hid hQ
  have HP := Lib.hid hP
  clear hQ hP
  go_wp2_with fail
  refine HP.out.mono ?_
  rintro e w2 ⟨A, n, c, futs, depth, fuel, rfl, hx⟩
  have HX := Lib.hid hx
  clear hx
  go_wp2_with fail
  exact HQ.out _ _ A n c futs depth fuel ⟨by simp [hsz], by first | rfl | exact hdf, by simp [Array.getElem?_setIfInBounds, t1], by simp [Array.getElem?_setIfInBounds, t2], by simp [Array.getElem?_setIfInBounds, hsz]⟩ HX.out
set_option maxRecDepth 100000 in
set_option maxHeartbeats 8000000 in
theorem ru_r4 (Zb : Nat) (A : Option Addr) (n c : Nat) (futs depth fuel how val steps forks : Int) (over : Bool) (X : Option Addr → Nat → Nat → World → Prop) (ha : RuT a arg less Zb) (hz : w.rowIs Zb 52 4 (four (.slice A n c) (.int .i64 futs) (.int .i64 depth) (.int .i64 fuel)))
    (hE : Calls Try.prog 42 #[.agg #[.slice A n c, .int .i64 futs, .int .i64 depth, .int .i64 fuel], .int .i64 arg, .int .i64 1500] w fun e w' => ∃ (ra fa wa : Option Addr) (rn rc fn fc wn wc : Nat), e = .returned (.tuple #[resAgg how val (.slice ra rn rc) (.slice fa fn fc) (.slice wa wn wc) steps forks over, .int .i64 0]) ∧ X ra rn rc w')
    (hQ : ∀ (a' : Act) (w' : World) (ra fa wa : Option Addr) (rn rc fn fc wn wc : Nat), RuA a' arg less Zb w'.heap.size → a'.tmps[9]? = some (.int .i64 0) → X ra rn rc w' → Q .normal a' (w'.alloc (.cells #[.int .i64 how, .int .i64 val, .slice ra rn rc, .slice fa fn fc, .slice wa wn wc, .int .i64 steps, .int .i64 forks, .bool over] 81))) : (nth 3 (bodyOf Try.f14)).wp Try.prog Q a w := by
  simp only [nth, bodyOf, Try.f14, Option.getD]
  unfold resAgg at hE
  obtain ⟨hsz, hdf, t1, t2, t7⟩ := ha
  obtain ⟨_, t1'⟩ := get_of t1
  obtain ⟨_, t7'⟩ := get_of t7
  obtain ⟨⟨x0, x1, x2, x3⟩, _⟩ := row4_cells hz
  have lZ := hz.lt
  have HQ := Lib.hid hQ
  have HE := Lib.hid hE
  clear hQ hE hz
  go_wp2_with fail
  refine HE.out.mono ?_
  rintro e w2 ⟨ra, fa, wa, rn, rc, fn, fc, wn, wc, rfl, hx⟩
  have HX := Lib.hid hx
  clear hx x0 x1 x2 x3 lZ
  go_wp2_with fail
  exact HQ.out _ _ ra fa wa rn rc fn fc wn wc ⟨by simp [hsz], by first | rfl | exact hdf, by simp [Array.getElem?_setIfInBounds, t1], by simp [Array.getElem?_setIfInBounds, t2], by simp [Array.getElem?_setIfInBounds, t7], by simp [Array.getElem?_setIfInBounds, hsz]⟩ (by simp [Array.getElem?_setIfInBounds, hsz]) HX.out
set_option maxRecDepth 100000 in
set_option maxHeartbeats 8000000 in
theorem ru_r5 (Zb Rb : Nat) (over : Bool) (ha : RuA a arg less Zb Rb) (t9 : a.tmps[9]? = some (.int .i64 0)) (c7 : w.cell? ⟨Rb, 7, none⟩ = some (.bool over)) (hQ : ∀ a' : Act, RuA a' arg less Zb Rb → a'.tmps[9]? = some (.int .i64 0) → a'.tmps[38]? = some (.bool over) → Q .normal a' w) : (nth 0 (nth 4 (bodyOf Try.f14))).wp Try.prog Q a w := by
  simp only [nth, bodyOf, Try.f14, Option.getD]
  obtain ⟨hsz, hdf, t1, t2, t7, t8⟩ := ha
  obtain ⟨_, t8'⟩ := get_of t8
  obtain ⟨_, t9'⟩ := get_of t9
  have lR := lt_of_cell c7
  simp only at lR
  have HQ := Lib.hid hQ
  clear hQ
  go_wp2_with fail
  exact HQ.out _ ⟨by simp [hsz], by first | rfl | exact hdf, by simp [Array.getElem?_setIfInBounds, t1], by simp [Array.getElem?_setIfInBounds, t2], by simp [Array.getElem?_setIfInBounds, t7], by simp [Array.getElem?_setIfInBounds, t8]⟩ (by simp [Array.getElem?_setIfInBounds, t9]) (by simp [Array.getElem?_setIfInBounds, hsz])
theorem ru_c5 (h : a.tmps[38]? = some (.bool false)) (hQ : Q .normal a w) : (nth 1 (nth 4 (bodyOf Try.f14))).wp Try.prog Q a w := by
  simp only [nth, bodyOf, Try.f14, Option.getD]
  refine wp_cond_false (by show a.tmps.getD 38 undef = _; rw [Array.getD_eq_getD_getElem?, h]; rfl) ?_
  go_wp2_with fail
  exact hQ
set_option maxRecDepth 100000 in
set_option maxHeartbeats 8000000 in
theorem ru_c5y (Zb Rb : Nat) (ha : RuA a arg less Zb Rb) (t9 : a.tmps[9]? = some (.int .i64 0)) (h : a.tmps[38]? = some (.bool true)) (c2 : w.cell? ⟨Rb, 2, none⟩ = some (.slice none 0 0)) (c5 : w.cell? ⟨Rb, 5, none⟩ = some (.int .i64 0)) (hQ : ∀ (a' : Act) (w' : World), a'.tmps.size = 240 → a'.defers = [] → a'.tmps[6]? = some (.bool true) → Bl w w' → Q .ret a' w') : (nth 1 (nth 4 (bodyOf Try.f14))).wp Try.prog Q a w := by
  simp only [nth, bodyOf, Try.f14, Option.getD]
  obtain ⟨hsz, hdf, t1, t2, t7, t8⟩ := ha
  obtain ⟨_, t8'⟩ := get_of t8
  obtain ⟨_, t9'⟩ := get_of t9
  have lR := lt_of_cell c2
  simp only at lR
  have HQ := Lib.hid hQ
  clear hQ
  refine wp_cond (t := true) (by show a.tmps.getD 38 undef = _; rw [Array.getD_eq_getD_getElem?, h]; rfl) ?_
  simp only [if_true]
  go_wp2_with (first | (go_at_call 44; refine (awake44 _).mono ?_; rintro e w9 ⟨rfl, hb9⟩))
  exact HQ.out _ _ (by simp [hsz]) (by first | rfl | exact hdf) (by simp [Array.getElem?_setIfInBounds, hsz]) hb9
end
end Go.Proofs.Ytonndofbnhnkpaa.Evl
set_option linter.unusedVariables false
set_option linter.unusedSimpArgs false
set_option linter.unusedSectionVars false
namespace Go.Proofs.Ytonndofbnhnkpaa.Evl
open Go.RowKit Num KeyM KeyW StatW Blk VmA VmG Prg EvM Rf PutA CodA
def lpK (f : Func) : Code := .seq (.seq (nth 0 (nth 0 (ruK f))) (nth 1 (nth 0 (ruK f)))) (.seq (.block 3 (inK (nth 1 (ruK f)))) (nth 2 (ruK f)))
/-- Has one of the first so many this key? -/
def anyK (l : List FRan) (q : Nat) (up : Int) : Bool := (l.take q).any (fun x => x.key == up)
theorem anyK_succ {l : List FRan} {q : Nat} {x : FRan} (h : l[q]? = some x) (up : Int) : anyK l (q + 1) up = (anyK l q up || (x.key == up)) := by
  unfold anyK
  rw [List.take_add_one, h, List.any_append]
  simp
theorem ru_loopK (arg less : Int) (Zb Rb g n c i : Nat) (up : Int) (ok th0 : Bool) (l : List FRan) (w : World) (Q : Exit → Act → World → Prop) (hi : i ≤ n) (hn : n = l.length) (hn1 : n ≤ 100000) (cR : w.cell? ⟨Rb, 2, none⟩ = some (.slice (some ⟨g, 0, none⟩) n c)) (ck : ∀ q x, l[q]? = some x → w.cell? ⟨g, q * 5, none⟩ = some (.int .i64 x.key))
    (hQ : ∀ a' : Act, RuD a' arg less Zb Rb i up ok (th0 || (ok && anyK l i up)) → Q (.exit 2) a' w) :
    ∀ (m q : Nat) (a : Act), q + m = i → RuE a arg less Zb Rb i up ok (th0 || (ok && anyK l q up)) q → Code.rounds Try.prog (lpK Try.f14) Q (m + 1) a w := by
  intro m
  induction m with
  | zero =>
    intro q a hq ha
    rw [rounds_succ]
    unfold lpK
    refine seq_then fun K1 g1 => ?_
    refine seq_then fun K2 g2 => ?_
    refine ru_r15 arg less Zb Rb i up ok _ w a _ q ha fun a1 ha1 h => g2 _ _ ?_
    obtain rfl : q = i := by omega
    refine ru_c15n w a1 _ (by rw [h]; simp) ?_
    exact hQ a1 ha1.toRuD
  | succ m ih =>
    intro q a hq ha
    rw [rounds_succ]
    unfold lpK
    refine seq_then fun K1 g1 => ?_
    refine seq_then fun K2 g2 => ?_
    refine ru_r15 arg less Zb Rb i up ok _ w a _ q ha fun a1 ha1 h => g2 _ _ ?_
    have hqi : q < i := by omega
    refine ru_c15 w a1 _ (by rw [h]; simp [hqi]) (g1 _ _ ?_)
    refine seq_then fun K3 g3 => ?_
    refine wp_block ?_
    obtain ⟨x, hx⟩ : ∃ x, l[q]? = some x := ⟨_, List.getElem?_eq_getElem (by omega)⟩
    refine ru_r17 arg less Zb Rb i up ok _ w a1 _ g n c q x.key ha1 cR (by omega) (ck q x hx) fun a2 ha2 => g3 _ _ ?_
    refine ru_r16 arg less Zb Rb i up ok _ w a2 _ q ha2 (by omega) (by omega) fun a3 ha3 => ?_
    refine ih (q + 1) a3 (by omega) ?_
    have e : (th0 || (ok && anyK l (q + 1) up)) = ((th0 || (ok && anyK l q up)) || (ok && (x.key == up))) := by
      rw [anyK_succ hx]
      cases th0 <;> cases ok <;> simp
    rw [e]
    simpa using ha3
end Go.Proofs.Ytonndofbnhnkpaa.Evl
set_option linter.unusedVariables false
set_option linter.unusedSimpArgs false
set_option linter.unusedSectionVars false
namespace Go.Proofs.Ytonndofbnhnkpaa.Evl
open Go.RowKit Num KeyM KeyW StatW Blk VmA VmG Prg EvM Rf PutA CodA
def lpR (f : Func) : Code := .seq (.seq (nth 0 (nth 0 (ruL f))) (nth 1 (nth 0 (ruL f)))) (.seq (.block 1 (.seq (.seq (ruR10 f) (nth 1 (nth 0 (ruB f)))) (.seq (nth 1 (ruB f)) (.seq (nth 2 (ruB f)) (.seq (.seq (nth 0 (nth 3 (ruB f))) (.block 2 (.loop (lpK f)))) (.seq (nth 4 (ruB f)) (nth 5 (ruB f)))))))) (nth 2 (ruL f)))
theorem body14 : bodyOf Try.f14 = .seq (nth 0 (bodyOf Try.f14)) (.seq (.seq (nth 0 (nth 1 (bodyOf Try.f14))) (nth 1 (nth 1 (bodyOf Try.f14)))) (.seq (nth 2 (bodyOf Try.f14)) (.seq (nth 3 (bodyOf Try.f14)) (.seq (.seq (nth 0 (nth 4 (bodyOf Try.f14))) (nth 1 (nth 4 (bodyOf Try.f14)))) (.seq (.seq (nth 0 (nth 5 (bodyOf Try.f14))) (.block 0 (.loop (lpR Try.f14)))) (.seq (.seq (nth 0 (nth 6 (bodyOf Try.f14))) (nth 1 (nth 6 (bodyOf Try.f14)))) (.seq (nth 7 (bodyOf Try.f14)) (.seq (nth 8 (bodyOf Try.f14)) (.seq (nth 9 (bodyOf Try.f14)) (.seq (nth 10 (bodyOf Try.f14)) .ret)))))))))) := by kernel_rfl
/-- What ran, in memory. -/
structure RuW (w : World) (Rb g n c : Nat) (l : List FRan) : Prop where
  res : w.cell? ⟨Rb, 2, none⟩ = some (.slice (some ⟨g, 0, none⟩) n c)
  key : ∀ q x, l[q]? = some x → w.cell? ⟨g, q * 5, none⟩ = some (.int .i64 x.key)
  how : ∀ q x, l[q]? = some x → w.cell? ⟨g, q * 5 + 3, none⟩ = some (.int .i64 x.how)
  val : ∀ q x, l[q]? = some x → w.cell? ⟨g, q * 5 + 4, none⟩ = some (.int .i64 x.val)
theorem RuW.drew {w : World} {Rb g n c : Nat} {l : List FRan} (h : RuW w Rb g n c l) : RuW w.drew Rb g n c l := ⟨h.res, h.key, h.how, h.val⟩
/-- What the loop looks for. -/
structure RuP (l : List FRan) : Prop where
  srt : Srt l
  ends : ∀ x ∈ l, EndOk x
  par : ∀ (i : Nat) x, l[i]? = some x → x.key = 1125899906842624 ∨ (dep x.key ≠ 0 ∧ anyK l i (parent x.key) = true)
theorem ru_loop (arg less : Int) (Zb Rb g n c : Nat) (l : List FRan) (w0 : World) (Q : Exit → Act → World → Prop) (hn : n = l.length) (hn1 : n ≤ 100000) (hP : RuP l)
    (hQ : ∀ (a' : Act) (w' : World), RuA a' arg less Zb Rb → RuW w' Rb g n c l → Bl w0 w' → Q (.exit 0) a' w') :
    ∀ (m i : Nat) (a : Act) (w : World), i + m = n → RuC a arg less Zb Rb i → RuW w Rb g n c l → Bl w0 w → Code.rounds Try.prog (lpR Try.f14) Q (m + 1) a w := by
  intro m
  induction m with
  | zero =>
    intro i a w hi ha hW hb
    rw [rounds_succ]
    unfold lpR
    refine seq_then fun K1 g1 => ?_
    refine seq_then fun K2 g2 => ?_
    refine ru_r8 arg less Zb Rb w a _ g n c i ha hW.res fun a1 ha1 h => g2 _ _ ?_
    obtain rfl : i = n := by omega
    refine ru_c8n w a1 _ (by rw [h]; simp) ?_
    exact hQ a1 w ha1.toRuA hW hb
  | succ m ih =>
    intro i a w hi ha hW hb
    rw [rounds_succ]
    unfold lpR
    refine seq_then fun K1 g1 => ?_
    refine seq_then fun K2 g2 => ?_
    refine ru_r8 arg less Zb Rb w a _ g n c i ha hW.res fun a1 ha1 h => g2 _ _ ?_
    have hin : i < n := by omega
    refine ru_c8 w a1 _ (by rw [h]; simp [hin]) (g1 _ _ ?_)
    refine seq_then fun K3 g3 => ?_
    refine wp_block ?_
    refine seq_then fun K4 g4 => ?_
    refine seq_then fun K5 g5 => ?_
    obtain ⟨x, hx⟩ : ∃ x, l[i]? = some x := ⟨_, List.getElem?_eq_getElem (by omega)⟩
    have hmem := List.mem_of_getElem? hx
    obtain ⟨w1', w9', hv⟩ := hP.ends x hmem
    have hrest : ∀ a2 : Act, RuA a2 arg less Zb Rb → a2.tmps[10]? = some (.int .i64 (i : Int)) → a2.tmps[119]? = some (.bool false) → K5 a2 w.drew := by
      intro a2 ha2 h10 h119
      have hW2 := hW.drew
      have hb2 : Bl w0 w.drew := Bl.drew hb
      refine g5 _ _ ?_
      refine ru_c10 w.drew a2 _ h119 (g4 _ _ ?_)
      have hfin : ∀ (up m' : Int) (ok : Bool), (∀ w, Calls Try.prog 45 #[.int .i64 x.key] w fun e w' => e = .returned (.tuple #[.int .i64 up, .int .i64 m', .bool ok]) ∧ w = w') → ((x.key == 1125899906842624) || (ok && anyK l i up)) = true → Code.wp Try.prog (.seq (nth 1 (ruB Try.f14)) (.seq (nth 2 (ruB Try.f14)) (.seq (.seq (nth 0 (nth 3 (ruB Try.f14))) (.block 2 (.loop (lpK Try.f14)))) (.seq (nth 4 (ruB Try.f14)) (nth 5 (ruB Try.f14)))))) (Exit.inBlock 1 (Exit.then K3 (Exit.then (Code.rounds Try.prog (lpR Try.f14) Q (m + 1)) Q))) a2 w.drew := by
        intro up m' ok hC hth
        refine seq_then fun K6 g6 => ?_
        refine ru_r12 arg less Zb Rb w.drew a2 _ g n c i x.key up m' ok ⟨ha2, h10⟩ hW2.res hin (hW2.key i x hx) (hC _) fun a3 ha3 h11 h13 => g6 _ _ ?_
        refine seq_then fun K7 g7 => ?_
        refine ru_r13 arg less Zb Rb w.drew a3 _ g n c i x.key up ok ha3 h11 h13 hW2.res hin (hW2.key i x hx) fun a4 ha4 => g7 _ _ ?_
        refine seq_then fun K8 g8 => ?_
        refine seq_then fun K9 g9 => ?_
        refine ru_r14 arg less Zb Rb i up ok _ w.drew a4 _ ha4 fun a5 ha5 => g9 _ _ ?_
        refine wp_block ?_
        refine wp_loop_rounds (i + 1) ?_
        refine ru_loopK arg less Zb Rb g n c i up ok (x.key == 1125899906842624) l w.drew _ (by omega) hn hn1 hW2.res hW2.key (fun a6 ha6 => ?_) i 0 a5 (by omega) (by simpa [anyK] using ha5)
        rw [hth] at ha6
        show K8 a6 w.drew
        refine g8 _ _ ?_
        refine seq_then fun K10 g10 => ?_
        refine ru_r18 arg less Zb Rb i up ok w.drew a6 _ ha6 fun a7 ha7 h158 => g10 _ _ ?_
        refine ru_c18 w.drew a7 _ h158 ?_
        refine g3 _ _ ?_
        refine ru_r9 arg less Zb Rb i w.drew a7 _ ha7 (by omega) (by omega) fun a8 ha8 => ?_
        exact ih (i + 1) a8 w.drew (by omega) (by simpa using ha8) hW2 hb2
      rcases hP.par i x hx with e | ⟨e1, e2⟩
      · exact hfin 0 0 false (fun w => Ref6.parent_no x.key w (by rw [e]; exact root_facts.2.1)) (by rw [e]; rfl)
      · exact hfin (parent x.key) (num x.key) true (fun w => Ref6.parent_yes x.key w e1) (by rw [e2]; simp)
    by_cases h0 : 0 < i
    · obtain ⟨y, hy⟩ : ∃ y, l[i - 1]? = some y := ⟨_, List.getElem?_eq_getElem (by omega)⟩
      have hlt : y.key < x.key := by
        have hp := List.pairwise_iff_getElem.1 hP.srt (i - 1) i (by omega) (by omega) (by omega)
        obtain ⟨_, e1⟩ := List.getElem?_eq_some_iff.1 hy
        obtain ⟨_, e2⟩ := List.getElem?_eq_some_iff.1 hx
        rw [e1, e2] at hp
        exact hp
      by_cases h1 : x.how = 1
      · exact ru10_p1 arg less Zb Rb g n c i (i - 1) x.key y.key x.how w a1 _ ha1.toRuA ha1.t10 hW.res hin hn1 (hW.key i x hx) (hW.how i x hx) w1' w9' (by omega) h0 (hW.key _ y hy) hlt h1 hrest
      · exact ru10_pn arg less Zb Rb g n c i (i - 1) x.key y.key x.how w a1 _ ha1.toRuA ha1.t10 hW.res hin hn1 (hW.key i x hx) (hW.how i x hx) w1' w9' (by omega) h0 (hW.key _ y hy) hlt h1 (by rw [hW.val i x hx, hv h1]) hrest
    · by_cases h1 : x.how = 1
      · exact ru10_z1 arg less Zb Rb g n c i 0 x.key 0 x.how w a1 _ ha1.toRuA ha1.t10 hW.res hin hn1 (hW.key i x hx) (hW.how i x hx) w1' w9' h0 h1 hrest
      · exact ru10_zn arg less Zb Rb g n c i 0 x.key 0 x.how w a1 _ ha1.toRuA ha1.t10 hW.res hin hn1 (hW.key i x hx) (hW.how i x hx) w1' w9' h0 h1 (by rw [hW.val i x hx, hv h1]) hrest
end Go.Proofs.Ytonndofbnhnkpaa.Evl
set_option linter.unusedVariables false
set_option linter.unusedSimpArgs false
set_option linter.unusedSectionVars false
namespace Go.Proofs.Ytonndofbnhnkpaa.Evl
open Go.RowKit Num KeyM KeyW StatW Blk VmA VmG Prg EvM Rf PutA CodA
theorem put_first {l : List FRan} {x : FRan} (h : ∀ y ∈ l, x.key < y.key) : EvM.put l x = x :: l := by
  cases l with
  | nil => rfl
  | cons y l =>
    have := h y (by simp)
    unfold EvM.put
    rw [if_neg (by omega)]
/-- What the law asks of what ran. -/
theorem runs_pure {fs : List (List Ins)} {depth fuel most : Int} (hdp : depth ≤ 5) (hm0 : 0 ≤ most) (hm1 : most ≤ 20000) {n : Nat} {arg : Int} {u : RT} {S2 : RS} (hev : evLoop fs depth fuel most n (rt0 0 arg rootK fuel) s0e = some (u, S2)) (ho : S2.over = false) :
    RuP (finish u S2 arg).ran ∧ ((finish u S2 arg).ran.length : Int) = S2.forks + 1 ∧ ∃ x l, (finish u S2 arg).ran = x :: l ∧ x.how = u.how ∧ x.val = u.val := by
  obtain ⟨r1, r2, r3⟩ := root_facts
  obtain ⟨hS, _, _⟩ := ends_of hdp hm0 hm1 hev arg
  obtain ⟨g1, _, _, g4⟩ := evLoop_keys hdp hev r1 (Int.le_refl _) (by show (0 : Int) ≤ 1000; decide)
  obtain ⟨c1, c2⟩ := ev_ends hev ho ⟨⟨by show (0 : Int) ≤ 0; decide, by show (0 : Int) ≤ 9; decide⟩, fun q hq => by cases hq⟩ (vok_new _ _ _ _) (fun x hx => by cases hx)
  have hv := evLoop_vals hev ho (vok_new _ _ _ _)
  obtain ⟨_, k2⟩ := ev_kid hdp hev ho r1 (Int.le_refl _) (by show (0 : Int) ≤ 1000; decide)
  have hst := (ev_steps hev).2.2 ho
  have hu : u.how ≠ 0 := by
    rcases evLoop_ends hev with e | e
    · exact e
    · change S2.over = true at e; rw [ho] at e; cases e
  change u.key = rootK at g1
  have hall : ∀ y ∈ S2.ran, u.key < y.key := fun y hy => by
    rcases g4 y hy with e | e
    · cases e
    · rw [g1]; exact e.1
  have hf : (finish u S2 arg).ran = ⟨u.key, u.fn, wrap32 arg, u.how, u.val⟩ :: S2.ran := by
    rw [finish_eq ho]
    exact put_first hall
  rw [hf] at hS ⊢
  have hc := c1.1
  simp only at hc
  refine ⟨⟨hS, fun x hx => ?_, fun i x hx => ?_⟩, ?_, _, _, rfl, rfl, rfl⟩
  · rcases List.mem_cons.1 hx with rfl | hx
    · exact ⟨by show 1 ≤ u.how; omega, hc.2, hv.1⟩
    · exact c2 x hx
  · cases i with
    | zero =>
      have e : (⟨u.key, u.fn, wrap32 arg, u.how, u.val⟩ : FRan) = x := by simpa using hx
      rw [← e]; exact Or.inl g1
    | succ j =>
      have hx' : S2.ran[j]? = some x := by simpa using hx
      rcases k2 x (List.mem_of_getElem? hx') with e | ⟨⟨d1, d2⟩, e⟩
      · cases e
      · refine Or.inr ⟨d1, ?_⟩
        unfold anyK
        rw [List.any_eq_true]
        rcases e with e | ⟨y, hy, e⟩
        · refine ⟨_, by rw [List.take_succ_cons]; exact List.mem_cons_self, ?_⟩
          show (u.key == parent x.key) = true
          rw [g1, e]; simp; rfl
        · obtain ⟨q, hq⟩ := List.getElem?_of_mem hy
          have hql : q < j := by
            rcases Nat.lt_or_ge q j with h | h
            · exact h
            · exfalso
              have hs2 := (List.pairwise_cons.1 hS).2
              rcases Nat.lt_or_eq_of_le h with h | h
              · obtain ⟨b1, b2⟩ := List.getElem?_eq_some_iff.1 hx'
                obtain ⟨b3, b4⟩ := List.getElem?_eq_some_iff.1 hq
                have := List.pairwise_iff_getElem.1 hs2 j q b1 b3 h
                rw [b2, b4] at this
                omega
              · subst h
                rw [hx'] at hq
                injection hq with hq
                rw [← hq] at e
                omega
          refine ⟨y, ?_, by rw [e]; simp⟩
          rw [List.take_succ_cons]
          refine List.mem_cons_of_mem _ ?_
          refine List.mem_of_getElem? (i := q) ?_
          rw [List.getElem?_take, if_pos hql]
          exact hq
  · show ((S2.ran.length + 1 : Nat) : Int) = _
    simp only at hst
    change (S2.ran.length : Int) - S2.forks = (([] : List FRan).length : Int) - 0 at hst
    simp at hst
    omega
end Go.Proofs.Ytonndofbnhnkpaa.Evl
set_option linter.unusedVariables false
set_option linter.unusedSimpArgs false
set_option linter.unusedSectionVars false
namespace Go.Proofs.Ytonndofbnhnkpaa.Evl
open Go.RowKit Num KeyM KeyW StatW Blk VmA VmG Prg EvM Rf PutA CodA Frm
/-- A run that comes to its end has made a step. -/
theorem steps_pos {fs : List (List Ins)} {depth fuel most arg : Int} {n : Nat} {u : RT} {S2 : RS} (hf : 1 ≤ fuel) (hev : evLoop fs depth fuel most n (rt0 0 arg rootK fuel) s0e = some (u, S2)) (ho : S2.over = false) : 0 < S2.steps := by
  cases n with
  | zero => simp [evLoop] at hev
  | succ n =>
    rcases ev_cases hev with ⟨h | h, _⟩ | ⟨_, _, h, _⟩ | ⟨_, _, _, _, h⟩ | ⟨_, _, _, _, i, _, ⟨_, h⟩ | ⟨_, _, h⟩ | ⟨_, _, _, h⟩ | ⟨_, _, _, u', S', hc, h⟩⟩
    · exact absurd rfl h
    · cases h
    · change fuel = 0 at h; omega
    · injection h with _ h; rw [h] at ho; cases ho
    · have a1 := (ev_steps h).1
      rw [(one_S _ _ i).2.1] at a1
      change (0 : Int) + 1 ≤ S2.steps at a1
      omega
    · have a1 := (ev_steps h).1
      change (0 : Int) + 1 ≤ S2.steps at a1
      omega
    · have a1 := (ev_steps h).1
      change (0 : Int) + 1 ≤ S2.steps at a1
      omega
    · have a1 := (ev_steps h).1
      have b1 := (ev_steps hc).1
      rw [(fin_steps u' S' _).1] at a1
      change (0 : Int) + 1 ≤ S'.steps at b1
      simp only at a1
      omega
theorem rcs5_at (m : List FRan) (i f : Nat) (r : FRan) (h : m[i]? = some r) (hf : f < 5) : (rcs5 m)[i * 5 + f]? = (rc5 r)[f]? := by
  induction m generalizing i with
  | nil => simp at h
  | cons s m ih =>
    unfold rcs5 at *
    rw [List.flatMap_cons]
    cases i with
    | zero =>
      simp at h; subst h
      rw [List.getElem?_append_left (by simp [rc5]; omega)]; simp
    | succ i =>
      rw [List.getElem?_append_right (by simp [rc5]; omega)]
      have : (i + 1) * 5 + f - (rc5 s).length = i * 5 + f := by simp [rc5]; omega
      rw [this]
      exact ih i (by simpa using h)
theorem code_bl {w w' : World} {A : Option Addr} {fs : List (List Ins)} (hC : CodeAt w.heap.size w A fs) (hb : Bl w w') : CodeAt w'.heap.size w' A fs :=
  Prg.CodeAt.mono (CodeAt.later (S := fun _ => False) hC (Ch.of_bl hb) (fun _ _ h => h)) hb.size
theorem runs_wp (a0 : Option Addr) (la ca : Nat) (zs : List Int) (arg less : Int) (w : World) (a : Act) (Q : Exit → Act → World → Prop) (hrow : IsRow .i64 w a0 la ca zs) (ha : RuS a (.slice a0 la ca) arg less)
    (hQ : ∀ (a' : Act) (w' : World), a'.tmps.size = 240 → a'.defers = [] → a'.tmps[6]? = some (.bool true) → Bl w w' → Q .ret a' w') : (bodyOf Try.f14).wp Try.prog Q a w := by
  rw [body14]
  refine seq_then fun K1 g1 => ?_
  refine ru_r0 arg less a0 la ca w a _ ha fun a1 ha1 => g1 _ _ ?_
  refine seq_then fun K2 g2 => ?_
  refine seq_then fun K3 g3 => ?_
  refine ru_r1 arg less a0 la ca w a1 _ ha1 fun a2 ha2 h23 => g3 _ _ ?_
  by_cases hl : 100 < la
  · exact ru_c1y arg less a0 la ca w a2 _ ha2 (by rw [h23]; simp; omega) hQ
  refine ru_c1 w a2 _ (by rw [h23]; simp; omega) (g2 _ _ ?_)
  refine seq_then fun K4 g4 => ?_
  refine ru_r3 arg less a0 la ca w a2 _ (fun A n c futs depth fuel w' => ∃ fs : List (List Ins), n = fs.length ∧ PV fs futs depth fuel ∧ CodeAt w'.heap.size w' A fs ∧ Bl w w') ha2 ((Prg.prog_any a0 la ca zs true w hrow).mono ?_) (fun a3 w3 A n pc futs depth fuel ha3 hX => g4 _ _ ?_)
  · rintro e w' ⟨pa, pc, futs, depth, fuel, fs, he, h1, h2, h3⟩
    exact ⟨pa, _, pc, futs, depth, fuel, he, fs, rfl, h1, h2, h3⟩
  obtain ⟨fs, rfl, hP, hC3, hb3⟩ := hX
  obtain ⟨F, rfl⟩ : ∃ F : Nat, futs = F := ⟨futs.toNat, by have := hP.futs0; omega⟩
  obtain ⟨r1, r2, r3⟩ := root_facts
  have hone := hP.one
  have hdp := hP.dep1
  have hfu := hP.fuel0
  obtain ⟨n, ⟨u, S2⟩, hev⟩ := term (most := 1500) hP 5 fuel.toNat (rt0 0 arg rootK fuel) s0e (by show dep rootK + (5 : Nat) = 5; rw [r2]; rfl) (by show fuel = _; omega) (rok_new hP (n := 0) rfl (by omega) r1)
  have hz4 := row4_alloc w3 (.slice A fs.length pc) (.int .i64 F) (.int .i64 depth) (.int .i64 fuel) 52
  have hb4 : Bl w (w3.alloc (.cells #[.slice A fs.length pc, .int .i64 F, .int .i64 depth, .int .i64 fuel] 52)) := Bl.alloc hb3 _
  have hC4 := code_bl hC3 (Bl.alloc (Bl.refl w3) (.cells #[.slice A fs.length pc, .int .i64 F, .int .i64 depth, .int .i64 fuel] 52))
  generalize w3.alloc (.cells #[.slice A fs.length pc, .int .i64 F, .int .i64 depth, .int .i64 fuel] 52) = w4 at *
  generalize w3.heap.size = Zb at *
  refine seq_then fun K5 g5 => ?_
  cases ho : S2.over with
  | true =>
    refine ru_r4 arg less w4 a3 _ Zb A fs.length pc F depth fuel 0 0 0 0 true (fun ra rn rc w' => ra = none ∧ rn = 0 ∧ rc = 0 ∧ Bl w4 w') ha3 hz4 ((eval_over A pc F depth fuel arg 1500 fs w4 hP hC4 (by decide) (by decide) n u S2 hev ho).mono ?_) (fun a5 w5 ra fa wa rn rc fn fc wn wc ha5 h9 hX => g5 _ _ ?_)
    · rintro e w' ⟨he, hb⟩
      exact ⟨none, none, none, 0, 0, 0, 0, 0, 0, he, rfl, rfl, rfl, hb⟩
    obtain ⟨rfl, rfl, rfl, hb5⟩ := hX
    have hh := heap_alloc_new w5 (.cells #[.int .i64 0, .int .i64 0, .slice none 0 0, .slice fa fn fc, .slice wa wn wc, .int .i64 0, .int .i64 0, .bool true] 81)
    have hb6 := Bl.trans hb4 (Bl.alloc hb5 (.cells #[.int .i64 0, .int .i64 0, .slice none 0 0, .slice fa fn fc, .slice wa wn wc, .int .i64 0, .int .i64 0, .bool true] 81))
    refine seq_then fun K6 g6 => ?_
    refine seq_then fun K7 g7 => ?_
    refine ru_r5 arg less _ a5 _ Zb w5.heap.size true ha5 h9 (cell_of_row _ _ 7 _ 81 _ hh) fun a6 ha6 h9' h38 => g7 _ _ ?_
    exact ru_c5y arg less _ a6 _ Zb w5.heap.size ha6 h9' h38 (cell_of_row _ _ 2 _ 81 _ hh) (cell_of_row _ _ 5 _ 81 _ hh) fun a7 w7 s7 d7 p7 b7 => hQ a7 w7 s7 d7 p7 (Bl.trans hb6 b7)
  | false =>
    obtain ⟨hRP, hlen, x0, l0, hl0, hx1, hx2⟩ := runs_pure hdp (by decide) (by decide) hev ho
    have hst := steps_pos hfu hev ho
    have hsok := evLoop_sok (k := 0) hev ⟨by show (([] : List FRan).length : Int) + (0 : Nat) ≤ 0; simp, by show (0 : Int) ≤ 0; decide, by show (0 : Int) ≤ 1500; decide⟩
    have hsm : S2.steps ≤ 1500 := hsok.sm
    have hrf := hsok.rf
    have hfs : S2.forks ≤ S2.steps := hsok.fs
    simp only at hrf
    generalize hR : (finish u S2 arg).ran = R at *
    have hE := fun (W : World) (hC : CodeAt W.heap.size W A fs) (m2 : Int) (h0 : S2.steps ≤ m2) (h1 : m2 ≤ 20000) => eval_any A pc F depth fuel arg m2 fs W hP hC (by omega) h1 n u S2 (ev_more hev ho h0) ho
    rw [hR] at hE
    have hl1 : 1 ≤ R.length := by rw [hl0]; simp
    refine ru_r4 arg less w4 a3 _ Zb A fs.length pc F depth fuel u.how u.val S2.steps S2.forks false (fun ra rn rc w' => w'.ownsRow w4.heap.size 37 5 (.slice ra rn rc) R.length (rcs5 R) ∧ Bl w4 w') ha3 hz4 ((hE w4 hC4 1500 hsm (by decide)).mono ?_) (fun a5 w5 ra fa wa rn rc fn fc wn wc ha5 h9 hX => g5 _ _ ?_)
    · rintro e w' ⟨FB, WB, ra, rn, rc, he, ho', _, _, _, _, hb⟩
      exact ⟨ra, _, _, rn, rc, _, _, _, _, he, ho', hb⟩
    obtain ⟨hown, hb5⟩ := hX
    obtain ⟨g, rfl, rfl⟩ := own_one hown hl1
    have hh := heap_alloc_new w5 (.cells #[.int .i64 u.how, .int .i64 u.val, .slice (some ⟨g, 0, none⟩) R.length rc, .slice fa fn fc, .slice wa wn wc, .int .i64 S2.steps, .int .i64 S2.forks, .bool false] 81)
    have hba := Bl.alloc (Bl.refl w5) (.cells #[.int .i64 u.how, .int .i64 u.val, .slice (some ⟨g, 0, none⟩) R.length rc, .slice fa fn fc, .slice wa wn wc, .int .i64 S2.steps, .int .i64 S2.forks, .bool false] 81)
    have hrR : (w5.alloc (.cells #[.int .i64 u.how, .int .i64 u.val, .slice (some ⟨g, 0, none⟩) R.length rc, .slice fa fn fc, .slice wa wn wc, .int .i64 S2.steps, .int .i64 S2.forks, .bool false] 81)).rowIs w5.heap.size 81 8 (resV u.how u.val (.slice (some ⟨g, 0, none⟩) R.length rc) (.slice fa fn fc) (.slice wa wn wc) S2.steps S2.forks false) :=
      World.rowIs_alloc w5 #[.int .i64 u.how, .int .i64 u.val, .slice (some ⟨g, 0, none⟩) R.length rc, .slice fa fn fc, .slice wa wn wc, .int .i64 S2.steps, .int .i64 S2.forks, .bool false] 81 _ (by
        show ∀ i, i < 8 → _
        repeat refine all_lt ?_ rfl
        exact all_none)
    have hch := Ch.of_bl (S := fun _ => False) hba
    have hcell : ∀ (q : Nat) (x : FRan) (f : Nat) (v : Value), R[q]? = some x → f < 5 → (rc5 x)[f]? = some v → (w5.alloc (.cells #[.int .i64 u.how, .int .i64 u.val, .slice (some ⟨g, 0, none⟩) R.length rc, .slice fa fn fc, .slice wa wn wc, .int .i64 S2.steps, .int .i64 S2.forks, .bool false] 81)).cell? ⟨g, q * 5 + f, none⟩ = some v := fun q x f v hx hf hv => hch.cell (own_cells hown ((rcs5_at R q f x hx hf).trans hv)) id
    have hW : RuW (w5.alloc (.cells #[.int .i64 u.how, .int .i64 u.val, .slice (some ⟨g, 0, none⟩) R.length rc, .slice fa fn fc, .slice wa wn wc, .int .i64 S2.steps, .int .i64 S2.forks, .bool false] 81)) w5.heap.size g R.length rc R :=
      ⟨cell_of_row _ _ 2 _ 81 _ hh, fun q x hx => hcell q x 0 _ hx (by decide) rfl, fun q x hx => hcell q x 3 _ hx (by decide) rfl, fun q x hx => hcell q x 4 _ hx (by decide) rfl⟩
    have hb6 := Bl.trans hb5 hba
    have c7 := cell_of_row _ _ 7 _ 81 _ hh
    clear hcell hch hh hba
    generalize (w5.alloc (.cells #[.int .i64 u.how, .int .i64 u.val, .slice (some ⟨g, 0, none⟩) R.length rc, .slice fa fn fc, .slice wa wn wc, .int .i64 S2.steps, .int .i64 S2.forks, .bool false] 81)) = w6 at *
    generalize w5.heap.size = Rb at *
    refine seq_then fun K6 g6 => ?_
    refine seq_then fun K7 g7 => ?_
    refine ru_r5 arg less w6 a5 _ Zb Rb false ha5 h9 (by simpa using c7) fun a6 ha6 _ h38 => g7 _ _ ?_
    refine ru_c5 w6 a6 _ h38 (g6 _ _ ?_)
    refine seq_then fun K8 g8 => ?_
    refine seq_then fun K9 g9 => ?_
    refine ru_r7 arg less Zb Rb w6 a6 _ ha6 fun a7 ha7 => g9 _ _ ?_
    refine wp_block ?_
    refine wp_loop_rounds (R.length + 1) ?_
    refine ru_loop arg less Zb Rb g R.length rc R w6 _ rfl (by omega) hRP (fun a8 w8 ha8 hW8 hb8 => ?_) R.length 0 a7 w6 (by omega) (by simpa using ha7) hW (Bl.refl _)
    show K8 a8 w8
    refine g8 _ _ ?_
    have hr8 := row_bl hrR hb8
    refine seq_then fun K10 g10 => ?_
    refine seq_then fun K11 g11 => ?_
    have hx0 : R[0]? = some x0 := by rw [hl0]; rfl
    refine ru20 arg less Zb Rb g R.length rc u.how u.val S2.steps S2.forks _ w8 a8 _ ha8 hr8 rfl rfl rfl rfl rfl (by have := hW8.how 0 x0 hx0; rw [hx1] at this; simpa using this) (by have := hW8.val 0 x0 hx0; rw [hx2] at this; simpa using this) hst (by omega) hlen (by omega) (by omega) fun a9 w9 ha9 h187 hb9 => g11 _ _ ?_
    refine ru_c20 w9 a9 _ h187 (g10 _ _ ?_)
    have hr9 := row_bl hr8 hb9
    have hb49 := Bl.trans hb6 (Bl.trans hb8 hb9)
    refine seq_then fun K12 g12 => ?_
    refine ru_r22 arg less Zb Rb w9 a9 _ S2.steps ha9 (hr9.cell (i := 5) (by decide)) hst (by omega) fun a10 ha10 => g12 _ _ ?_
    have hm0 := Int.emod_nonneg less (show S2.steps ≠ 0 by omega)
    have hm1 := Int.emod_lt_of_pos less hst
    obtain ⟨⟨u', S'⟩, hev', ho'⟩ := ev_less hev ho (show s0e.steps ≤ less % S2.steps from hm0) hm1
    have hz9 := row_bl hz4 hb49
    have hC9 := code_bl hC4 hb49
    refine seq_then fun K13 g13 => ?_
    refine ru_r23 arg less Zb Rb w9 a10 _ A fs.length pc F depth fuel (less % S2.steps) ha10 hz9 (eval_over A pc F depth fuel arg (less % S2.steps) fs w9 hP hC9 hm0 (by omega) n u' S' hev' ho') fun a11 w11 R2 ha11 hr11 hb11 => g13 _ _ ?_
    refine seq_then fun K14 g14 => ?_
    refine ru_r24 arg less Zb Rb w11 a11 _ A fs.length pc F depth fuel R2 R.length u.how u.val S2.steps S2.forks ha11 (row_bl hz9 hb11) ((row_bl hr9 hb11).cell (i := 5) (by decide)) ((hE w11 (code_bl hC9 hb11) S2.steps (Int.le_refl _) (by omega)).mono ?_) fun a12 w12 R3 ra3 fa3 wa3 rc3 fn3 fc3 wn3 wc3 ha12 hr12 hb12 => g14 _ _ ?_
    · rintro e w' ⟨FB, WB, ra, rn, rc', he, ho', _, _, _, _, hb⟩
      obtain ⟨g', _, hrn⟩ := own_one ho' hl1
      rw [hrn] at he
      exact ⟨ra, _, _, rc', _, _, _, _, he, hb⟩
    have hr2 := row_bl hr11 hb12
    have hr1 := row_bl (row_bl hr9 hb11) hb12
    refine seq_then fun K15 g15 => ?_
    refine ru_r25 arg less Zb Rb w12 a12 _ R2 R3 R.length (some ⟨g, 0, none⟩) ra3 rc rc3 ha12 (hr2.cell (i := 7) (by decide)) (hr2.cell (i := 2) (by decide)) (hr12.cell (i := 7) (by decide)) (hr12.cell (i := 2) (by decide)) (hr1.cell (i := 2) (by decide)) fun a13 w13 s13 d13 p13 b13 => g15 _ _ ?_
    exact wp_ret (hQ a13 w13 s13 d13 p13 (Bl.trans hb4 (Bl.trans hb49 (Bl.trans hb11 (Bl.trans hb12 b13)))))
set_option maxRecDepth 100000 in
set_option maxHeartbeats 8000000 in
theorem runs_any (a0 : Option Addr) (la ca : Nat) (zs : List Int) (arg less : Int) (w : World) (h1 : IsRow .i64 w a0 la ca zs) (h2 : la * 8 ≤ 140737488351232) (h3 : (Lit.int .i64 arg).wf = true) (h4 : (Lit.int .i64 less).wf = true) : Calls Try.prog 14 #[.slice a0 la ca, .int .i64 arg, .int .i64 less] w fun e w' => e = .returned (.bool true) ∧ Bl w w' := by
  go_enter Try.func14, Try.ntmps14
  refine runs_wp a0 la ca zs arg less w _ _ h1 ⟨rfl, rfl, rfl, rfl, rfl⟩ fun a' w' hs hd h6 hb => ?_
  obtain ⟨_, h6'⟩ := get_of h6
  exact bodyPost_ret (v := .bool true) (by simp [results, Try.results14, go_sem, hs, h6']) hd ⟨rfl, hb⟩
end Go.Proofs.Ytonndofbnhnkpaa.Evl
