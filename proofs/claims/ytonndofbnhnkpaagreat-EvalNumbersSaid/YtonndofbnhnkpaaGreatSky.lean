/- The keys of the machine's map, in order: what the library's two functions answer. -/
import Derived.Shelf.SlGeneric
import Derived.Shelf.SlIterI.Nil
import Derived.Shelf.SortM.Plain
import Derived.Shelf.SortM.SortNone
import Derived.Ground.GgzProg
import Derived.Ground.SlgmProg
import Derived.Test.YtonndofbnhnkpaaGreatEvlP
set_option linter.unusedVariables false
set_option linter.unusedSimpArgs false
set_option linter.unusedSectionVars false
namespace Go.Proofs.YtonndofbnhnkpaaGreat.Sky
open Go.Shelf
def keys73_ren : Go.Shelf.Ren := ⟨fun | 7 => 20 | 10 => 36 | n => n, fun | 23 => 56 | 26 => 3 | 3 => 67 | 28 => 64 | 0 => 0 | 27 => 63 | 33 => 94 | 4 => 4 | n => n, fun | n => n⟩
theorem keys73 : Go.Proofs.SlLaysZI.n7 Tryz.prog keys73_ren := {
  mixed := by kernel_rfl
  f7 := ⟨Tryz.f20.name, by decide, Tryz.func20.trans (congrArg some (by kernel_rfl))⟩
  f10 := ⟨Tryz.f36.name, by decide, Tryz.func36.trans (congrArg some (by kernel_rfl))⟩
  t0 := Tryz.underlying0
  a0 := Tryz.isAgg0
  z0 := Tryz.sizeOf0
  v0 := Tryz.zeroValue0
  t4 := Tryz.underlying4
  a4 := Tryz.isAgg4
  z4 := Tryz.sizeOf4
  v4 := Tryz.zeroValue4
  t23 := Tryz.underlying56
  a23 := Tryz.isAgg56
  z23 := Tryz.sizeOf56
  v23 := Tryz.zeroValue56
  t26 := Tryz.underlying3
  a26 := Tryz.isAgg3
  z26 := Tryz.sizeOf3
  v26 := Tryz.zeroValue3
  t27 := Tryz.underlying63
  a27 := Tryz.isAgg63
  z27 := Tryz.sizeOf63
  v27 := Tryz.zeroValue63
  t28 := Tryz.underlying64
  a28 := Tryz.isAgg64
  z28 := Tryz.sizeOf64
  v28 := Tryz.zeroValue64
  t33 := Tryz.underlying94
  a33 := Tryz.isAgg94
  z33 := Tryz.sizeOf94
  v33 := Tryz.zeroValue94 }
def sorted72_ren : Go.Shelf.Ren := ⟨fun | 6 => 19 | 8 => 34 | 9 => 35 | 11 => 61 | 13 => 63 | 12 => 62 | 23 => 91 | 24 => 92 | 14 => 82 | 15 => 83 | 16 => 84 | 17 => 85 | 18 => 86 | 19 => 87 | 20 => 88 | 21 => 89 | 22 => 90 | 25 => 107 | 26 => 108 | 27 => 109 | 28 => 110 | 29 => 111 | 30 => 112 | 31 => 116 | n => n, fun | 26 => 3 | 28 => 64 | 24 => 31 | 0 => 0 | 3 => 3 | 37 => 118 | 48 => 133 | 50 => 135 | 4 => 4 | 40 => 126 | 39 => 125 | 45 => 111 | 5 => 5 | 9 => 9 | 51 => 148 | 55 => 141 | 57 => 153 | 58 => 154 | 33 => 94 | n => n, fun | n => n⟩
theorem sorted72 : Go.Proofs.SlLaysZI.n6 Tryz.prog sorted72_ren := {
  mixed := by kernel_rfl
  f6 := ⟨Tryz.f19.name, by decide, Tryz.func19.trans (congrArg some (by kernel_rfl))⟩
  f8 := ⟨Tryz.f34.name, by decide, Tryz.func34.trans (congrArg some (by kernel_rfl))⟩
  f11 := ⟨Tryz.f61.name, by decide, Tryz.func61.trans (congrArg some (by kernel_rfl))⟩
  t0 := Tryz.underlying0
  a0 := Tryz.isAgg0
  z0 := Tryz.sizeOf0
  v0 := Tryz.zeroValue0
  t24 := Tryz.underlying31
  a24 := Tryz.isAgg31
  z24 := Tryz.sizeOf31
  v24 := Tryz.zeroValue31
  t26 := Tryz.underlying3
  a26 := Tryz.isAgg3
  z26 := Tryz.sizeOf3
  v26 := Tryz.zeroValue3
  t28 := Tryz.underlying64
  a28 := Tryz.isAgg64
  z28 := Tryz.sizeOf64
  v28 := Tryz.zeroValue64
  i26 := by kernel_rfl }
def sort106_ren : Go.Shelf.Ren := ⟨fun | 5 => 35 | 8 => 63 | 7 => 62 | 19 => 91 | 20 => 92 | 10 => 82 | 11 => 83 | 12 => 84 | 13 => 85 | 14 => 86 | 15 => 87 | 16 => 88 | 17 => 89 | 18 => 90 | 30 => 107 | 31 => 108 | 32 => 109 | 33 => 110 | 34 => 111 | 35 => 112 | 40 => 116 | n => n, fun | 23 => 31 | 25 => 3 | 3 => 3 | 32 => 118 | 22 => 31 | 0 => 0 | 44 => 133 | 46 => 135 | 4 => 4 | 36 => 126 | 35 => 125 | 41 => 111 | 5 => 5 | 9 => 9 | 53 => 148 | 57 => 141 | 63 => 153 | 64 => 154 | n => n, fun | n => n⟩
theorem sort106 : Go.Proofs.SlLaysM.n5 Tryz.prog sort106_ren := {
  mixed := by kernel_rfl
  f5 := ⟨Tryz.f35.name, by decide, Tryz.func35.trans (congrArg some (by kernel_rfl))⟩
  f7 := ⟨Tryz.f62.name, by decide, Tryz.func62.trans (congrArg some (by kernel_rfl))⟩
  f8 := Tryz.func63.trans (congrArg some (by kernel_rfl))
  f10 := ⟨Tryz.f82.name, by decide, Tryz.func82.trans (congrArg some (by kernel_rfl))⟩
  f11 := ⟨Tryz.f83.name, by decide, Tryz.func83.trans (congrArg some (by kernel_rfl))⟩
  f12 := ⟨Tryz.f84.name, by decide, Tryz.func84.trans (congrArg some (by kernel_rfl))⟩
  f13 := ⟨Tryz.f85.name, by decide, Tryz.func85.trans (congrArg some (by kernel_rfl))⟩
  f14 := ⟨Tryz.f86.name, by decide, Tryz.func86.trans (congrArg some (by kernel_rfl))⟩
  f15 := ⟨Tryz.f87.name, by decide, Tryz.func87.trans (congrArg some (by kernel_rfl))⟩
  f16 := ⟨Tryz.f88.name, by decide, Tryz.func88.trans (congrArg some (by kernel_rfl))⟩
  f17 := ⟨Tryz.f89.name, by decide, Tryz.func89.trans (congrArg some (by kernel_rfl))⟩
  f18 := ⟨Tryz.f90.name, by decide, Tryz.func90.trans (congrArg some (by kernel_rfl))⟩
  f19 := Tryz.func91.trans (congrArg some (by kernel_rfl))
  f20 := Tryz.func92.trans (congrArg some (by kernel_rfl))
  f30 := ⟨Tryz.f107.name, by decide, Tryz.func107.trans (congrArg some (by kernel_rfl))⟩
  f31 := Tryz.func108.trans (congrArg some (by kernel_rfl))
  f32 := Tryz.func109.trans (congrArg some (by kernel_rfl))
  f33 := ⟨Tryz.f110.name, by decide, Tryz.func110.trans (congrArg some (by kernel_rfl))⟩
  f34 := ⟨Tryz.f111.name, by decide, Tryz.func111.trans (congrArg some (by kernel_rfl))⟩
  f35 := ⟨Tryz.f112.name, by decide, Tryz.func112.trans (congrArg some (by kernel_rfl))⟩
  f40 := ⟨Tryz.f116.name, by decide, Tryz.func116.trans (congrArg some (by kernel_rfl))⟩
  t0 := Tryz.underlying0
  a0 := Tryz.isAgg0
  z0 := Tryz.sizeOf0
  v0 := Tryz.zeroValue0
  t3 := Tryz.underlying3
  a3 := Tryz.isAgg3
  z3 := Tryz.sizeOf3
  v3 := Tryz.zeroValue3
  t4 := Tryz.underlying4
  a4 := Tryz.isAgg4
  z4 := Tryz.sizeOf4
  v4 := Tryz.zeroValue4
  t5 := Tryz.underlying5
  a5 := Tryz.isAgg5
  z5 := Tryz.sizeOf5
  v5 := Tryz.zeroValue5
  t9 := Tryz.underlying9
  a9 := Tryz.isAgg9
  z9 := Tryz.sizeOf9
  v9 := Tryz.zeroValue9
  t22 := Tryz.underlying31
  a22 := Tryz.isAgg31
  z22 := Tryz.sizeOf31
  v22 := Tryz.zeroValue31
  t23 := Tryz.underlying31
  a23 := Tryz.isAgg31
  z23 := Tryz.sizeOf31
  v23 := Tryz.zeroValue31
  t25 := Tryz.underlying3
  a25 := Tryz.isAgg3
  z25 := Tryz.sizeOf3
  v25 := Tryz.zeroValue3
  t32 := Tryz.underlying118
  a32 := Tryz.isAgg118
  z32 := Tryz.sizeOf118
  v32 := Tryz.zeroValue118
  t35 := Tryz.underlying125
  a35 := Tryz.isAgg125
  z35 := Tryz.sizeOf125
  v35 := Tryz.zeroValue125
  t36 := Tryz.underlying126
  a36 := Tryz.isAgg126
  z36 := Tryz.sizeOf126
  v36 := Tryz.zeroValue126
  t41 := Tryz.underlying111
  a41 := Tryz.isAgg111
  z41 := Tryz.sizeOf111
  v41 := Tryz.zeroValue111
  t44 := Tryz.underlying133
  a44 := Tryz.isAgg133
  z44 := Tryz.sizeOf133
  v44 := Tryz.zeroValue133
  t46 := Tryz.underlying135
  a46 := Tryz.isAgg135
  z46 := Tryz.sizeOf135
  v46 := Tryz.zeroValue135
  t53 := Tryz.underlying148
  a53 := Tryz.isAgg148
  z53 := Tryz.sizeOf148
  v53 := Tryz.zeroValue148
  t57 := Tryz.underlying141
  a57 := Tryz.isAgg141
  z57 := Tryz.sizeOf141
  v57 := Tryz.zeroValue141
  t63 := Tryz.underlying153
  a63 := Tryz.isAgg153
  z63 := Tryz.sizeOf153
  v63 := Tryz.zeroValue153
  t64 := Tryz.underlying154
  a64 := Tryz.isAgg154
  z64 := Tryz.sizeOf154
  v64 := Tryz.zeroValue154 }
end Go.Proofs.YtonndofbnhnkpaaGreat.Sky
namespace Go.Proofs.YtonndofbnhnkpaaGreat.Evl
open Go.RowKit Go.Maps Go.Sort Go.Shelf Num KeyM KeyW StatW Blk VmA VmG Prg EvM Rf Sky
theorem sorts72 (m : Nat) : AnyZI.SortsIn Tryz.prog sorted72_ren Fence.wide m :=
  ⟨fun blk off cap ss W hH hblk hsz => callsIn_wide.2 (AnyM.slices_Sort_int sort106 blk off cap ss W hH hblk hsz),
   fun p cap W => callsIn_wide.2 (AnyM.slices_Sort_int_none sort106 p cap W)⟩
def RD : Value → Option (DataW Unit × List MemPlace) := fun _ => some (.nil, [])
def DWp (P : Program) (es : Array MapEntry) : DataW Unit := .map ((es.toList.map (WideElems.rg P 3 RD)).foldr DataW.insert [])
/-- Keys that are so small. -/
def Smalls (l : List FRan) : Prop := ∀ x ∈ l, 0 ≤ x.key ∧ x.key < 9000000000000000000
theorem ins_perm (x : Lit × DataW Unit) : ∀ l : List (Lit × DataW Unit), (DataW.insert x l).Perm (x :: l)
  | [] => List.Perm.refl _
  | y :: l => by
    unfold DataW.insert
    split
    · exact List.Perm.refl _
    · exact ((ins_perm x l).cons y).trans (List.Perm.swap x y l)
theorem foldr_perm : ∀ l : List (Lit × DataW Unit), (l.foldr DataW.insert []).Perm l
  | [] => List.Perm.refl _
  | y :: l => (ins_perm y _).trans ((foldr_perm l).cons y)
def vOf : Value → Int
  | .int _ n => n
  | _ => 0
section
variable {es : Array MapEntry} {clk : Nat} {l : List FRan}
theorem key_of (h : MapIs es clk l) (hs : Smalls l) : ∀ e ∈ es.toList, ∃ n, e.key = .int .i64 n ∧ WideElems.rd Tryz.prog 3 RD e = some (.int .i64 n, .nil) := fun e he => by
  have h1 : (e.key, e.val) ∈ es.toList.map fun e => (e.key, e.val) := List.mem_map.2 ⟨e, he, rfl⟩
  obtain ⟨x, hx, e2⟩ := List.mem_map.1 (h.1.mem_iff.1 h1)
  injection e2 with e3 e4
  obtain ⟨g1, g2⟩ := hs x hx
  refine ⟨x.key, e3.symm, ?_⟩
  unfold WideElems.rd
  rw [← e3, keyOf_int_mk Tryz.underlying3 (by
    unfold Lit.wf
    rw [Bool.and_eq_true, decide_eq_true_eq, decide_eq_true_eq]
    exact ⟨by show (-9223372036854775808 : Int) ≤ _; omega, by show _ ≤ (9223372036854775807 : Int); omega⟩)]
  rfl
theorem keys_list (h : MapIs es clk l) : (es.toList.map (·.key)).Perm (l.map fun r => Value.int .i64 r.key) := by
  have := h.1.map (·.1)
  rw [List.map_map, List.map_map] at this
  exact this
theorem fits (h : MapIs es clk l) (hs : Smalls l) (hS : Srt l) (hl : l.length ≤ 1000000) : WideElems.Fit Tryz.prog 3 RD es clk := by
  refine ⟨?_, ⟨h.2.1, h.2.2, ?_⟩, fun x hx => ?_⟩
  · have := (keys_list h).length_eq
    simp only [List.length_map, Array.length_toList] at this
    have hm : (1000000 : Nat) ≤ maxLen := by decide
    omega
  · refine (keys_list h).nodup_iff.2 ?_
    refine List.pairwise_map.2 (hS.imp fun {a b} hab e => ?_)
    injection e with _ e
    omega
  · obtain ⟨n, _, e⟩ := key_of h hs x hx
    exact ⟨_, e⟩
theorem owns (h : MapIs es clk l) (hs : Smalls l) (hS : Srt l) (hl : l.length ≤ 1000000) {w : World} {R : Nat} (hR : w.heap[R]? = some (.map es clk)) : w.ownsMap Tryz.prog 3 RD R es.size (DWp Tryz.prog es) :=
  ⟨es, clk, hR, fits h hs hS hl, Nat.le_refl _, rfl⟩
theorem size_dw (h : MapIs es clk l) : Maps.size (DWp Tryz.prog es) = l.length := by
  show ((es.toList.map _).foldr DataW.insert []).length = _
  rw [(foldr_perm _).length_eq, List.length_map]
  have := (keys_list h).length_eq
  simpa using this
theorem keys_dw (h : MapIs es clk l) (hs : Smalls l) : (intKeys (DWp Tryz.prog es)).Perm (l.map (·.key)) := by
  show (((es.toList.map (WideElems.rg Tryz.prog 3 RD)).foldr DataW.insert []).map fun p => Go.intOf p.1).Perm _
  refine ((foldr_perm _).map _).trans ?_
  rw [List.map_map]
  have e1 : es.toList.map ((fun p : Lit × DataW Unit => Go.intOf p.1) ∘ WideElems.rg Tryz.prog 3 RD) = (es.toList.map (·.key)).map vOf := by
    rw [List.map_map]
    refine List.map_congr_left fun e he => ?_
    obtain ⟨n, e1, e2⟩ := key_of h hs e he
    simp only [Function.comp_apply]
    rw [WideElems.rg_of e2, e1]
    rfl
  rw [e1]
  refine ((keys_list h).map _).trans ?_
  rw [List.map_map]
  exact List.Perm.refl _
theorem sorted_list (hS : Srt l) : (l.map (·.key)).mergeSort (fun x y => decide (x ≤ y)) = l.map (·.key) := by
  refine List.mergeSort_of_pairwise ?_
  refine List.pairwise_map.2 (hS.imp fun {a b} hab => ?_)
  simp only [decide_eq_true_eq]
  omega
/-- The two calls. -/
theorem keys_call (mb : Option Nat) (w : World) : Calls Tryz.prog 20 #[.map mb] w fun e w' => e = .returned (.func (.func 36) #[] #[.pointer (some ⟨w.heap.size, 0, none⟩)]) ∧ w' = w.alloc (.cells #[.map mb] 56) :=
  (callsIn_wide (n := 5)).1 (AnyZI.keys_in keys73 Fence.wide 5 trivial rfl mb w)
theorem sorted_call (h : MapIs es clk l) (hs : Smalls l) (hS : Srt l) (hl : l.length ≤ 1000000) {w : World} {R : Nat} (hR : w.heap[R]? = some (.map es clk)) :
    Calls Tryz.prog 19 #[.func (.func 36) #[] #[.pointer (some ⟨w.heap.size, 0, none⟩)]] (w.alloc (.cells #[.map (some R)] 56)) fun e w' => ∃ v, e = .returned v ∧ w'.ownsRow (w.heap.size + 1) 3 1 v l.length (l.map fun r => Value.int .i64 r.key) ∧ Bl (w.alloc (.cells #[.map (some R)] 56)) w' := by
  have hm := size_dw h
  have hR2 : (w.alloc (.cells #[.map (some R)] 56)).heap[R]? = some (.map es clk) := heap_bl hR ((Bl.refl _).alloc _)
  have hseq : SeqGives Fence.wide 2 Tryz.prog 36 #[.pointer (some ⟨w.heap.size, 0, none⟩)] encZ (fun ss => ss.Perm (intKeys (DWp Tryz.prog es))) (Maps.size (DWp Tryz.prog es)) (w.alloc (.cells #[.map (some R)] 56)) :=
    AnyZI.keys_gives (ρ := keys73_ren) { keys73 with } Fence.wide _ trivial rfl (by omega) w.heap.size R es.size (DWp Tryz.prog es) _ (by simp) (by simp) (owns h hs hS hl hR2)
  have hmx : (1000000 : Nat) ≤ maxLen := by decide
  have cS := AnyZI.sorted_in sorted72 Fence.wide 5 trivial trivial trivial trivial rfl (by omega) (sorts72 _) (enters_of Tryz.func35 (by kernel_rfl) rfl) 36 #[.pointer (some ⟨w.heap.size, 0, none⟩)] trivial (enters_of Tryz.func36 (by kernel_rfl) rfl) _ _ (by rw [hm]; omega) (by rw [hm]; omega) _ hseq
  refine ((callsIn_wide (n := 5)).1 cS).mono ?_
  rintro e w' ⟨v, ss, rfl, hp, hrow, hnil, hb⟩
  have hp2 := hp.trans (keys_dw h hs)
  have hq : ss.mergeSort (fun x y => decide (x ≤ y)) = l.map (·.key) := (mergeSort_of_perm_i hp2).trans (sorted_list hS)
  have hlen : ss.length = l.length := by have := hp2.length_eq; simpa using this
  have hsz : (w.alloc (.cells #[.map (some R)] 56)).heap.size = w.heap.size + 1 := by simp
  rw [hq, hlen, List.map_map, hsz] at hrow
  exact ⟨v, rfl, hrow, hb⟩
end
end Go.Proofs.YtonndofbnhnkpaaGreat.Evl
