/- The keys of the machine's map, in order: what the library's two functions answer. -/
import Derived.Shelf.SlGeneric
import Derived.Shelf.SlIterI.Nil
import Derived.Shelf.SortM.Plain
import Derived.Shelf.SortM.SortNone
import Derived.Ground.GgzProg
import Derived.Ground.SlgmProg
import Derived.Test.YtonndofbnhnkpaaEvlP
set_option linter.unusedVariables false
set_option linter.unusedSimpArgs false
set_option linter.unusedSectionVars false
namespace Go.Proofs.Ytonndofbnhnkpaa.Sky
open Go.Shelf
def keys73_ren : Go.Shelf.Ren := ⟨fun | 7 => 73 | 10 => 107 | n => n, fun | 23 => 127 | 26 => 3 | 3 => 37 | 28 => 134 | 0 => 0 | 27 => 133 | 33 => 62 | 4 => 4 | n => n, fun | n => n⟩
theorem keys73 : Go.Proofs.SlLaysZI.n7 Try.prog keys73_ren := {
  mixed := by kernel_rfl
  f7 := ⟨Try.f73.name, by decide, Try.func73.trans (congrArg some (by kernel_rfl))⟩
  f10 := ⟨Try.f107.name, by decide, Try.func107.trans (congrArg some (by kernel_rfl))⟩
  t0 := Try.underlying0
  a0 := Try.isAgg0
  z0 := Try.sizeOf0
  v0 := Try.zeroValue0
  t4 := Try.underlying4
  a4 := Try.isAgg4
  z4 := Try.sizeOf4
  v4 := Try.zeroValue4
  t23 := Try.underlying127
  a23 := Try.isAgg127
  z23 := Try.sizeOf127
  v23 := Try.zeroValue127
  t26 := Try.underlying3
  a26 := Try.isAgg3
  z26 := Try.sizeOf3
  v26 := Try.zeroValue3
  t27 := Try.underlying133
  a27 := Try.isAgg133
  z27 := Try.sizeOf133
  v27 := Try.zeroValue133
  t28 := Try.underlying134
  a28 := Try.isAgg134
  z28 := Try.sizeOf134
  v28 := Try.zeroValue134
  t33 := Try.underlying62
  a33 := Try.isAgg62
  z33 := Try.sizeOf62
  v33 := Try.zeroValue62 }
def sorted72_ren : Go.Shelf.Ren := ⟨fun | 6 => 72 | 8 => 105 | 9 => 106 | 11 => 142 | 13 => 144 | 12 => 143 | 23 => 171 | 24 => 172 | 14 => 162 | 15 => 163 | 16 => 164 | 17 => 165 | 18 => 166 | 19 => 167 | 20 => 168 | 21 => 169 | 22 => 170 | 25 => 173 | 26 => 174 | 27 => 175 | 28 => 176 | 29 => 177 | 30 => 178 | 31 => 179 | n => n, fun | 26 => 3 | 28 => 134 | 24 => 39 | 0 => 0 | 3 => 3 | 37 => 108 | 48 => 223 | 50 => 225 | 4 => 4 | 40 => 218 | 39 => 217 | 45 => 40 | 5 => 5 | 9 => 9 | 51 => 226 | 55 => 187 | 57 => 231 | 58 => 232 | 33 => 62 | n => n, fun | n => n⟩
theorem sorted72 : Go.Proofs.SlLaysZI.n6 Try.prog sorted72_ren := {
  mixed := by kernel_rfl
  f6 := ⟨Try.f72.name, by decide, Try.func72.trans (congrArg some (by kernel_rfl))⟩
  f8 := ⟨Try.f105.name, by decide, Try.func105.trans (congrArg some (by kernel_rfl))⟩
  f11 := ⟨Try.f142.name, by decide, Try.func142.trans (congrArg some (by kernel_rfl))⟩
  t0 := Try.underlying0
  a0 := Try.isAgg0
  z0 := Try.sizeOf0
  v0 := Try.zeroValue0
  t24 := Try.underlying39
  a24 := Try.isAgg39
  z24 := Try.sizeOf39
  v24 := Try.zeroValue39
  t26 := Try.underlying3
  a26 := Try.isAgg3
  z26 := Try.sizeOf3
  v26 := Try.zeroValue3
  t28 := Try.underlying134
  a28 := Try.isAgg134
  z28 := Try.sizeOf134
  v28 := Try.zeroValue134
  i26 := by kernel_rfl }
def sort106_ren : Go.Shelf.Ren := ⟨fun | 5 => 106 | 8 => 144 | 7 => 143 | 19 => 171 | 20 => 172 | 10 => 162 | 11 => 163 | 12 => 164 | 13 => 165 | 14 => 166 | 15 => 167 | 16 => 168 | 17 => 169 | 18 => 170 | 30 => 173 | 31 => 174 | 32 => 175 | 33 => 176 | 34 => 177 | 35 => 178 | 40 => 179 | n => n, fun | 23 => 39 | 25 => 3 | 3 => 3 | 32 => 108 | 22 => 39 | 0 => 0 | 44 => 223 | 46 => 225 | 4 => 4 | 36 => 218 | 35 => 217 | 41 => 40 | 5 => 5 | 9 => 9 | 53 => 226 | 57 => 187 | 63 => 231 | 64 => 232 | n => n, fun | n => n⟩
theorem sort106 : Go.Proofs.SlLaysM.n5 Try.prog sort106_ren := {
  mixed := by kernel_rfl
  f5 := ⟨Try.f106.name, by decide, Try.func106.trans (congrArg some (by kernel_rfl))⟩
  f7 := ⟨Try.f143.name, by decide, Try.func143.trans (congrArg some (by kernel_rfl))⟩
  f8 := Try.func144.trans (congrArg some (by kernel_rfl))
  f10 := ⟨Try.f162.name, by decide, Try.func162.trans (congrArg some (by kernel_rfl))⟩
  f11 := ⟨Try.f163.name, by decide, Try.func163.trans (congrArg some (by kernel_rfl))⟩
  f12 := ⟨Try.f164.name, by decide, Try.func164.trans (congrArg some (by kernel_rfl))⟩
  f13 := ⟨Try.f165.name, by decide, Try.func165.trans (congrArg some (by kernel_rfl))⟩
  f14 := ⟨Try.f166.name, by decide, Try.func166.trans (congrArg some (by kernel_rfl))⟩
  f15 := ⟨Try.f167.name, by decide, Try.func167.trans (congrArg some (by kernel_rfl))⟩
  f16 := ⟨Try.f168.name, by decide, Try.func168.trans (congrArg some (by kernel_rfl))⟩
  f17 := ⟨Try.f169.name, by decide, Try.func169.trans (congrArg some (by kernel_rfl))⟩
  f18 := ⟨Try.f170.name, by decide, Try.func170.trans (congrArg some (by kernel_rfl))⟩
  f19 := Try.func171.trans (congrArg some (by kernel_rfl))
  f20 := Try.func172.trans (congrArg some (by kernel_rfl))
  f30 := ⟨Try.f173.name, by decide, Try.func173.trans (congrArg some (by kernel_rfl))⟩
  f31 := Try.func174.trans (congrArg some (by kernel_rfl))
  f32 := Try.func175.trans (congrArg some (by kernel_rfl))
  f33 := ⟨Try.f176.name, by decide, Try.func176.trans (congrArg some (by kernel_rfl))⟩
  f34 := ⟨Try.f177.name, by decide, Try.func177.trans (congrArg some (by kernel_rfl))⟩
  f35 := ⟨Try.f178.name, by decide, Try.func178.trans (congrArg some (by kernel_rfl))⟩
  f40 := ⟨Try.f179.name, by decide, Try.func179.trans (congrArg some (by kernel_rfl))⟩
  t0 := Try.underlying0
  a0 := Try.isAgg0
  z0 := Try.sizeOf0
  v0 := Try.zeroValue0
  t3 := Try.underlying3
  a3 := Try.isAgg3
  z3 := Try.sizeOf3
  v3 := Try.zeroValue3
  t4 := Try.underlying4
  a4 := Try.isAgg4
  z4 := Try.sizeOf4
  v4 := Try.zeroValue4
  t5 := Try.underlying5
  a5 := Try.isAgg5
  z5 := Try.sizeOf5
  v5 := Try.zeroValue5
  t9 := Try.underlying9
  a9 := Try.isAgg9
  z9 := Try.sizeOf9
  v9 := Try.zeroValue9
  t22 := Try.underlying39
  a22 := Try.isAgg39
  z22 := Try.sizeOf39
  v22 := Try.zeroValue39
  t23 := Try.underlying39
  a23 := Try.isAgg39
  z23 := Try.sizeOf39
  v23 := Try.zeroValue39
  t25 := Try.underlying3
  a25 := Try.isAgg3
  z25 := Try.sizeOf3
  v25 := Try.zeroValue3
  t32 := Try.underlying108
  a32 := Try.isAgg108
  z32 := Try.sizeOf108
  v32 := Try.zeroValue108
  t35 := Try.underlying217
  a35 := Try.isAgg217
  z35 := Try.sizeOf217
  v35 := Try.zeroValue217
  t36 := Try.underlying218
  a36 := Try.isAgg218
  z36 := Try.sizeOf218
  v36 := Try.zeroValue218
  t41 := Try.underlying40
  a41 := Try.isAgg40
  z41 := Try.sizeOf40
  v41 := Try.zeroValue40
  t44 := Try.underlying223
  a44 := Try.isAgg223
  z44 := Try.sizeOf223
  v44 := Try.zeroValue223
  t46 := Try.underlying225
  a46 := Try.isAgg225
  z46 := Try.sizeOf225
  v46 := Try.zeroValue225
  t53 := Try.underlying226
  a53 := Try.isAgg226
  z53 := Try.sizeOf226
  v53 := Try.zeroValue226
  t57 := Try.underlying187
  a57 := Try.isAgg187
  z57 := Try.sizeOf187
  v57 := Try.zeroValue187
  t63 := Try.underlying231
  a63 := Try.isAgg231
  z63 := Try.sizeOf231
  v63 := Try.zeroValue231
  t64 := Try.underlying232
  a64 := Try.isAgg232
  z64 := Try.sizeOf232
  v64 := Try.zeroValue232 }
end Go.Proofs.Ytonndofbnhnkpaa.Sky
namespace Go.Proofs.Ytonndofbnhnkpaa.Evl
open Go.RowKit Go.Maps Go.Sort Go.Shelf Num KeyM KeyW StatW Blk VmA VmG Prg EvM Rf Sky
theorem sorts72 (m : Nat) : AnyZI.SortsIn Try.prog sorted72_ren Fence.wide m :=
  ⟨fun blk off cap ss W hH hblk hsz => callsIn_wide.2 (AnyM.slices_Sort_int sort106 blk off cap ss W hH hblk hsz),
   fun p cap W => callsIn_wide.2 (AnyM.slices_Sort_int_none sort106 p cap W)⟩
def RD : Value → Option (DataW Unit × List MemPlace) := fun _ => some (.nil, [])
def DWp (P : Program) (es : Array MapEntry) : DataW Unit := .map ((es.toList.map (WideElems.rg P 3 RD)).foldr DataW.insert [])
/-- Keys that are so small. -/
def Smalls (l : List FRan) : Prop := ∀ x ∈ l, 0 ≤ x.key ∧ x.key < 9000000000000000000
theorem ins_perm (x : Lit × DataW Unit) : ∀ l : List (Lit × DataW Unit), (DataW.insert x l).Perm (x :: l)
  | [] => List.Perm.refl _
  | y :: l => by
    unfold DataW.insert
    split
    · exact List.Perm.refl _
    · exact ((ins_perm x l).cons y).trans (List.Perm.swap x y l)
theorem foldr_perm : ∀ l : List (Lit × DataW Unit), (l.foldr DataW.insert []).Perm l
  | [] => List.Perm.refl _
  | y :: l => (ins_perm y _).trans ((foldr_perm l).cons y)
def vOf : Value → Int
  | .int _ n => n
  | _ => 0
section
variable {es : Array MapEntry} {clk : Nat} {l : List FRan}
theorem key_of (h : MapIs es clk l) (hs : Smalls l) : ∀ e ∈ es.toList, ∃ n, e.key = .int .i64 n ∧ WideElems.rd Try.prog 3 RD e = some (.int .i64 n, .nil) := fun e he => by
  have h1 : (e.key, e.val) ∈ es.toList.map fun e => (e.key, e.val) := List.mem_map.2 ⟨e, he, rfl⟩
  obtain ⟨x, hx, e2⟩ := List.mem_map.1 (h.1.mem_iff.1 h1)
  injection e2 with e3 e4
  obtain ⟨g1, g2⟩ := hs x hx
  refine ⟨x.key, e3.symm, ?_⟩
  unfold WideElems.rd
  rw [← e3, keyOf_int_mk Try.underlying3 (by
    unfold Lit.wf
    rw [Bool.and_eq_true, decide_eq_true_eq, decide_eq_true_eq]
    exact ⟨by show (-9223372036854775808 : Int) ≤ _; omega, by show _ ≤ (9223372036854775807 : Int); omega⟩)]
  rfl
theorem keys_list (h : MapIs es clk l) : (es.toList.map (·.key)).Perm (l.map fun r => Value.int .i64 r.key) := by
  have := h.1.map (·.1)
  rw [List.map_map, List.map_map] at this
  exact this
theorem fits (h : MapIs es clk l) (hs : Smalls l) (hS : Srt l) (hl : l.length ≤ 1000000) : WideElems.Fit Try.prog 3 RD es clk := by
  refine ⟨?_, ⟨h.2.1, h.2.2, ?_⟩, fun x hx => ?_⟩
  · have := (keys_list h).length_eq
    simp only [List.length_map, Array.length_toList] at this
    have hm : (1000000 : Nat) ≤ maxLen := by decide
    omega
  · refine (keys_list h).nodup_iff.2 ?_
    refine List.pairwise_map.2 (hS.imp fun {a b} hab e => ?_)
    injection e with _ e
    omega
  · obtain ⟨n, _, e⟩ := key_of h hs x hx
    exact ⟨_, e⟩
theorem owns (h : MapIs es clk l) (hs : Smalls l) (hS : Srt l) (hl : l.length ≤ 1000000) {w : World} {R : Nat} (hR : w.heap[R]? = some (.map es clk)) : w.ownsMap Try.prog 3 RD R es.size (DWp Try.prog es) :=
  ⟨es, clk, hR, fits h hs hS hl, Nat.le_refl _, rfl⟩
theorem size_dw (h : MapIs es clk l) : Maps.size (DWp Try.prog es) = l.length := by
  show ((es.toList.map _).foldr DataW.insert []).length = _
  rw [(foldr_perm _).length_eq, List.length_map]
  have := (keys_list h).length_eq
  simpa using this
theorem keys_dw (h : MapIs es clk l) (hs : Smalls l) : (intKeys (DWp Try.prog es)).Perm (l.map (·.key)) := by
  show (((es.toList.map (WideElems.rg Try.prog 3 RD)).foldr DataW.insert []).map fun p => Go.intOf p.1).Perm _
  refine ((foldr_perm _).map _).trans ?_
  rw [List.map_map]
  have e1 : es.toList.map ((fun p : Lit × DataW Unit => Go.intOf p.1) ∘ WideElems.rg Try.prog 3 RD) = (es.toList.map (·.key)).map vOf := by
    rw [List.map_map]
    refine List.map_congr_left fun e he => ?_
    obtain ⟨n, e1, e2⟩ := key_of h hs e he
    simp only [Function.comp_apply]
    rw [WideElems.rg_of e2, e1]
    rfl
  rw [e1]
  refine ((keys_list h).map _).trans ?_
  rw [List.map_map]
  exact List.Perm.refl _
theorem sorted_list (hS : Srt l) : (l.map (·.key)).mergeSort (fun x y => decide (x ≤ y)) = l.map (·.key) := by
  refine List.mergeSort_of_pairwise ?_
  refine List.pairwise_map.2 (hS.imp fun {a b} hab => ?_)
  simp only [decide_eq_true_eq]
  omega
/-- The two calls. -/
theorem keys_call (mb : Option Nat) (w : World) : Calls Try.prog 73 #[.map mb] w fun e w' => e = .returned (.func (.func 107) #[] #[.pointer (some ⟨w.heap.size, 0, none⟩)]) ∧ w' = w.alloc (.cells #[.map mb] 127) :=
  (callsIn_wide (n := 5)).1 (AnyZI.keys_in keys73 Fence.wide 5 trivial rfl mb w)
theorem sorted_call (h : MapIs es clk l) (hs : Smalls l) (hS : Srt l) (hl : l.length ≤ 1000000) {w : World} {R : Nat} (hR : w.heap[R]? = some (.map es clk)) :
    Calls Try.prog 72 #[.func (.func 107) #[] #[.pointer (some ⟨w.heap.size, 0, none⟩)]] (w.alloc (.cells #[.map (some R)] 127)) fun e w' => ∃ v, e = .returned v ∧ w'.ownsRow (w.heap.size + 1) 3 1 v l.length (l.map fun r => Value.int .i64 r.key) ∧ Bl (w.alloc (.cells #[.map (some R)] 127)) w' := by
  have hm := size_dw h
  have hR2 : (w.alloc (.cells #[.map (some R)] 127)).heap[R]? = some (.map es clk) := heap_bl hR ((Bl.refl _).alloc _)
  have hseq : SeqGives Fence.wide 2 Try.prog 107 #[.pointer (some ⟨w.heap.size, 0, none⟩)] encZ (fun ss => ss.Perm (intKeys (DWp Try.prog es))) (Maps.size (DWp Try.prog es)) (w.alloc (.cells #[.map (some R)] 127)) :=
    AnyZI.keys_gives (ρ := keys73_ren) { keys73 with } Fence.wide _ trivial rfl (by omega) w.heap.size R es.size (DWp Try.prog es) _ (by simp) (by simp) (owns h hs hS hl hR2)
  have hmx : (1000000 : Nat) ≤ maxLen := by decide
  have cS := AnyZI.sorted_in sorted72 Fence.wide 5 trivial trivial trivial trivial rfl (by omega) (sorts72 _) (enters_of Try.func106 (by kernel_rfl) rfl) 107 #[.pointer (some ⟨w.heap.size, 0, none⟩)] trivial (enters_of Try.func107 (by kernel_rfl) rfl) _ _ (by rw [hm]; omega) (by rw [hm]; omega) _ hseq
  refine ((callsIn_wide (n := 5)).1 cS).mono ?_
  rintro e w' ⟨v, ss, rfl, hp, hrow, hnil, hb⟩
  have hp2 := hp.trans (keys_dw h hs)
  have hq : ss.mergeSort (fun x y => decide (x ≤ y)) = l.map (·.key) := (mergeSort_of_perm_i hp2).trans (sorted_list hS)
  have hlen : ss.length = l.length := by have := hp2.length_eq; simpa using this
  have hsz : (w.alloc (.cells #[.map (some R)] 127)).heap.size = w.heap.size + 1 := by simp
  rw [hq, hlen, List.map_map, hsz] at hrow
  exact ⟨v, rfl, hrow, hb⟩
end
end Go.Proofs.Ytonndofbnhnkpaa.Evl
