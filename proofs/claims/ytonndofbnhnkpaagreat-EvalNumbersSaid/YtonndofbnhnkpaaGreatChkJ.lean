/- The program's package valid: what is asked of an instruction. The program's package valid: a function's instructions, one by one. The program's package valid: a program that may run is let in. -/
import Derived.Test.YtonndofbnhnkpaaGreatCodF
import Derived.Laws.EntriesVeiled
set_option linter.unusedVariables false
set_option linter.unusedSimpArgs false
set_option linter.unusedSectionVars false
namespace Go.Proofs.YtonndofbnhnkpaaGreat.Chk
open Go.RowKit Num KeyM KeyW StatW Blk VmA Prg PutA CodA
theorem inside_ok (fa : Option Addr) (n fc : Nat) (a : Int) (w : World) (h : a < n) : Calls Tryz.prog 44 #[.slice fa n fc, .int .i64 a] w fun e w' => e = .returned (.bool true) ∧ Bl w w' := by
  go_enter Tryz.func44, Tryz.ntmps44
  go_wp2_with fail
  go_ret
  exact ⟨rfl, Bl.refl _⟩
section
variable (pa : Option Addr) (nf pc n fc B : Nat) (futs depth fuel : Int) (fa : Option Addr) (x : Ins) (w : World)
theorem look2 (hB : w.cell? ⟨B, 0, none⟩ = some (.func (.func 44) #[] #[])) (h : x.op = 7 → x.a < n) :
    Calls Tryz.prog 45 #[progV pa nf pc futs depth fuel, .slice fa n fc, insV x, .pointer (some ⟨B, 0, none⟩)] w fun e w' => e = .returned (.bool true) ∧ Bl w w' := by
  have hlt := lt_of_cell hB
  unfold progV insV
  by_cases h7 : x.op = 7
  · have hi := fun w => inside_ok fa n fc x.a w (h h7)
    clear h
    go_enter Tryz.func45, Tryz.ntmps45
    go_wp2_with fail
    refine (hi _).mono ?_
    rintro e w1 ⟨rfl, hb1⟩
    go_wp2_with fail
    go_ret
    exact ⟨rfl, Bl.trans (((Bl.refl _).alloc _).alloc _) hb1⟩
  · clear h
    have h7' : (x.op == 7) = false := by simpa using h7
    go_enter Tryz.func45, Tryz.ntmps45
    go_wp2_with fail
    go_ret
    exact ⟨rfl, ((Bl.refl _).alloc _).alloc _⟩
theorem look3 (hB : w.cell? ⟨B, 0, none⟩ = some (.func (.func 44) #[] #[])) (h : x.op = 8 → x.b < n) :
    Calls Tryz.prog 46 #[progV pa nf pc futs depth fuel, .slice fa n fc, insV x, .pointer (some ⟨B, 0, none⟩)] w fun e w' => e = .returned (.bool true) ∧ Bl w w' := by
  have hlt := lt_of_cell hB
  unfold progV insV
  by_cases h7 : x.op = 8
  · have hi := fun w => inside_ok fa n fc x.b w (h h7)
    clear h
    go_enter Tryz.func46, Tryz.ntmps46
    go_wp2_with fail
    refine (hi _).mono ?_
    rintro e w1 ⟨rfl, hb1⟩
    go_wp2_with fail
    go_ret
    exact ⟨rfl, Bl.trans (((Bl.refl _).alloc _).alloc _) hb1⟩
  · clear h
    have h7' : (x.op == 8) = false := by simpa using h7
    go_enter Tryz.func46, Tryz.ntmps46
    go_wp2_with fail
    go_ret
    exact ⟨rfl, ((Bl.refl _).alloc _).alloc _⟩
theorem look4 (h : x.op = 9 → x.b < nf) :
    Calls Tryz.prog 47 #[progV pa nf pc futs depth fuel, .slice fa n fc, insV x] w fun e w' => e = .returned (.bool true) ∧ Bl w w' := by
  unfold progV insV
  by_cases h7 : x.op = 9
  · have hi := h h7
    clear h
    go_enter Tryz.func47, Tryz.ntmps47
    go_wp2_with fail
    go_ret
    exact ⟨rfl, ((Bl.refl _).alloc _).alloc _⟩
  · clear h
    have h7' : (x.op == 9) = false := by simpa using h7
    go_enter Tryz.func47, Tryz.ntmps47
    go_wp2_with fail
    go_ret
    exact ⟨rfl, ((Bl.refl _).alloc _).alloc _⟩
theorem look5 (h : x.op = 11 → x.a < futs) :
    Calls Tryz.prog 48 #[progV pa nf pc futs depth fuel, .slice fa n fc, insV x] w fun e w' => e = .returned (.bool true) ∧ Bl w w' := by
  unfold progV insV
  by_cases h7 : x.op = 11
  · have hi := h h7
    clear h
    go_enter Tryz.func48, Tryz.ntmps48
    go_wp2_with fail
    go_ret
    exact ⟨rfl, ((Bl.refl _).alloc _).alloc _⟩
  · clear h
    have h7' : (x.op == 11) = false := by simpa using h7
    go_enter Tryz.func48, Tryz.ntmps48
    go_wp2_with fail
    go_ret
    exact ⟨rfl, ((Bl.refl _).alloc _).alloc _⟩
theorem look6 (h : x.op = 12 → x.b < futs) :
    Calls Tryz.prog 49 #[progV pa nf pc futs depth fuel, .slice fa n fc, insV x] w fun e w' => e = .returned (.bool true) ∧ Bl w w' := by
  unfold progV insV
  by_cases h7 : x.op = 12
  · have hi := h h7
    clear h
    go_enter Tryz.func49, Tryz.ntmps49
    go_wp2_with fail
    go_ret
    exact ⟨rfl, ((Bl.refl _).alloc _).alloc _⟩
  · clear h
    have h7' : (x.op == 12) = false := by simpa using h7
    go_enter Tryz.func49, Tryz.ntmps49
    go_wp2_with fail
    go_ret
    exact ⟨rfl, ((Bl.refl _).alloc _).alloc _⟩
end
end Go.Proofs.YtonndofbnhnkpaaGreat.Chk
namespace Go.Proofs.YtonndofbnhnkpaaGreat.Chk
open Go.RowKit Num KeyM KeyW StatW Blk VmA Prg PutA CodA
section
variable (pa : Option Addr) (nf pc n fc B8 P0 B6 BX : Nat) (futs depth fuel : Int) (fa : Option Addr) (x : Ins) (w : World)
set_option maxRecDepth 100000 in
set_option maxHeartbeats 4000000 in
theorem clos133 (h8 : w.cell? ⟨B8, 0, none⟩ = some (.func (.func 45) #[] #[.pointer (some ⟨BX, 0, none⟩)])) (hrow : w.rowIs P0 24 4 (four (.slice pa nf pc) (.int .i64 futs) (.int .i64 depth) (.int .i64 fuel))) (h6 : w.cell? ⟨B6, 0, none⟩ = some (.slice fa n fc))
    (hl : ∀ w', Bl w w' → Calls Tryz.prog 45 #[progV pa nf pc futs depth fuel, .slice fa n fc, insV x, .pointer (some ⟨BX, 0, none⟩)] w' fun e w'' => e = .returned (.bool true) ∧ Bl w' w'') :
    Calls Tryz.prog 29 #[insV x, .pointer (some ⟨B8, 0, none⟩), .pointer (some ⟨P0, 0, none⟩), .pointer (some ⟨B6, 0, none⟩)] w fun e w' => e = .returned (.bool false) ∧ Bl w w' := by
  obtain ⟨⟨k0, k1, k2, k3⟩, _⟩ := row4_cells hrow
  have l8 := lt_of_cell h8
  have l6 := lt_of_cell h6
  have l0 := hrow.lt
  clear hrow
  unfold progV insV at *
  go_enter Tryz.func29, Tryz.ntmps29
  go_wp2_with fail
  refine (hl _ ((Bl.refl _).alloc _)).mono ?_
  rintro e w1 ⟨rfl, hb1⟩
  go_wp2_with fail
  go_ret
  exact ⟨rfl, Bl.trans ((Bl.refl _).alloc _) hb1⟩
set_option maxRecDepth 100000 in
set_option maxHeartbeats 4000000 in
theorem clos134 (h8 : w.cell? ⟨B8, 0, none⟩ = some (.func (.func 46) #[] #[.pointer (some ⟨BX, 0, none⟩)])) (hrow : w.rowIs P0 24 4 (four (.slice pa nf pc) (.int .i64 futs) (.int .i64 depth) (.int .i64 fuel))) (h6 : w.cell? ⟨B6, 0, none⟩ = some (.slice fa n fc))
    (hl : ∀ w', Bl w w' → Calls Tryz.prog 46 #[progV pa nf pc futs depth fuel, .slice fa n fc, insV x, .pointer (some ⟨BX, 0, none⟩)] w' fun e w'' => e = .returned (.bool true) ∧ Bl w' w'') :
    Calls Tryz.prog 29 #[insV x, .pointer (some ⟨B8, 0, none⟩), .pointer (some ⟨P0, 0, none⟩), .pointer (some ⟨B6, 0, none⟩)] w fun e w' => e = .returned (.bool false) ∧ Bl w w' := by
  obtain ⟨⟨k0, k1, k2, k3⟩, _⟩ := row4_cells hrow
  have l8 := lt_of_cell h8
  have l6 := lt_of_cell h6
  have l0 := hrow.lt
  clear hrow
  unfold progV insV at *
  go_enter Tryz.func29, Tryz.ntmps29
  go_wp2_with fail
  refine (hl _ ((Bl.refl _).alloc _)).mono ?_
  rintro e w1 ⟨rfl, hb1⟩
  go_wp2_with fail
  go_ret
  exact ⟨rfl, Bl.trans ((Bl.refl _).alloc _) hb1⟩
set_option maxRecDepth 100000 in
set_option maxHeartbeats 4000000 in
theorem clos135 (h8 : w.cell? ⟨B8, 0, none⟩ = some (.func (.func 47) #[] #[])) (hrow : w.rowIs P0 24 4 (four (.slice pa nf pc) (.int .i64 futs) (.int .i64 depth) (.int .i64 fuel))) (h6 : w.cell? ⟨B6, 0, none⟩ = some (.slice fa n fc))
    (hl : ∀ w', Bl w w' → Calls Tryz.prog 47 #[progV pa nf pc futs depth fuel, .slice fa n fc, insV x] w' fun e w'' => e = .returned (.bool true) ∧ Bl w' w'') :
    Calls Tryz.prog 29 #[insV x, .pointer (some ⟨B8, 0, none⟩), .pointer (some ⟨P0, 0, none⟩), .pointer (some ⟨B6, 0, none⟩)] w fun e w' => e = .returned (.bool false) ∧ Bl w w' := by
  obtain ⟨⟨k0, k1, k2, k3⟩, _⟩ := row4_cells hrow
  have l8 := lt_of_cell h8
  have l6 := lt_of_cell h6
  have l0 := hrow.lt
  clear hrow
  unfold progV insV at *
  go_enter Tryz.func29, Tryz.ntmps29
  go_wp2_with fail
  refine (hl _ ((Bl.refl _).alloc _)).mono ?_
  rintro e w1 ⟨rfl, hb1⟩
  go_wp2_with fail
  go_ret
  exact ⟨rfl, Bl.trans ((Bl.refl _).alloc _) hb1⟩
set_option maxRecDepth 100000 in
set_option maxHeartbeats 4000000 in
theorem clos136 (h8 : w.cell? ⟨B8, 0, none⟩ = some (.func (.func 48) #[] #[])) (hrow : w.rowIs P0 24 4 (four (.slice pa nf pc) (.int .i64 futs) (.int .i64 depth) (.int .i64 fuel))) (h6 : w.cell? ⟨B6, 0, none⟩ = some (.slice fa n fc))
    (hl : ∀ w', Bl w w' → Calls Tryz.prog 48 #[progV pa nf pc futs depth fuel, .slice fa n fc, insV x] w' fun e w'' => e = .returned (.bool true) ∧ Bl w' w'') :
    Calls Tryz.prog 29 #[insV x, .pointer (some ⟨B8, 0, none⟩), .pointer (some ⟨P0, 0, none⟩), .pointer (some ⟨B6, 0, none⟩)] w fun e w' => e = .returned (.bool false) ∧ Bl w w' := by
  obtain ⟨⟨k0, k1, k2, k3⟩, _⟩ := row4_cells hrow
  have l8 := lt_of_cell h8
  have l6 := lt_of_cell h6
  have l0 := hrow.lt
  clear hrow
  unfold progV insV at *
  go_enter Tryz.func29, Tryz.ntmps29
  go_wp2_with fail
  refine (hl _ ((Bl.refl _).alloc _)).mono ?_
  rintro e w1 ⟨rfl, hb1⟩
  go_wp2_with fail
  go_ret
  exact ⟨rfl, Bl.trans ((Bl.refl _).alloc _) hb1⟩
set_option maxRecDepth 100000 in
set_option maxHeartbeats 4000000 in
theorem clos137 (h8 : w.cell? ⟨B8, 0, none⟩ = some (.func (.func 49) #[] #[])) (hrow : w.rowIs P0 24 4 (four (.slice pa nf pc) (.int .i64 futs) (.int .i64 depth) (.int .i64 fuel))) (h6 : w.cell? ⟨B6, 0, none⟩ = some (.slice fa n fc))
    (hl : ∀ w', Bl w w' → Calls Tryz.prog 49 #[progV pa nf pc futs depth fuel, .slice fa n fc, insV x] w' fun e w'' => e = .returned (.bool true) ∧ Bl w' w'') :
    Calls Tryz.prog 29 #[insV x, .pointer (some ⟨B8, 0, none⟩), .pointer (some ⟨P0, 0, none⟩), .pointer (some ⟨B6, 0, none⟩)] w fun e w' => e = .returned (.bool false) ∧ Bl w w' := by
  obtain ⟨⟨k0, k1, k2, k3⟩, _⟩ := row4_cells hrow
  have l8 := lt_of_cell h8
  have l6 := lt_of_cell h6
  have l0 := hrow.lt
  clear hrow
  unfold progV insV at *
  go_enter Tryz.func29, Tryz.ntmps29
  go_wp2_with fail
  refine (hl _ ((Bl.refl _).alloc _)).mono ?_
  rintro e w1 ⟨rfl, hb1⟩
  go_wp2_with fail
  go_ret
  exact ⟨rfl, Bl.trans ((Bl.refl _).alloc _) hb1⟩
end
/-- A function's instructions as they lie in memory. -/
def FnAt (w : World) (fa : Option Addr) (f : List Ins) : Prop := ∀ (j : Nat) (x : Ins), f[j]? = some x → ∃ b' off', fa = some ⟨b', off', none⟩ ∧ w.cell? ⟨b', off' + j * 4, none⟩ = some (.int .i64 x.op) ∧ w.cell? ⟨b', off' + j * 4 + 1, none⟩ = some (.int .i64 x.a) ∧ w.cell? ⟨b', off' + j * 4 + 2, none⟩ = some (.int .i64 x.b) ∧ w.cell? ⟨b', off' + j * 4 + 3, none⟩ = some (.int .i64 x.c)
set_option maxRecDepth 100000 in
set_option maxHeartbeats 4000000 in
theorem index_none (fa : Option Addr) (fc : Nat) (f : List Ins) (a8 a0 a6 : Option Addr) (w : World) (hf : f.length ≤ 1000000) (hc : FnAt w fa f)
    (hcl : ∀ w', Bl w w' → ∀ x ∈ f, Calls Tryz.prog 29 #[insV x, .pointer a8, .pointer a0, .pointer a6] w' fun e w'' => e = .returned (.bool false) ∧ Bl w' w'') :
    Calls Tryz.prog 50 #[.slice fa f.length fc, .func (.func 29) #[] #[.pointer a8, .pointer a0, .pointer a6]] w fun e w' => e = .returned (.int .i64 (-1)) ∧ Bl w w' := by
  have HC := Lib.hid hc
  have HCL := Lib.hid hcl
  clear hc hcl
  go_enter Tryz.func50, Tryz.ntmps50
  go_wp2_with fail
  go_loopw [8] (fun i wr => ∃ j : Nat, j ≤ f.length ∧ i = .int .i64 j ∧ Bl w wr) (fun i _ => f.length - (intOf i).toNat)
  case atStart => exact ⟨0, by omega, rfl, Bl.refl _⟩
  case round =>
    obtain ⟨j, hj, rfl, hB⟩ := hrel
    by_cases hlt : j < f.length
    · obtain ⟨x, hx⟩ : ∃ x, f[j]? = some x := ⟨_, List.getElem?_eq_getElem hlt⟩
      obtain ⟨db, do_, rfl, g0, g1, g2, g3⟩ := HC.out j x hx
      have g0 := st_cell hB g0
      have g1 := st_cell hB g1
      have g2 := st_cell hB g2
      have g3 := st_cell hB g3
      have hk := HCL.out wr hB x (List.mem_of_getElem? hx)
      unfold insV at hk
      have a3 : (j : Int) < (f.length : Int) := by omega
      have a4 : (0 : Int) ≤ (j : Int) := by omega
      clear hx
      go_wp2_with fail
      refine hk.mono ?_
      rintro e w1 ⟨rfl, hb1⟩
      go_wp2_with fail
      go_roundw
      case rel => exact ⟨j + 1, by omega, by go_num, Bl.trans hB hb1⟩
      case measure => simp [intOf]; omega
    · obtain rfl : j = f.length := by omega
      have a3 : decide (f.length < f.length) = false := by simp
      go_wp2_with fail
      go_ret
      exact ⟨rfl, hB⟩
theorem contains_none (fa : Option Addr) (fc : Nat) (f : List Ins) (a8 a0 a6 : Option Addr) (w : World) (hf : f.length ≤ 1000000) (hc : FnAt w fa f)
    (hcl : ∀ w', Bl w w' → ∀ x ∈ f, Calls Tryz.prog 29 #[insV x, .pointer a8, .pointer a0, .pointer a6] w' fun e w'' => e = .returned (.bool false) ∧ Bl w' w'') :
    Calls Tryz.prog 28 #[.slice fa f.length fc, .func (.func 29) #[] #[.pointer a8, .pointer a0, .pointer a6]] w fun e w' => e = .returned (.bool false) ∧ Bl w w' := by
  have h := index_none fa fc f a8 a0 a6 w hf hc hcl
  clear hcl hc
  go_enter Tryz.func28, Tryz.ntmps28
  go_wp2_with fail
  refine h.mono ?_
  rintro e w1 ⟨rfl, hb1⟩
  go_wp2_with fail
  go_ret
  exact ⟨rfl, hb1⟩
theorem ends_ok (fa : Option Addr) (fc : Nat) (f : List Ins) (x : Ins) (w : World) (hf : 1 ≤ f.length) (hf1 : f.length ≤ 1000000) (hc : FnAt w fa f) (hx : f[f.length - 1]? = some x) (ho : x.op = 7 ∨ x.op = 15) :
    Calls Tryz.prog 26 #[.slice fa f.length fc] w fun e w' => e = .returned (.bool true) ∧ Bl w w' := by
  obtain ⟨db, do_, rfl, g0, _⟩ := hc _ _ hx
  have a1 : (0 : Int) ≤ (f.length : Int) - 1 := by omega
  have a2 : (f.length : Int) - 1 < (f.length : Int) := by omega
  have a3 : ((f.length : Int) - 1).toNat = f.length - 1 := by omega
  clear hc hx
  rcases ho with ho | ho
  · rw [ho] at g0
    go_enter Tryz.func26, Tryz.ntmps26
    go_wp2_with fail
    go_ret
    exact ⟨rfl, Bl.refl _⟩
  · rw [ho] at g0
    go_enter Tryz.func26, Tryz.ntmps26
    go_wp2_with fail
    go_ret
    exact ⟨rfl, Bl.refl _⟩
theorem looks_any (w : World) : Calls Tryz.prog 27 #[] w fun e w' => ∃ G BX : Nat, e = .returned (.slice (some ⟨G, 0, none⟩) 5 5) ∧ Bl w w' ∧ w'.cell? ⟨BX, 0, none⟩ = some (.func (.func 44) #[] #[]) ∧
    w'.cell? ⟨G, 0, none⟩ = some (.func (.func 45) #[] #[.pointer (some ⟨BX, 0, none⟩)]) ∧ w'.cell? ⟨G, 1, none⟩ = some (.func (.func 46) #[] #[.pointer (some ⟨BX, 0, none⟩)]) ∧
    w'.cell? ⟨G, 2, none⟩ = some (.func (.func 47) #[] #[]) ∧ w'.cell? ⟨G, 3, none⟩ = some (.func (.func 48) #[] #[]) ∧ w'.cell? ⟨G, 4, none⟩ = some (.func (.func 49) #[] #[]) := by
  go_enter Tryz.func27, Tryz.ntmps27
  go_wp2_with fail
  go_ret
  refine ⟨w.heap.size + 1, w.heap.size, rfl, ((Bl.refl _).alloc _).alloc _, ?_, ?_, ?_, ?_, ?_, ?_⟩
  all_goals go_simp
end Go.Proofs.YtonndofbnhnkpaaGreat.Chk
namespace Go.Proofs.YtonndofbnhnkpaaGreat.Chk
open Go.RowKit Num KeyM KeyW StatW Blk VmA Prg PutA CodA
theorem fnat_bl {w w' : World} {fa : Option Addr} {f : List Ins} (h : FnAt w fa f) (hb : Bl w w') : FnAt w' fa f := fun j x hx => by
  obtain ⟨b', o', rfl, h0, h1, h2, h3⟩ := h j x hx
  exact ⟨b', o', rfl, st_cell hb h0, st_cell hb h1, st_cell hb h2, st_cell hb h3⟩
set_option maxRecDepth 100000 in
set_option maxHeartbeats 8000000 in
theorem check_yes (pa : Option Addr) (pc : Nat) (futs depth fuel : Int) (fs : List (List Ins)) (w : World) (hP : PV fs futs depth fuel) (hC : CodeAt w.heap.size w pa fs) :
    Calls Tryz.prog 16 #[progV pa fs.length pc futs depth fuel] w fun e w' => e = .returned (.int .i64 0) ∧ Bl w w' := by
  have p1 := hP.one
  have p2 := hP.most
  obtain ⟨f0, hf0⟩ : ∃ f, fs[0]? = some f := ⟨_, List.getElem?_eq_getElem (by omega)⟩
  obtain ⟨b, off, rfl, _⟩ := hC 0 f0 hf0
  have hrow := row4_alloc w (.slice (some ⟨b, off, none⟩) fs.length pc) (.int .i64 futs) (.int .i64 depth) (.int .i64 fuel) 24
  have hput := fun w' (hb : Bl w w') => codeput_ok (some ⟨b, off, none⟩) pc futs depth fuel fs w' hP (Prg.CodeAt.mono (CodeAt.later (S := fun _ => False) hC (Ch.of_bl hb) (fun _ _ h => h)) hb.size)
  have HC := Lib.hid hC
  have HP := Lib.hid hP
  have b8 : ((fs.length : Int) == 0) = false := by rw [beq_eq_false_iff_ne]; omega
  clear hC hP hf0
  unfold progV at *
  go_enter Tryz.func16, Tryz.ntmps16
  go_wp2_with fail
  refine (hput _ ((Bl.refl _).alloc _)).mono ?_
  rintro e w2 ⟨s, rfl, hb2⟩
  have hrow2 := row_bl hrow hb2
  have HB2 : Hid (Bl w w2) := Bl.trans ((Bl.refl _).alloc _) hb2
  have hlt2 := hrow2.lt
  have HR2 := Lib.hid hrow2
  obtain ⟨⟨k0, k1, k2, k3⟩, _⟩ := row4_cells hrow2
  clear hrow hb2 hput hrow2
  go_wp2_with fail
  clear k0 k1 k2 k3
  go_loopw [24] (fun i wr => ∃ (q : Nat), q ≤ fs.length ∧ i = .int .i64 q ∧ Bl w2 wr) (fun i _ => fs.length - (intOf i).toNat)
  case atStart => exact ⟨0, by omega, rfl, Bl.refl _⟩
  case round =>
    obtain ⟨q, hq, rfl, hB⟩ := hrel
    have hBw : Bl w wr := Bl.trans HB2.out hB
    by_cases hlt : q < fs.length
    · obtain ⟨f, hf⟩ : ∃ f, fs[q]? = some f := ⟨_, List.getElem?_eq_getElem hlt⟩
      obtain ⟨b', off', he, hbK, fa, fc, hc1, hc2⟩ := HC.out q f hf
      cases he
      have hff := HP.out.fns f (List.mem_of_getElem? hf)
      have hfl := hff.2.1
      have hc1' := st_cell hBw hc1
      have a1 : (q : Int) < (fs.length : Int) := by omega
      have a2 : (0 : Int) ≤ (q : Int) := by omega
      have hFa : FnAt (wr.alloc (.cells #[.slice fa f.length fc] 51)) fa f := fun j x hx => by
        obtain ⟨d, o, e1, _, g0, g1, g2, g3⟩ := hc2 j x hx
        have hb := Bl.alloc hBw (.cells #[.slice fa f.length fc] 51)
        exact ⟨d, o, e1, st_cell hb g0, st_cell hb g1, st_cell hb g2, st_cell hb g3⟩
      obtain ⟨xe, hxe, hoe⟩ := hff.2.2.2
      have hen := ends_ok fa fc f xe (wr.alloc (.cells #[.slice fa f.length fc] 51)) hff.1 (by omega) hFa hxe hoe
      have HIN := Lib.hid hff.2.2.1
      have HFA := Lib.hid hFa
      have h6 : (wr.alloc (.cells #[.slice fa f.length fc] 51)).cell? ⟨wr.heap.size, 0, none⟩ = some (.slice fa f.length fc) := by go_simp
      clear hf hc2 hff hc1 hFa hxe hoe
      go_wp2_with fail
      refine hen.mono ?_
      rintro e w3 ⟨rfl, hb3⟩
      have h6' := st_cell hb3 h6
      have hb3' : Bl w2 w3 := Bl.trans (Bl.alloc hB _) hb3
      have HF3 := Lib.hid (fnat_bl HFA.out hb3)
      have HB3 := Lib.hid hb3'
      generalize wr.heap.size = B6 at *
      clear hen hb3 h6 HFA hb3'
      go_wp2_with fail
      refine (looks_any _).mono ?_
      rintro e w4 ⟨G, BX, rfl, hb4, x0, g0, g1, g2, g3, g4⟩
      have h64 := st_cell hb4 h6'
      have HF := Lib.hid (fnat_bl HF3.out hb4)
      have HB4 : Hid (Bl w2 w4) := Bl.trans HB3.out hb4
      have HR4 := Lib.hid (row_bl HR2.out HB4.out)
      have H6 := Lib.hid h64
      have HX := Lib.hid x0
      clear h6' hb4 HF3 HB3 x0 h64 hB hBw
      go_wp2_with fail
      go_loopw [33] (fun i w5 => ∃ (j : Nat), j ≤ 5 ∧ i = .int .i64 j ∧ Bl w4 w5) (fun i _ => 5 - (intOf i).toNat)
      case atStart => exact ⟨0, by omega, rfl, Bl.refl _⟩
      case round =>
        obtain ⟨j, hj, rfl, hB5⟩ := hrel
        have HB5 := Lib.hid hB5
        obtain rfl | rfl | rfl | rfl | rfl | rfl : j = 0 ∨ j = 1 ∨ j = 2 ∨ j = 3 ∨ j = 4 ∨ j = 5 := by omega
        · have hbW : Bl wr (wr.alloc (.cells #[.func (.func 45) #[] #[.pointer (some ⟨BX, 0, none⟩)]] 79)) := (Bl.refl _).alloc _
          have c0 := st_cell hB5 g0
          have hct := contains_none fa fc f (some ⟨wr.heap.size, 0, none⟩) (some ⟨w.heap.size, 0, none⟩) (some ⟨B6, 0, none⟩) (wr.alloc (.cells #[.func (.func 45) #[] #[.pointer (some ⟨BX, 0, none⟩)]] 79)) (by omega) (fnat_bl HF.out (Bl.trans HB5.out hbW)) (fun w' hw' x hx => by
            have hin := HIN.out x hx
            exact clos133 (some ⟨b, off, none⟩) fs.length pc f.length fc wr.heap.size w.heap.size B6 BX futs depth fuel fa x w' (st_cell hw' (by go_simp)) (row_bl HR4.out (Bl.trans (Bl.trans HB5.out hbW) hw')) (st_cell (Bl.trans (Bl.trans HB5.out hbW) hw') H6.out) (fun w6 h6 => look2 (some ⟨b, off, none⟩) fs.length pc f.length fc BX futs depth fuel fa x w6 (st_cell (Bl.trans (Bl.trans HB5.out hbW) (Bl.trans hw' h6)) HX.out) hin.2.1))
          have h6' := st_cell hB5 H6.out
          have l6 := lt_of_cell h6'
          go_wp2_with fail
          refine hct.mono ?_
          rintro e w7 ⟨rfl, hb7⟩
          go_wp2_with fail
          go_roundw
          case rel => exact ⟨0+1, by omega, by go_num, Bl.trans (Bl.trans hB5 hbW) hb7⟩
          case measure => simp [intOf]
        · have hbW : Bl wr (wr.alloc (.cells #[.func (.func 46) #[] #[.pointer (some ⟨BX, 0, none⟩)]] 79)) := (Bl.refl _).alloc _
          have c1 := st_cell hB5 g1
          have hct := contains_none fa fc f (some ⟨wr.heap.size, 0, none⟩) (some ⟨w.heap.size, 0, none⟩) (some ⟨B6, 0, none⟩) (wr.alloc (.cells #[.func (.func 46) #[] #[.pointer (some ⟨BX, 0, none⟩)]] 79)) (by omega) (fnat_bl HF.out (Bl.trans HB5.out hbW)) (fun w' hw' x hx => by
            have hin := HIN.out x hx
            exact clos134 (some ⟨b, off, none⟩) fs.length pc f.length fc wr.heap.size w.heap.size B6 BX futs depth fuel fa x w' (st_cell hw' (by go_simp)) (row_bl HR4.out (Bl.trans (Bl.trans HB5.out hbW) hw')) (st_cell (Bl.trans (Bl.trans HB5.out hbW) hw') H6.out) (fun w6 h6 => look3 (some ⟨b, off, none⟩) fs.length pc f.length fc BX futs depth fuel fa x w6 (st_cell (Bl.trans (Bl.trans HB5.out hbW) (Bl.trans hw' h6)) HX.out) hin.2.2.1))
          have h6' := st_cell hB5 H6.out
          have l6 := lt_of_cell h6'
          go_wp2_with fail
          refine hct.mono ?_
          rintro e w7 ⟨rfl, hb7⟩
          go_wp2_with fail
          go_roundw
          case rel => exact ⟨1+1, by omega, by go_num, Bl.trans (Bl.trans hB5 hbW) hb7⟩
          case measure => simp [intOf]
        · have hbW : Bl wr (wr.alloc (.cells #[.func (.func 47) #[] #[]] 79)) := (Bl.refl _).alloc _
          have c2 := st_cell hB5 g2
          have hct := contains_none fa fc f (some ⟨wr.heap.size, 0, none⟩) (some ⟨w.heap.size, 0, none⟩) (some ⟨B6, 0, none⟩) (wr.alloc (.cells #[.func (.func 47) #[] #[]] 79)) (by omega) (fnat_bl HF.out (Bl.trans HB5.out hbW)) (fun w' hw' x hx => by
            have hin := HIN.out x hx
            exact clos135 (some ⟨b, off, none⟩) fs.length pc f.length fc wr.heap.size w.heap.size B6 futs depth fuel fa x w' (st_cell hw' (by go_simp)) (row_bl HR4.out (Bl.trans (Bl.trans HB5.out hbW) hw')) (st_cell (Bl.trans (Bl.trans HB5.out hbW) hw') H6.out) (fun w6 h6 => look4 (some ⟨b, off, none⟩) fs.length pc f.length fc futs depth fuel fa x w6 hin.2.2.2.1))
          have h6' := st_cell hB5 H6.out
          have l6 := lt_of_cell h6'
          go_wp2_with fail
          refine hct.mono ?_
          rintro e w7 ⟨rfl, hb7⟩
          go_wp2_with fail
          go_roundw
          case rel => exact ⟨2+1, by omega, by go_num, Bl.trans (Bl.trans hB5 hbW) hb7⟩
          case measure => simp [intOf]
        · have hbW : Bl wr (wr.alloc (.cells #[.func (.func 48) #[] #[]] 79)) := (Bl.refl _).alloc _
          have c3 := st_cell hB5 g3
          have hct := contains_none fa fc f (some ⟨wr.heap.size, 0, none⟩) (some ⟨w.heap.size, 0, none⟩) (some ⟨B6, 0, none⟩) (wr.alloc (.cells #[.func (.func 48) #[] #[]] 79)) (by omega) (fnat_bl HF.out (Bl.trans HB5.out hbW)) (fun w' hw' x hx => by
            have hin := HIN.out x hx
            exact clos136 (some ⟨b, off, none⟩) fs.length pc f.length fc wr.heap.size w.heap.size B6 futs depth fuel fa x w' (st_cell hw' (by go_simp)) (row_bl HR4.out (Bl.trans (Bl.trans HB5.out hbW) hw')) (st_cell (Bl.trans (Bl.trans HB5.out hbW) hw') H6.out) (fun w6 h6 => look5 (some ⟨b, off, none⟩) fs.length pc f.length fc futs depth fuel fa x w6 hin.2.2.2.2.1))
          have h6' := st_cell hB5 H6.out
          have l6 := lt_of_cell h6'
          go_wp2_with fail
          refine hct.mono ?_
          rintro e w7 ⟨rfl, hb7⟩
          go_wp2_with fail
          go_roundw
          case rel => exact ⟨3+1, by omega, by go_num, Bl.trans (Bl.trans hB5 hbW) hb7⟩
          case measure => simp [intOf]
        · have hbW : Bl wr (wr.alloc (.cells #[.func (.func 49) #[] #[]] 79)) := (Bl.refl _).alloc _
          have c4 := st_cell hB5 g4
          have hct := contains_none fa fc f (some ⟨wr.heap.size, 0, none⟩) (some ⟨w.heap.size, 0, none⟩) (some ⟨B6, 0, none⟩) (wr.alloc (.cells #[.func (.func 49) #[] #[]] 79)) (by omega) (fnat_bl HF.out (Bl.trans HB5.out hbW)) (fun w' hw' x hx => by
            have hin := HIN.out x hx
            exact clos137 (some ⟨b, off, none⟩) fs.length pc f.length fc wr.heap.size w.heap.size B6 futs depth fuel fa x w' (st_cell hw' (by go_simp)) (row_bl HR4.out (Bl.trans (Bl.trans HB5.out hbW) hw')) (st_cell (Bl.trans (Bl.trans HB5.out hbW) hw') H6.out) (fun w6 h6 => look6 (some ⟨b, off, none⟩) fs.length pc f.length fc futs depth fuel fa x w6 hin.2.2.2.2.2))
          have h6' := st_cell hB5 H6.out
          have l6 := lt_of_cell h6'
          go_wp2_with fail
          refine hct.mono ?_
          rintro e w7 ⟨rfl, hb7⟩
          go_wp2_with fail
          go_roundw
          case rel => exact ⟨4+1, by omega, by go_num, Bl.trans (Bl.trans hB5 hbW) hb7⟩
          case measure => simp [intOf]
        · go_wp2_with fail
          go_roundw
          case rel =>
            first
              | exact ⟨q + 1, by omega, by go_num, Bl.trans HB4.out hB5⟩
              | ((repeat apply Exists.intro); exact ⟨⟨q + 1, by omega, by go_num, Bl.trans HB4.out hB5⟩, rfl⟩)
          case measure => simp [intOf]; omega
    · obtain rfl : q = fs.length := by omega
      have a3 : decide (fs.length < fs.length) = false := by simp
      go_wp2_with fail
      go_ret
      exact ⟨rfl, hBw⟩
end Go.Proofs.YtonndofbnhnkpaaGreat.Chk
