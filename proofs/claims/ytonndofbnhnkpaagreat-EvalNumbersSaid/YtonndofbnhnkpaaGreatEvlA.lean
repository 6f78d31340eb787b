/- The program's package eval: a task's end, caught. -/
import Derived.Test.YtonndofbnhnkpaaGreatChkJ
import Derived.Test.YtonndofbnhnkpaaGreatMapO
import Derived.Test.YtonndofbnhnkpaaGreatTabJ
import Derived.WalkLawsBesides
import Derived.Defers
import Derived.Recover
set_option linter.unusedVariables false
set_option linter.unusedSimpArgs false
set_option linter.unusedSectionVars false
namespace Go.Proofs.YtonndofbnhnkpaaGreat.Evl
open Go.RowKit Num KeyM KeyW StatW Blk VmA Prg PutA CodA
def stopV (how val : Int) : Value := .iface 89 (.agg #[.int .i64 how, .int .i64 val])
def overV : Value := .iface 60 (.agg #[])
theorem stops_any (T : Option Addr) (how : Int) (w : World) : Calls Tryz.prog 32 #[.pointer T, .int .i64 how] w fun e w' => e = .panicked [{ v := stopV how 0, recovered := false }] ∧ w' = w := by
  go_enter Tryz.func32, Tryz.ntmps32
  go_wp2_with fail
  exact ⟨rfl, rfl, rfl⟩
theorem at_act {P : Program} {code : Code} {Q : Exit → Act → World → Prop} {a : Act} {w : World} (a' : Act) (e : a = a') (h : Code.wp P code Q a' w) : Code.wp P code Q a w := by rw [e]; exact h
theorem assert_stop (how val : Int) (w : World) : (Instr.typeAssert (.iface 89 (.agg #[.int .i64 how, .int .i64 val])) 20 89 true).run Tryz.prog w = .ok (.tuple #[.agg #[.int .i64 how, .int .i64 val], .bool true]) w := by kernel_rfl
theorem assert_over (w : World) : (Instr.typeAssert (.iface 60 (.agg #[])) 20 89 true).run Tryz.prog w = .ok (.tuple #[.agg #[.int .i64 0, .int .i64 0], .bool false]) w := by kernel_rfl
theorem at_w {P : Program} {code : Code} {Q : Exit → Act → World → Prop} {a : Act} {w : World} (F : World → Prop) (hF : F w) (h : ∀ w', F w' → Code.wp P code Q a w') : Code.wp P code Q a w := h w hF
def two (a b : Value) (j : Nat) : Value := if j = 0 then a else b
def idx4 : List (Nat × Nat) := [(0, 17), (1, 18), (2, 19), (3, 20), (4, 21), (5, 22), (6, 23), (7, 24), (8, 25), (9, 26), (10, 27)]
def V4 (M R : Nat) (key fn arg how val : Int) : Nat → Value := fun d => match d with
  | 17 => .pointer (some ⟨M, 0, none⟩)
  | 18 => .pointer (some ⟨M, 0, none⟩)
  | 19 => .pointer (some ⟨M, 13, none⟩)
  | 20 => .map (some R)
  | 21 => .int .i64 key
  | 22 => .int .i64 key
  | 23 => .int .i64 fn
  | 24 => .int .i64 arg
  | 25 => .int .i64 (wrap32 arg)
  | 26 => .agg #[.int .i64 how, .int .i64 val]
  | 27 => .agg #[.int .i64 key, .int .i64 fn, .int .i64 (wrap32 arg), .int .i64 how, .int .i64 val]
  | _ => undef
theorem rowB {w : World} {b b' n : Nat} {ty : TypeId} {f : Nat → Value} {e : Array MapEntry} {c : Nat} (h : w.rowIs b ty n f) (hR : w.heap[b']? = some (.map e c)) : b ≠ b' := fun e' => by
  obtain ⟨cur, hcur⟩ := row_type h
  rw [e', hR] at hcur
  cases hcur
set_option maxRecDepth 100000 in
set_option maxHeartbeats 8000000 in
theorem catch_stop (E K F A P M R : Nat) (how val key fn arg : Int) (older : List PanicEntry) (es : Array MapEntry) (c : Nat) (f : Nat → Value) (w : World)
    (hE : w.rowIs E 29 2 f) (hK : w.cell? ⟨K, 0, none⟩ = some (.int .i64 key)) (hF : w.cell? ⟨F, 0, none⟩ = some (.int .i64 fn)) (hA : w.cell? ⟨A, 0, none⟩ = some (.int .i64 arg)) (hP : w.cell? ⟨P, 0, none⟩ = some (.pointer (some ⟨M, 0, none⟩)))
    (hM : w.cell? ⟨M, 13, none⟩ = some (.map (some R))) (hR : w.heap[R]? = some (.map es c)) (hf : ∀ e ∈ es.toList, ∃ n, e.key = .int .i64 n ∧ n ≠ key) (hne : E ≠ K ∧ E ≠ F ∧ E ≠ A ∧ E ≠ P ∧ E ≠ M) :
    CallsD Tryz.prog 31 #[.pointer (some ⟨E, 0, none⟩), .pointer (some ⟨K, 0, none⟩), .pointer (some ⟨F, 0, none⟩), .pointer (some ⟨A, 0, none⟩), .pointer (some ⟨P, 0, none⟩)] (.panicking ({ v := stopV how val, recovered := false } :: older)) w fun e u' w' =>
      e = .returned (.tuple #[]) ∧ u' = .panicking ({ v := stopV how val, recovered := true } :: older) ∧ w'.rowIs E 29 2 (two (.int .i64 how) (.int .i64 val)) ∧
      w'.heap[R]? = some (.map (es.push ⟨.int .i64 key, .agg #[.int .i64 key, .int .i64 fn, .int .i64 (wrap32 arg), .int .i64 how, .int .i64 val], c⟩) (c + 1)) ∧ Ch (fun k => k = E ∨ k = R) w w' := by
  have hER : E ≠ R := rowB hE hR
  have has := assert_stop how val
  have c0 : w.cell? ⟨E, 0, none⟩ = some (f 0) := hE.cell (i := 0) (by omega)
  have c1 : w.cell? ⟨E, 1, none⟩ = some (f 1) := hE.cell (i := 1) (by omega)
  have d0 := hE.frozen 0
  have d1 := hE.frozen 1
  have lE := hE.lt
  have HE := Lib.hid hE
  have HK := Lib.hid hK
  have HF := Lib.hid hF
  have HA := Lib.hid hA
  have HP := Lib.hid hP
  have HM := Lib.hid hM
  have HR := Lib.hid hR
  have HFR := Lib.hid hf
  have HNE := Lib.hid hne
  clear hE hK hF hA hP hM hR hf hne
  unfold stopV
  refine callsD_of_wpS Tryz.func31 rfl fun c₀ cs hu => ?_
  apply wpS_seq
  apply wpS_region
  simp [wpOpsS, go_sem, recoverD, hu, Tryz.ntmps31, Exit.thenS]
  refine wpS_of_wp (at_act ⟨#[.pointer (some ⟨E, 0, none⟩), .pointer (some ⟨K, 0, none⟩), .pointer (some ⟨F, 0, none⟩), .pointer (some ⟨A, 0, none⟩), .pointer (some ⟨P, 0, none⟩), .iface 89 (.agg #[.int .i64 how, .int .i64 val]), undef, undef, .iface 89 (.agg #[.int .i64 how, .int .i64 val]), undef, undef, undef, undef, undef, undef, undef, undef, undef, undef, undef, undef, undef, undef, undef, undef, undef, undef, undef, undef], []⟩ (by kernel_rfl) ?_)
  go_wp2_with fail
  refine at_w (fun w1 => w1.rowIs E 29 2 (two (.int .i64 how) (.int .i64 val)) ∧ w1.cell? ⟨K, 0, none⟩ = some (.int .i64 key) ∧ w1.cell? ⟨F, 0, none⟩ = some (.int .i64 fn) ∧ w1.cell? ⟨A, 0, none⟩ = some (.int .i64 arg) ∧ w1.cell? ⟨P, 0, none⟩ = some (.pointer (some ⟨M, 0, none⟩)) ∧ w1.cell? ⟨M, 13, none⟩ = some (.map (some R)) ∧ w1.heap[R]? = some (.map es c) ∧ Ch (fun k => k = E ∨ k = R) w w1) ?_ ?_
  · have hch : Ch (· = E) w (((w.setCell ⟨E, 0, none⟩ (.int .i64 how)).setCell ⟨E, 1, none⟩ (.int .i64 val)).alloc (.cells #[.int .i64 how, .int .i64 val] 89)) := ((((Ch.refl _ _).setB _).setB _).alloc _)
    obtain ⟨n1, n2, n3, n4, n5⟩ := HNE.out
    exact ⟨World.rowIs.alloc (World.rowIs.congr ((HE.out.set 0 (.int .i64 how)).set 1 (.int .i64 val)) (fun i hi => by (obtain rfl | rfl : i = 0 ∨ i = 1 := (by omega)) <;> rfl)) _, hch.cell HK.out (fun e => n1 e.symm), hch.cell HF.out (fun e => n2 e.symm), hch.cell HA.out (fun e => n3 e.symm), hch.cell HP.out (fun e => n4 e.symm), hch.cell HM.out (fun e => n5 e.symm),
      (hch.block R (by have := HR.out; rcases Nat.lt_or_ge R w.heap.size with h | h; exact h; rw [Array.getElem?_eq_none h] at this; cases this) (fun e => hER e.symm)).trans HR.out, hch.mono (fun _ _ e => Or.inl e)⟩
  rintro w1 ⟨hE1, hK1, hF1, hA1, hP1, hM1, hR1, hC1⟩
  have HE1 := Lib.hid hE1
  have HR1 := Lib.hid hR1
  have HC1 := Lib.hid hC1
  have HK1 := Lib.hid hK1
  have HF1 := Lib.hid hF1
  have HA1 := Lib.hid hA1
  have HP1 := Lib.hid hP1
  have HM1 := Lib.hid hM1
  clear HE HK HF HA HP HM HR c0 c1 d0 d1 lE hE1 hR1 hC1 hK1 hF1 hA1 hP1 hM1
  refine Tab.region_tab4 (by kernel_rfl) idx4 29 (V4 M R key fn arg how val) (fun L w' => if L[11]? = some true then w' = { w1.drew with heap := w1.drew.heap.setIfInBounds R (.map (es.push ⟨.int .i64 key, .agg #[.int .i64 key, .int .i64 fn, .int .i64 (wrap32 arg), .int .i64 how, .int .i64 val], c⟩) (c + 1)) } else w' = w1.drew) (by kernel_rfl) (by rfl) (by kernel_rfl) (by rw [if_neg (by decide)]) ?_ ?_
  · intro L a w8 hT hs hd hW
    rw [if_pos (hd 11 (by decide))] at hW
    have hdf : a.defers = [] := hT.dfs
    clear hT hs hd
    have hgr : w1.drew.grownBy w8 (some R) := by rw [hW]; exact MapI.grown_setBlock
    have hc8 : Ch (fun k => k = E ∨ k = R) w1 w8 := ⟨hgr.os, hgr.tape, hgr.output, hgr.size, fun k hk hn => hgr.block k hk (fun e => hn (Or.inr (by injection e)))⟩
    have hR8 : w8.heap[R]? = some (.map (es.push ⟨.int .i64 key, .agg #[.int .i64 key, .int .i64 fn, .int .i64 (wrap32 arg), .int .i64 how, .int .i64 val], c⟩) (c + 1)) := by
      rw [hW]
      exact (MapKept.heap_set (w := w1.drew) HR1.out).1
    have hE8 : w8.rowIs E 29 2 (two (.int .i64 how) (.int .i64 val)) := HE1.out.of_block (hgr.block E HE1.out.lt (fun e => hER (by injection e)))
    clear hW hgr
    go_wp2_with fail
    exact ⟨hdf, _, rfl, _, by simp [results, Tryz.results31, go_sem], rfl, rfl, hE8, hR8, HC1.out.trans hc8⟩
  · intro i' o L a w8 K' Q' hT hs hW hL ho hd _ hcl hK
    have hi' : i' < 12 := (Array.getElem?_eq_some_iff.1 ho).1
    have r0 : a.tmps[0]? = some (.pointer (some ⟨E, 0, none⟩)) := (hT.out 0 (by decide)).trans rfl
    have r1 : a.tmps[1]? = some (.pointer (some ⟨K, 0, none⟩)) := (hT.out 1 (by decide)).trans rfl
    have r2 : a.tmps[2]? = some (.pointer (some ⟨F, 0, none⟩)) := (hT.out 2 (by decide)).trans rfl
    have r3 : a.tmps[3]? = some (.pointer (some ⟨A, 0, none⟩)) := (hT.out 3 (by decide)).trans rfl
    have r4 : a.tmps[4]? = some (.pointer (some ⟨P, 0, none⟩)) := (hT.out 4 (by decide)).trans rfl
    have HT : Hid (∀ q ∈ idx4, L[q.1]? = some true → a.tmps[q.2]? = some (V4 M R key fn arg how val q.2)) := hT.tab
    clear hT
    have h11 : ¬ L[11]? = some true := by
      intro h
      rcases Nat.lt_or_ge i' 11 with hi | hi
      · obtain rfl | rfl | rfl | rfl | rfl | rfl | rfl | rfl | rfl | rfl | rfl : i' = 0 ∨ i' = 1 ∨ i' = 2 ∨ i' = 3 ∨ i' = 4 ∨ i' = 5 ∨ i' = 6 ∨ i' = 7 ∨ i' = 8 ∨ i' = 9 ∨ i' = 10 := by omega
        · have := hcl 11 _ rfl h ⟨0, .phase⟩ (by simp) rfl; rw [hL] at this; cases this
        · have := hcl 11 _ rfl h ⟨1, .phase⟩ (by simp) rfl; rw [hL] at this; cases this
        · have := hcl 11 _ rfl h ⟨2, .phase⟩ (by simp) rfl; rw [hL] at this; cases this
        · have := hcl 11 _ rfl h ⟨3, .phase⟩ (by simp) rfl; rw [hL] at this; cases this
        · have := hcl 11 _ rfl h ⟨4, .phase⟩ (by simp) rfl; rw [hL] at this; cases this
        · have := hcl 11 _ rfl h ⟨5, .phase⟩ (by simp) rfl; rw [hL] at this; cases this
        · have := hcl 11 _ rfl h ⟨6, .phase⟩ (by simp) rfl; rw [hL] at this; cases this
        · have := hcl 11 _ rfl h ⟨7, .phase⟩ (by simp) rfl; rw [hL] at this; cases this
        · have := hcl 11 _ rfl h ⟨8, .phase⟩ (by simp) rfl; rw [hL] at this; cases this
        · have := hcl 11 _ rfl h ⟨9, .phase⟩ (by simp) rfl; rw [hL] at this; cases this
        · have := hcl 11 _ rfl h ⟨10, .phase⟩ (by simp) rfl; rw [hL] at this; cases this
      · obtain rfl : i' = 11 := by omega
        rw [hL] at h; cases h
    rw [if_neg h11] at hW
    subst hW
    clear hcl hs
    have e0 : w1.drew.cell? ⟨E, 0, none⟩ = some (.int .i64 how) := (World.rowIs.drew HE1.out).cell (i := 0) (by omega)
    have e1 : w1.drew.cell? ⟨E, 1, none⟩ = some (.int .i64 val) := (World.rowIs.drew HE1.out).cell (i := 1) (by omega)
    have eK : w1.drew.cell? ⟨K, 0, none⟩ = some (.int .i64 key) := HK1.out
    have eF : w1.drew.cell? ⟨F, 0, none⟩ = some (.int .i64 fn) := HF1.out
    have eA : w1.drew.cell? ⟨A, 0, none⟩ = some (.int .i64 arg) := HA1.out
    have eP : w1.drew.cell? ⟨P, 0, none⟩ = some (.pointer (some ⟨M, 0, none⟩)) := HP1.out
    have eM : w1.drew.cell? ⟨M, 13, none⟩ = some (.map (some R)) := HM1.out
    have lE := (World.rowIs.drew HE1.out).lt
    obtain rfl | rfl | rfl | rfl | rfl | rfl | rfl | rfl | rfl | rfl | rfl | rfl : i' = 0 ∨ i' = 1 ∨ i' = 2 ∨ i' = 3 ∨ i' = 4 ∨ i' = 5 ∨ i' = 6 ∨ i' = 7 ∨ i' = 8 ∨ i' = 9 ∨ i' = 10 ∨ i' = 11 := by omega
    · cases ho
      clear hd HT
      go_simp
      exact hK _ (by rw [Tab.get_ne (by decide), if_neg h11])
    · have s17 : a.tmps[17]? = some (.pointer (some ⟨M, 0, none⟩)) := HT.out (0, 17) (by decide) (by cases ho; exact hd ⟨0, .data⟩ (by simp) rfl)
      cases ho
      clear hd HT
      go_simp
      exact hK _ (by rw [Tab.get_ne (by decide), if_neg h11])
    · have s18 : a.tmps[18]? = some (.pointer (some ⟨M, 0, none⟩)) := HT.out (1, 18) (by decide) (by cases ho; exact hd ⟨1, .data⟩ (by simp) rfl)
      cases ho
      clear hd HT
      go_simp
      exact hK _ (by rw [Tab.get_ne (by decide), if_neg h11])
    · have s19 : a.tmps[19]? = some (.pointer (some ⟨M, 13, none⟩)) := HT.out (2, 19) (by decide) (by cases ho; exact hd ⟨2, .data⟩ (by simp) rfl)
      cases ho
      clear hd HT
      go_simp
      exact hK _ (by rw [Tab.get_ne (by decide), if_neg h11])
    · cases ho
      clear hd HT
      go_simp
      exact hK _ (by rw [Tab.get_ne (by decide), if_neg h11])
    · cases ho
      clear hd HT
      go_simp
      exact hK _ (by rw [Tab.get_ne (by decide), if_neg h11])
    · cases ho
      clear hd HT
      go_simp
      exact hK _ (by rw [Tab.get_ne (by decide), if_neg h11])
    · cases ho
      clear hd HT
      go_simp
      exact hK _ (by rw [Tab.get_ne (by decide), if_neg h11])
    · have s24 : a.tmps[24]? = some (.int .i64 arg) := HT.out (7, 24) (by decide) (by cases ho; exact hd ⟨7, .data⟩ (by simp) rfl)
      cases ho
      clear hd HT
      go_simp
      go_at_call 30
      refine (Val.wrap_any arg _).mono ?_
      rintro e w9 ⟨rfl, rfl⟩
      go_simp
      exact hK _ (by rw [Tab.get_ne (by decide), if_neg h11])
    · cases ho
      clear hd HT
      go_simp
      exact hK _ (by rw [Tab.get_ne (by decide), if_neg h11])
    · have s22 : a.tmps[22]? = some (.int .i64 key) := HT.out (5, 22) (by decide) (by cases ho; exact hd ⟨5, .data⟩ (by simp) rfl)
      have s23 : a.tmps[23]? = some (.int .i64 fn) := HT.out (6, 23) (by decide) (by cases ho; exact hd ⟨6, .data⟩ (by simp) rfl)
      have s25 : a.tmps[25]? = some (.int .i64 (wrap32 arg)) := HT.out (8, 25) (by decide) (by cases ho; exact hd ⟨8, .data⟩ (by simp) rfl)
      have s26 : a.tmps[26]? = some (.agg #[.int .i64 how, .int .i64 val]) := HT.out (9, 26) (by decide) (by cases ho; exact hd ⟨9, .data⟩ (by simp) rfl)
      cases ho
      clear hd HT
      go_simp
      exact hK _ (by rw [Tab.get_ne (by decide), if_neg h11])
    · have s20 : a.tmps[20]? = some (.map (some R)) := HT.out (3, 20) (by decide) (by cases ho; exact hd ⟨3, .data⟩ (by simp) rfl)
      have s21 : a.tmps[21]? = some (.int .i64 key) := HT.out (4, 21) (by decide) (by cases ho; exact hd ⟨4, .data⟩ (by simp) rfl)
      have s27 : a.tmps[27]? = some (.agg #[.int .i64 key, .int .i64 fn, .int .i64 (wrap32 arg), .int .i64 how, .int .i64 val]) := HT.out (10, 27) (by decide) (by cases ho; exact hd ⟨10, .data⟩ (by simp) rfl)
      cases ho
      clear hd HT
      have hrun := MapI.run_insert Tryz.prog w1.drew 56 3 67 Tryz.underlying56 Tryz.underlying3 R es c HR1.out key (.agg #[.int .i64 key, .int .i64 fn, .int .i64 (wrap32 arg), .int .i64 how, .int .i64 val]) HFR.out
      go_simp
      exact hK _ (by rw [if_pos (Tab.get_self hL)]; rfl)
set_option maxRecDepth 100000 in
set_option maxHeartbeats 4000000 in
theorem catch_over (E K F A P : Nat) (older : List PanicEntry) (w : World) :
    CallsD Tryz.prog 31 #[.pointer (some ⟨E, 0, none⟩), .pointer (some ⟨K, 0, none⟩), .pointer (some ⟨F, 0, none⟩), .pointer (some ⟨A, 0, none⟩), .pointer (some ⟨P, 0, none⟩)] (.panicking ({ v := overV, recovered := false } :: older)) w fun e u' w' =>
      e = .panicked [{ v := overV, recovered := false }] ∧ u' = .panicking ({ v := overV, recovered := true } :: older) ∧ Bl w w' := by
  have has := assert_over
  unfold overV
  refine callsD_of_wpS Tryz.func31 rfl fun c₀ cs hu => ?_
  apply wpS_seq
  apply wpS_region
  simp [wpOpsS, go_sem, recoverD, hu, Tryz.ntmps31, Exit.thenS]
  refine wpS_of_wp (at_act ⟨#[.pointer (some ⟨E, 0, none⟩), .pointer (some ⟨K, 0, none⟩), .pointer (some ⟨F, 0, none⟩), .pointer (some ⟨A, 0, none⟩), .pointer (some ⟨P, 0, none⟩), .iface 60 (.agg #[]), undef, undef, .iface 60 (.agg #[]), undef, undef, undef, undef, undef, undef, undef, undef, undef, undef, undef, undef, undef, undef, undef, undef, undef, undef, undef, undef], []⟩ (by kernel_rfl) ?_)
  go_wp2_with fail
  exact ⟨rfl, _, rfl, rfl, rfl, (Bl.refl _).alloc _⟩
end Go.Proofs.YtonndofbnhnkpaaGreat.Evl
