/- Programs by numbers: an instruction. -/
import Derived.Test.YtonndofbnhnkpaaGreatPrgL
set_option linter.unusedVariables false
set_option linter.unusedSimpArgs false
set_option linter.unusedSectionVars false
namespace Go.Proofs.YtonndofbnhnkpaaGreat.Prg
open Go.RowKit Num KeyM KeyW StatW Blk VmA
/-- An instruction that may stand in a function of n, of a program of nf functions, of so many futures. -/
def InsIn (nf futs n : Int) (x : Ins) : Prop := InsOk x ∧ (x.op = 7 → x.a < n) ∧ (x.op = 8 → x.b < n) ∧ (x.op = 9 → x.b < nf) ∧ (x.op = 11 → x.a < futs) ∧ (x.op = 12 → x.b < futs)
theorem LOk.setN {K B b o : Nat} {w : World} (h : LOk K B w) (hb : B ≠ b) (hK : K ≤ b) (u : Value) : LOk K B (w.setCell ⟨b, o, none⟩ u) :=
  h.later (S := (· = b)) ((Ch.refl _ _).setB u) (fun i hi h => by omega) hb
theorem LOk.lt {K B : Nat} {w : World} (h : LOk K B w) : B < w.heap.size := by obtain ⟨a, len, cap, h, _⟩ := h; exact h.lt
theorem tdn (v n : Int) (h : 0 ≤ v) (hn : 0 < n) : 0 ≤ v.tdiv n := by rw [Int.tdiv_eq_ediv_of_nonneg h]; exact Int.ediv_nonneg h (by omega)
theorem idx156_0 (w : World) : (Instr.index 103 (.agg #[.int .i64 2, .int .i64 3, .int .i64 4, .int .i64 5, .int .i64 6, .int .i64 2]) (.int .i64 0)).run Tryz.prog w = .ok (.int .i64 2) w := by kernel_rfl
theorem idx156_1 (w : World) : (Instr.index 103 (.agg #[.int .i64 2, .int .i64 3, .int .i64 4, .int .i64 5, .int .i64 6, .int .i64 2]) (.int .i64 1)).run Tryz.prog w = .ok (.int .i64 3) w := by kernel_rfl
theorem idx156_2 (w : World) : (Instr.index 103 (.agg #[.int .i64 2, .int .i64 3, .int .i64 4, .int .i64 5, .int .i64 6, .int .i64 2]) (.int .i64 2)).run Tryz.prog w = .ok (.int .i64 4) w := by kernel_rfl
theorem idx156_3 (w : World) : (Instr.index 103 (.agg #[.int .i64 2, .int .i64 3, .int .i64 4, .int .i64 5, .int .i64 6, .int .i64 2]) (.int .i64 3)).run Tryz.prog w = .ok (.int .i64 5) w := by kernel_rfl
theorem idx156_4 (w : World) : (Instr.index 103 (.agg #[.int .i64 2, .int .i64 3, .int .i64 4, .int .i64 5, .int .i64 6, .int .i64 2]) (.int .i64 4)).run Tryz.prog w = .ok (.int .i64 6) w := by kernel_rfl
theorem idx156_5 (w : World) : (Instr.index 103 (.agg #[.int .i64 2, .int .i64 3, .int .i64 4, .int .i64 5, .int .i64 6, .int .i64 2]) (.int .i64 5)).run Tryz.prog w = .ok (.int .i64 2) w := by kernel_rfl
set_option maxRecDepth 100000 in
set_option maxHeartbeats 4000000 in
theorem ins_any (K B nf futs p n : Nat) (w : World) (h : LOk K B w) (hK : K ≤ B) (hnf : 1 ≤ nf) (hnf4 : nf ≤ 4) (hfu : futs ≤ 3) (hpn : p + 1 < n) (hn : n ≤ 12) :
    Calls Tryz.prog 24 #[.pointer (some ⟨B, 0, none⟩), .int .i64 nf, .int .i64 futs, .int .i64 p, .int .i64 n] w fun e w' => ∃ x, e = .returned (insV x) ∧ InsIn nf futs n x ∧ LOk K B w' ∧ Ch (· = B) w w' := by
  have hlt := h.lt
  have hN := next_any K B 16777216 (w.alloc (.cells #[.int .i64 0, .int .i64 0, .int .i64 0, .int .i64 0] 53)) (h.bl ((Bl.refl _).alloc _)) hK (by decide) (by decide)
  have hR := row4_alloc w (.int .i64 0) (.int .i64 0) (.int .i64 0) (.int .i64 0) 53
  clear h
  go_enter Tryz.func24, Tryz.ntmps24
  go_wp2_with fail
  refine hN.mono ?_
  rintro e w2 ⟨v, rfl, hv0, hv1, hL, hC⟩
  obtain ⟨⟨q0, q1, q2, q3⟩, g0, g1, g2, g3⟩ := row4_cells (hC.row hR (by omega))
  have hC2 : Ch (· = B) w w2 := (Ch.of_bl ((Bl.refl _).alloc _)).trans hC
  have HL := Lib.hid hL
  have HC := Lib.hid hC2
  have t1 := tdn v 32 hv0 (by decide)
  have t2 := tdn v 128 hv0 (by decide)
  have t3 := tdn v 512 hv0 (by decide)
  have t4 := tdn v 2048 hv0 (by decide)
  have m1 := Int.emod_nonneg v (b := 32) (by decide)
  have m2 := Int.emod_lt_of_pos v (b := 32) (by decide)
  clear hN hR hL hC hC2
  have fin : ∀ (x : Ins), InsIn nf futs n x → ∃ y, Ending.returned (insV x) = .returned (insV y) ∧ InsIn nf futs n y ∧ LOk K B ((((w2.setCell ⟨w.heap.size, 0, none⟩ (.int .i64 x.op)).setCell ⟨w.heap.size, 1, none⟩ (.int .i64 x.a)).setCell ⟨w.heap.size, 2, none⟩ (.int .i64 x.b)).setCell ⟨w.heap.size, 3, none⟩ (.int .i64 x.c)) ∧
      Ch (· = B) w ((((w2.setCell ⟨w.heap.size, 0, none⟩ (.int .i64 x.op)).setCell ⟨w.heap.size, 1, none⟩ (.int .i64 x.a)).setCell ⟨w.heap.size, 2, none⟩ (.int .i64 x.b)).setCell ⟨w.heap.size, 3, none⟩ (.int .i64 x.c)) :=
    fun x hx => ⟨x, rfl, hx, (((HL.out.setN (by omega) (by omega) _).setN (by omega) (by omega) _).setN (by omega) (by omega) _).setN (by omega) (by omega) _,
      (((HC.out.setN (Nat.le_refl _) _).setN (Nat.le_refl _) _).setN (Nat.le_refl _) _).setN (Nat.le_refl _) _⟩
  have FIN := Lib.hid fin
  clear fin
  by_cases k1 : v % 32 < 4
  · go_wp2_with fail
    exact bodyPost_ret (v := insV ⟨1, v / 32 % 4, v / 2048 % 7 - 2, 0⟩) (by simp [results, Tryz.results24, go_sem, insV, q0, q1, q2, q3]) rfl (FIN.out ⟨1, v / 32 % 4, v / 2048 % 7 - 2, 0⟩ (by simp [InsIn, InsOk, Rg]; try omega))
  by_cases k2 : v % 32 < 10
  · rcases (show v % 32 = 4 ∨ v % 32 = 5 ∨ v % 32 = 6 ∨ v % 32 = 7 ∨ v % 32 = 8 ∨ v % 32 = 9 by omega) with k | k | k | k | k | k
    · have hix := idx156_0
      go_wp2_with fail
      exact bodyPost_ret (v := insV ⟨2, v / 32 % 4, v / 128 % 4, v / 512 % 4⟩) (by simp [results, Tryz.results24, go_sem, insV, q0, q1, q2, q3]) rfl (FIN.out ⟨2, v / 32 % 4, v / 128 % 4, v / 512 % 4⟩ (by simp [InsIn, InsOk, Rg]; try omega))
    · have hix := idx156_1
      go_wp2_with fail
      exact bodyPost_ret (v := insV ⟨3, v / 32 % 4, v / 128 % 4, v / 512 % 4⟩) (by simp [results, Tryz.results24, go_sem, insV, q0, q1, q2, q3]) rfl (FIN.out ⟨3, v / 32 % 4, v / 128 % 4, v / 512 % 4⟩ (by simp [InsIn, InsOk, Rg]; try omega))
    · have hix := idx156_2
      go_wp2_with fail
      exact bodyPost_ret (v := insV ⟨4, v / 32 % 4, v / 128 % 4, v / 512 % 4⟩) (by simp [results, Tryz.results24, go_sem, insV, q0, q1, q2, q3]) rfl (FIN.out ⟨4, v / 32 % 4, v / 128 % 4, v / 512 % 4⟩ (by simp [InsIn, InsOk, Rg]; try omega))
    · have hix := idx156_3
      go_wp2_with fail
      exact bodyPost_ret (v := insV ⟨5, v / 32 % 4, v / 128 % 4, v / 512 % 4⟩) (by simp [results, Tryz.results24, go_sem, insV, q0, q1, q2, q3]) rfl (FIN.out ⟨5, v / 32 % 4, v / 128 % 4, v / 512 % 4⟩ (by simp [InsIn, InsOk, Rg]; try omega))
    · have hix := idx156_4
      go_wp2_with fail
      exact bodyPost_ret (v := insV ⟨6, v / 32 % 4, v / 128 % 4, v / 512 % 4⟩) (by simp [results, Tryz.results24, go_sem, insV, q0, q1, q2, q3]) rfl (FIN.out ⟨6, v / 32 % 4, v / 128 % 4, v / 512 % 4⟩ (by simp [InsIn, InsOk, Rg]; try omega))
    · have hix := idx156_5
      go_wp2_with fail
      exact bodyPost_ret (v := insV ⟨2, v / 32 % 4, v / 128 % 4, v / 512 % 4⟩) (by simp [results, Tryz.results24, go_sem, insV, q0, q1, q2, q3]) rfl (FIN.out ⟨2, v / 32 % 4, v / 128 % 4, v / 512 % 4⟩ (by simp [InsIn, InsOk, Rg]; try omega))
  by_cases k3 : v % 32 < 12
  · by_cases k3' : (n : Int) - 1 < p + 1 + v / 2048 % 4
    · go_wp2_with fail
      exact bodyPost_ret (v := insV ⟨8, v / 32 % 4, (n : Int) - 1, 0⟩) (by simp [results, Tryz.results24, go_sem, insV, q0, q1, q2, q3]) rfl (FIN.out ⟨8, v / 32 % 4, (n : Int) - 1, 0⟩ (by simp [InsIn, InsOk, Rg]; try omega))
    · go_wp2_with fail
      exact bodyPost_ret (v := insV ⟨8, v / 32 % 4, (p : Int) + 1 + v / 2048 % 4, 0⟩) (by simp [results, Tryz.results24, go_sem, insV, q0, q1, q2, q3]) rfl (FIN.out ⟨8, v / 32 % 4, (p : Int) + 1 + v / 2048 % 4, 0⟩ (by simp [InsIn, InsOk, Rg]; try omega))
  by_cases k4 : v % 32 = 12
  · have k4' : (v % 32 == 12) = true := by simpa using k4
    have kn : ((n : Int) == 0) = false := by simp; omega
    have kn1 := Int.emod_nonneg (v / 2048) (b := (n : Int)) (by omega)
    have kn2 := Int.emod_lt_of_pos (v / 2048) (b := (n : Int)) (by omega)
    go_wp2_with fail
    exact bodyPost_ret (v := insV ⟨7, v / 2048 % n, 0, 0⟩) (by simp [results, Tryz.results24, go_sem, insV, q0, q1, q2, q3]) rfl (FIN.out ⟨7, v / 2048 % n, 0, 0⟩ (by simp [InsIn, InsOk, Rg]; try omega))
  have k4' : (v % 32 == 12) = false := by simpa using k4
  by_cases k5 : v % 32 < 21
  · have kn : ((nf : Int) == 0) = false := by simp; omega
    have kn1 := Int.emod_nonneg (v / 2048) (b := (nf : Int)) (by omega)
    have kn2 := Int.emod_lt_of_pos (v / 2048) (b := (nf : Int)) (by omega)
    go_wp2_with fail
    exact bodyPost_ret (v := insV ⟨9, v / 32 % 4, v / 2048 % nf, v / 128 % 4⟩) (by simp [results, Tryz.results24, go_sem, insV, q0, q1, q2, q3]) rfl (FIN.out ⟨9, v / 32 % 4, v / 2048 % nf, v / 128 % 4⟩ (by simp [InsIn, InsOk, Rg]; try omega))
  by_cases k6 : v % 32 < 26
  · go_wp2_with fail
    exact bodyPost_ret (v := insV ⟨10, v / 32 % 4, v / 128 % 4, 0⟩) (by simp [results, Tryz.results24, go_sem, insV, q0, q1, q2, q3]) rfl (FIN.out ⟨10, v / 32 % 4, v / 128 % 4, 0⟩ (by simp [InsIn, InsOk, Rg]; try omega))
  by_cases kf : 0 < futs
  · have kf' : (0 : Int) < (futs : Int) := by omega
    have km : max (futs : Int) 1 = futs := by omega
    have kn : ((futs : Int) == 0) = false := by simp; omega
    have kn1 := Int.emod_nonneg (v / 2048) (b := (futs : Int)) (by omega)
    have kn2 := Int.emod_lt_of_pos (v / 2048) (b := (futs : Int)) (by omega)
    by_cases k7 : v % 32 = 26
    · have k7' : (v % 32 == 26) = true := by simpa using k7
      go_wp2_with fail
      exact bodyPost_ret (v := insV ⟨11, v / 2048 % futs, v / 32 % 4, 0⟩) (by simp [results, Tryz.results24, go_sem, insV, q0, q1, q2, q3]) rfl (FIN.out ⟨11, v / 2048 % futs, v / 32 % 4, 0⟩ (by simp [InsIn, InsOk, Rg]; try omega))
    have k7' : (v % 32 == 26) = false := by simpa using k7
    by_cases k8 : v % 32 < 29
    · go_wp2_with fail
      exact bodyPost_ret (v := insV ⟨12, v / 32 % 4, v / 2048 % futs, 0⟩) (by simp [results, Tryz.results24, go_sem, insV, q0, q1, q2, q3]) rfl (FIN.out ⟨12, v / 32 % 4, v / 2048 % futs, 0⟩ (by simp [InsIn, InsOk, Rg]; try omega))
    by_cases k9 : v % 32 = 29
    · have k9' : (v % 32 == 29) = true := by simpa using k9
      go_wp2_with fail
      exact bodyPost_ret (v := insV ⟨14, 0, 0, 0⟩) (by simp [results, Tryz.results24, go_sem, insV, q0, q1, q2, q3]) rfl (FIN.out ⟨14, 0, 0, 0⟩ (by simp [InsIn, InsOk, Rg]; try omega))
    have k9' : (v % 32 == 29) = false := by simpa using k9
    go_wp2_with fail
    exact bodyPost_ret (v := insV ⟨2, v / 32 % 4, v / 32 % 4, v / 128 % 4⟩) (by simp [results, Tryz.results24, go_sem, insV, q0, q1, q2, q3]) rfl (FIN.out ⟨2, v / 32 % 4, v / 32 % 4, v / 128 % 4⟩ (by simp [InsIn, InsOk, Rg]; try omega))
  · obtain rfl : futs = 0 := by omega
    by_cases k9 : v % 32 = 29
    · have k9' : (v % 32 == 29) = true := by simpa using k9
      have k7' : (v % 32 == 26) = false := by simp; omega
      have k8 : ¬ v % 32 < 29 := by omega
      go_wp2_with fail
      exact bodyPost_ret (v := insV ⟨14, 0, 0, 0⟩) (by simp [results, Tryz.results24, go_sem, insV, q0, q1, q2, q3]) rfl (FIN.out ⟨14, 0, 0, 0⟩ (by simp [InsIn, InsOk, Rg]; try omega))
    have k9' : (v % 32 == 29) = false := by simpa using k9
    by_cases k7 : v % 32 = 26
    · have k7' : (v % 32 == 26) = true := by simpa using k7
      go_wp2_with fail
      exact bodyPost_ret (v := insV ⟨2, v / 32 % 4, v / 32 % 4, v / 128 % 4⟩) (by simp [results, Tryz.results24, go_sem, insV, q0, q1, q2, q3]) rfl (FIN.out ⟨2, v / 32 % 4, v / 32 % 4, v / 128 % 4⟩ (by simp [InsIn, InsOk, Rg]; try omega))
    have k7' : (v % 32 == 26) = false := by simpa using k7
    by_cases k8 : v % 32 < 29
    · go_wp2_with fail
      exact bodyPost_ret (v := insV ⟨2, v / 32 % 4, v / 32 % 4, v / 128 % 4⟩) (by simp [results, Tryz.results24, go_sem, insV, q0, q1, q2, q3]) rfl (FIN.out ⟨2, v / 32 % 4, v / 32 % 4, v / 128 % 4⟩ (by simp [InsIn, InsOk, Rg]; try omega))
    go_wp2_with fail
    exact bodyPost_ret (v := insV ⟨2, v / 32 % 4, v / 32 % 4, v / 128 % 4⟩) (by simp [results, Tryz.results24, go_sem, insV, q0, q1, q2, q3]) rfl (FIN.out ⟨2, v / 32 % 4, v / 32 % 4, v / 128 % 4⟩ (by simp [InsIn, InsOk, Rg]; try omega))
end Go.Proofs.YtonndofbnhnkpaaGreat.Prg
