/- The awake of the statements of package vm. -/
import Derived.Test.YtonndofbnhnkpaaVmN
import Derived.Test.YtonndofbnhnkpaaVmB
set_option linter.unusedVariables false
set_option linter.unusedSimpArgs false
set_option linter.unusedSectionVars false
namespace Go.Proofs.Ytonndofbnhnkpaa.VmA
open Go.RowKit Num KeyM KeyW StatW Blk
theorem CodeAt.bl {K : Nat} {w w' : World} {pa : Option Addr} {fs : List (List Ins)} (h : CodeAt K w pa fs) (hc : Bl w w') : CodeAt K w' pa fs :=
  h.later (S := fun _ => False) (Ch.of_bl hc) (fun _ _ h => h)
theorem CodeAt.on {K B : Nat} {w w' : World} {pa : Option Addr} {fs : List (List Ins)} (h : CodeAt K w pa fs) (hc : Ch (· = B) w w') (hB : K ≤ B) : CodeAt K w' pa fs :=
  h.later hc (fun i hi (e : i = B) => by omega)
/-- A task that begins. -/
def tk0 (pa : Option Addr) (pl pc : Nat) (futs depth fuel fn arg key : Int) : Tk := ⟨pa, pl, pc, futs, depth, fuel, fn, 0, fuel, 0, key, fun j => if j = 0 then wrap32 arg else 0, fun _ => Hd.zero, 0, 0⟩
theorem field_act (a b c d : Int) (w : World) : (Instr.field 56 (.agg #[.int .i64 a, .int .i64 b, .int .i64 c, .int .i64 d]) 0).run Try.prog w = .ok (.int .i64 a) w := by kernel_rfl
set_option maxRecDepth 100000 in
set_option maxHeartbeats 4000000 in
theorem awake_any (w : World) : Calls Try.prog 33 #[] w fun e w' => e = .returned (.bool true) ∧ Bl w w' := by
  have hcode := code_one w [⟨15, 0, 0, 0⟩]
  have hr1 : chk 1125899906842624 = true := by decide +kernel
  have hN := fun a w => new_any a 1 1 0 0 2 0 5 1125899906842624 w
  have hfl := field_act
  go_enter Try.func33, Try.ntmps33
  go_wp2_with fail
  refine (hN _ _).mono ?_
  rintro e w1 ⟨g, rfl, hg, hI, hb⟩
  have hc1 := hcode.bl hb
  simp at hg
  obtain ⟨t1, ht1⟩ : ∃ t1, tk0 (some ⟨w.heap.size + 1, 0, none⟩) 1 1 0 0 2 0 5 1125899906842624 = t1 := ⟨_, rfl⟩
  have hI : Is w1 g t1 := by rw [← ht1]; exact hI
  have hS := next_step (w.heap.size + 2) g t1 [[⟨15, 0, 0, 0⟩]] [⟨15, 0, 0, 0⟩] ⟨15, 0, 0, 0⟩ 0 0 w1 hI (by rw [← ht1]; exact hc1) hg (by rw [← ht1]; rfl) rfl (by rw [← ht1]; rfl) (by rw [← ht1]; rfl) rfl (by decide) (by rw [← ht1]; rfl) (by rw [← ht1]; simp [tk0]) (by rw [← ht1]; simp [tk0]) (by simp [InsOk, Rg]) (by rw [← ht1]; exact hr1) (by rw [← ht1]; simp [tk0]) (by rw [← ht1]; simp [tk0])
  obtain ⟨t2, ht2⟩ : ∃ t2, (stepM t1 ⟨15, 0, 0, 0⟩).2 = t2 := ⟨_, rfl⟩
  have hs1 : (stepM t1 ⟨15, 0, 0, 0⟩).1 = Act.zero := by rw [← ht1]; kernel_rfl
  have h21 : t2.how = 1 := by rw [← ht2, ← ht1]; kernel_rfl
  have h22 : t2.val = 5 := by rw [← ht2, ← ht1]; kernel_rfl
  have h23 : endB t2 = true := by rw [← ht2, ← ht1]; kernel_rfl
  rw [hs1, ht2] at hS
  unfold actV at hS
  simp only [Act.zero] at hS
  have HC := Lib.hid hcode
  clear hcode hc1 hN hr1 hs1 ht1 ht2
  go_wp2_with fail
  refine hS.mono ?_
  rintro e w2 ⟨rfl, hI2, hC2⟩
  have hE := end_any g t2 w2 hI2
  rw [h21, h22, h23] at hE
  have hI3 := fun w' (k : Bl w2 w') => hI2.bl k
  have hO := fun w' (k : Bl w2 w') => next_over g t2 w' (hI3 w' k) h23
  unfold actV at hO
  simp only at hO
  go_wp2_with fail
  refine hE.mono ?_
  rintro e w3 ⟨rfl, hb3⟩
  go_wp2_with fail
  refine (hO _ (Bl.alloc hb3 _)).mono ?_
  rintro e w4 ⟨rfl, hI4, hC4⟩
  go_wp2_with fail
  go_ret
  refine ⟨rfl, ?_⟩
  have e1 : Ch (fun i => i = g ∧ w.heap.size ≤ i) w w1 := Ch.of_bl (Bl.trans (((Bl.refl _).alloc _).alloc _) hb)
  have e2 : Ch (fun i => w.heap.size ≤ i) w w2 := (e1.mono (fun i _ h => h.2)).then hC2 (fun i hi h => by subst h; omega)
  have e3 : Ch (fun i => w.heap.size ≤ i) w w4 := (e2.trans (Ch.of_bl (hb3.alloc _))).then hC4 (fun i hi h => by subst h; omega)
  exact e3.bl (fun i hi h => by omega)
end Go.Proofs.Ytonndofbnhnkpaa.VmA
