/- Tasks of package vm: what an instruction asks. -/
import Derived.Test.YtonndofbnhnkpaaVmF
import Derived.BigRegion
set_option linter.unusedVariables false
set_option linter.unusedSimpArgs false
set_option linter.unusedSectionVars false
namespace Go.Proofs.Ytonndofbnhnkpaa.VmA
open Go.RowKit Num KeyM KeyW StatW Blk
theorem fork_any (B : Nat) (t : Tk) (i : Ins) (w : World) (h : Is w B t) (ha : Rg i.a 4) (hb : Rg i.b 12) (hc : Rg i.c 8) (hk : chk t.key = true) (hd : t.depth ≤ 5) (hf : 0 ≤ t.forks) :
    Calls Try.prog 90 #[.pointer (some ⟨B, 0, none⟩), insV i] w fun e w' => e = .returned (actV (forkM t i).1) ∧ Is w' B (forkM t i).2 ∧ Ch (· = B) w w' := by
  unfold forkM
  by_cases h1 : t.depth ≤ dep t.key
  · rw [if_pos h1]; exact fork_deep B t i w h h1
  · rw [if_neg h1]
    by_cases h2 : 1000 ≤ t.forks
    · rw [if_pos h2]; exact fork_many B t i w h h1 h2
    · rw [if_neg h2]
      obtain ⟨op, a, b, c⟩ := i
      simp only [Rg] at ha hb hc
      obtain ⟨a, rfl⟩ := Int.eq_ofNat_of_zero_le ha.1
      obtain ⟨b, rfl⟩ := Int.eq_ofNat_of_zero_le hb.1
      obtain ⟨c, rfl⟩ := Int.eq_ofNat_of_zero_le hc.1
      exact fork_go B t op a b c w h h1 h2 hf hk (by omega) (by omega) (by omega) (by omega)
set_option maxRecDepth 100000 in
set_option maxHeartbeats 4000000 in
theorem ask_fork (B : Nat) (t : Tk) (i : Ins) (w : World) (h : Is w B t) (ho : i.op = 9) (ha : Rg i.a 4) (hb : Rg i.b 12) (hc : Rg i.c 8) (hk : chk t.key = true) (hd : t.depth ≤ 5) (hf : 0 ≤ t.forks) :
    Calls Try.prog 62 #[.pointer (some ⟨B, 0, none⟩), insV i] w fun e w' => e = .returned (actV (forkM t i).1) ∧ Is w' B (forkM t i).2 ∧ Ch (· = B) w w' := by
  have hI : ∀ w', Bl w w' → Is w' B t := fun w' => Is.bl h
  have hlt := h.lt
  obtain ⟨op, a, b, c⟩ := i
  obtain rfl : op = 9 := ho
  have hF := fun w' (hw : Bl w w') => fork_any B t ⟨9, a, b, c⟩ w' (hI w' hw) ha hb hc hk hd hf
  obtain ⟨r, hr⟩ : ∃ r, forkM t ⟨9, a, b, c⟩ = r := ⟨_, rfl⟩
  rw [hr] at hF ⊢
  clear h hI ha hb hc hk hd hf hr
  have hR := row4_alloc1 w (.cells #[.int .i64 9, .int .i64 a, .int .i64 b, .int .i64 c] 48) (.int .i64 0) (.int .i64 0) (.int .i64 0) (.int .i64 0) 56
  unfold insV at hF ⊢
  unfold actV at hF ⊢
  go_enter Try.func62, Try.ntmps62
  go_wp2_with (first | (go_at_call 90; with_reducible refine (hF _ (((Bl.refl _).alloc _).alloc _)).mono ?_; rintro e w2 ⟨rfl, h1, h2⟩; obtain ⟨⟨q0, q1, q2, q3⟩, g0, g1, g2, g3⟩ := row4_cells (h2.row hR (by omega))))
  have h1r : World.rowIs w2 B 113 35 _ := h1
  exact bodyPost_ret (v := actV r.1) (by simp [results, Try.results62, go_sem, actV, q0, q1, q2, q3]) rfl ⟨rfl, (by show World.rowIs _ _ _ _ _; repeat (first | with_reducible exact h1r | with_reducible apply World.rowIs.alloc | with_reducible apply World.rowIs.drew | (with_reducible refine row_setO ?_ (by omega) _))), (by repeat (first | (with_reducible refine Ch.setN ?_ (by omega) _) | with_reducible apply Ch.setB | with_reducible apply Ch.alloc | with_reducible apply Ch.drew | (with_reducible refine Ch.trans ?_ (by assumption)) | with_reducible exact Ch.of_bl (by repeat (first | with_reducible exact Bl.refl _ | with_reducible assumption | with_reducible apply Bl.drew | with_reducible apply Bl.drewN | with_reducible apply Bl.alloc | (with_reducible refine Bl.trans ?_ (by assumption))))))⟩
theorem row_four {w : World} {B : Nat} {t : TypeId} {a b c d a' b' c' d' : Value} (h : w.rowIs B t 4 (four a b c d)) : ((((w.setCell ⟨B, 0, none⟩ a').setCell ⟨B, 1, none⟩ b').setCell ⟨B, 2, none⟩ c').setCell ⟨B, 3, none⟩ d').rowIs B t 4 (four a' b' c' d') := by
  refine World.rowIs.congr ((((h.set 0 a').set 1 b').set 2 c').set 3 d') ?_
  repeat refine all_lt ?_ rfl
  exact all_none
set_option maxRecDepth 100000 in
set_option maxHeartbeats 4000000 in
theorem ask_join (B : Nat) (t : Tk) (a b : Nat) (c : Int) (w : World) (h : Is w B t) (ha : a < 8) (hb : b < 4) (h1 : (t.hands b).kind = 1) :
    Calls Try.prog 62 #[.pointer (some ⟨B, 0, none⟩), insV ⟨10, a, b, c⟩] w fun e w' => e = .returned (actV ⟨2, a, (t.hands b).handle, 0⟩) ∧ Is w' B (t.setHand b Hd.zero) ∧ Ch (· = B) w w' := by
  have c0 : w.cell? ⟨B, 17 + b * 4, none⟩ = some (.int .i64 (t.hands b).kind) := cell_hand h hb (f := 0) (by decide)
  have c1 : w.cell? ⟨B, 17 + b * 4 + 1, none⟩ = some (.int .i64 (t.hands b).handle) := cell_hand h hb (f := 1) (by decide)
  have c2 : w.cell? ⟨B, 17 + b * 4 + 2, none⟩ = some (.int .i64 (t.hands b).how) := cell_hand h hb (f := 2) (by decide)
  have c3 : w.cell? ⟨B, 17 + b * 4 + 3, none⟩ = some (.int .i64 (t.hands b).val) := cell_hand h hb (f := 3) (by decide)
  have f0 := h.frozen (17 + b * 4)
  have f1 := h.frozen (17 + b * 4 + 1)
  have f2 := h.frozen (17 + b * 4 + 2)
  have f3 := h.frozen (17 + b * 4 + 3)
  have HI : Hid (w.rowIs B 113 35 (tkF t)) := h
  have hlt := h.lt
  rw [h1] at c0
  have hb' : (b : Int) < 4 := by omega
  have hb'' : 0 ≤ (b : Int) := by omega
  have hl1 : B < w.heap.size + 1 := by omega
  have hl2 : B < w.heap.size + 1 + 1 := by omega
  have hl3 : B < w.heap.size + 2 := by omega
  clear h h1
  unfold insV
  go_enter Try.func62, Try.ntmps62
  go_wp2_with fail
  go_region
  go_wp2_with fail
  refine still_tail 7 (by kernel_rfl) (by kernel_rfl) ?_
  simp only [List.take_succ_cons, List.take_zero, List.drop_succ_cons, List.drop_zero]
  repeat still_step
  refine wpStill_nil ?_
  go_wp2_with fail
  exact bodyPost_ret (v := actV ⟨2, a, (t.hands b).handle, 0⟩) (by simp [results, Try.results62, go_sem, actV]) rfl ⟨rfl, is_hand (v := ⟨0, 0, 0, 0⟩) hb (by repeat (first | with_reducible exact HI.out | with_reducible apply World.rowIs.alloc | with_reducible apply World.rowIs.drew | with_reducible apply World.rowIs.set)), (by repeat (first | with_reducible exact Ch.refl _ _ | (with_reducible refine Ch.setN ?_ (by omega) _) | with_reducible apply Ch.setB | with_reducible apply Ch.alloc | with_reducible apply Ch.drew))⟩
set_option maxRecDepth 100000 in
set_option maxHeartbeats 4000000 in
theorem ask_join_no (B : Nat) (t : Tk) (a : Int) (b : Nat) (c : Int) (w : World) (h : Is w B t) (hb : b < 4) (h1 : ((t.hands b).kind == 1) = false) :
    Calls Try.prog 62 #[.pointer (some ⟨B, 0, none⟩), insV ⟨10, a, b, c⟩] w fun e w' => e = .returned (actV Act.zero) ∧ Bl w w' := by
  have hlt := h.lt
  have hl1 : B < w.heap.size + 1 := by omega
  have hl2 : B < w.heap.size + 1 + 1 := by omega
  have hl3 : B < w.heap.size + 2 := by omega
  have c0 : w.cell? ⟨B, 17 + b * 4, none⟩ = some (.int .i64 (t.hands b).kind) := cell_hand h hb (f := 0) (by decide)
  have c1 : w.cell? ⟨B, 17 + b * 4 + 1, none⟩ = some (.int .i64 (t.hands b).handle) := cell_hand h hb (f := 1) (by decide)
  have c2 : w.cell? ⟨B, 17 + b * 4 + 2, none⟩ = some (.int .i64 (t.hands b).how) := cell_hand h hb (f := 2) (by decide)
  have c3 : w.cell? ⟨B, 17 + b * 4 + 3, none⟩ = some (.int .i64 (t.hands b).val) := cell_hand h hb (f := 3) (by decide)
  have hb' : (b : Int) < 4 := by omega
  have hb'' : 0 ≤ (b : Int) := by omega
  clear h
  unfold insV
  go_enter Try.func62, Try.ntmps62
  go_wp2_with fail
  go_region
  go_wp2_with fail
  exact bodyPost_ret (v := actV Act.zero) (by simp [results, Try.results62, go_sem, actV, Act.zero]) rfl ⟨rfl, (by repeat (first | with_reducible exact Bl.refl _ | with_reducible assumption | with_reducible apply Bl.drew | with_reducible apply Bl.drewN | with_reducible apply Bl.alloc | (with_reducible refine Bl.trans ?_ (by assumption))))⟩
set_option maxRecDepth 100000 in
set_option maxHeartbeats 4000000 in
theorem ask_set (B : Nat) (t : Tk) (a : Int) (b : Nat) (c : Int) (w : World) (h : Is w B t) (hb : b < 8) :
    Calls Try.prog 62 #[.pointer (some ⟨B, 0, none⟩), insV ⟨11, a, b, c⟩] w fun e w' => e = .returned (actV ⟨3, a, t.regs b, 0⟩) ∧ Bl w w' := by
  have hlt := h.lt
  have hl1 : B < w.heap.size + 1 := by omega
  have hl2 : B < w.heap.size + 1 + 1 := by omega
  have hl3 : B < w.heap.size + 2 := by omega
  have c0 := cell_reg h hb
  have hb' : (b : Int) < 8 := by omega
  have hb'' : 0 ≤ (b : Int) := by omega
  clear h
  unfold insV
  go_enter Try.func62, Try.ntmps62
  go_wp2_with fail
  refine still_tail 10 (by kernel_rfl) (by kernel_rfl) ?_
  simp only [List.take_succ_cons, List.take_zero, List.drop_succ_cons, List.drop_zero]
  repeat still_step
  refine wpStill_nil ?_
  go_wp2_with fail
  exact bodyPost_ret (v := actV ⟨3, a, t.regs b, 0⟩) (by simp [results, Try.results62, go_sem, actV, Act.zero]) rfl ⟨rfl, (by repeat (first | with_reducible exact Bl.refl _ | with_reducible assumption | with_reducible apply Bl.drew | with_reducible apply Bl.drewN | with_reducible apply Bl.alloc | (with_reducible refine Bl.trans ?_ (by assumption))))⟩
set_option maxRecDepth 100000 in
set_option maxHeartbeats 4000000 in
theorem ask_get (B : Nat) (t : Tk) (a : Int) (b : Int) (c : Int) (w : World) (h : Is w B t)  :
    Calls Try.prog 62 #[.pointer (some ⟨B, 0, none⟩), insV ⟨12, a, b, c⟩] w fun e w' => e = .returned (actV ⟨4, a, b, 0⟩) ∧ Bl w w' := by
  have hlt := h.lt
  have hl1 : B < w.heap.size + 1 := by omega
  have hl2 : B < w.heap.size + 1 + 1 := by omega
  have hl3 : B < w.heap.size + 2 := by omega
  clear h
  unfold insV
  go_enter Try.func62, Try.ntmps62
  go_wp2_with fail
  exact bodyPost_ret (v := actV ⟨4, a, b, 0⟩) (by simp [results, Try.results62, go_sem, actV, Act.zero]) rfl ⟨rfl, (by repeat (first | with_reducible exact Bl.refl _ | with_reducible assumption | with_reducible apply Bl.drew | with_reducible apply Bl.drewN | with_reducible apply Bl.alloc | (with_reducible refine Bl.trans ?_ (by assumption))))⟩
set_option maxRecDepth 100000 in
set_option maxHeartbeats 4000000 in
theorem ask_cancel (B : Nat) (t : Tk) (a : Nat) (b : Int) (c : Int) (w : World) (h : Is w B t) (hb : a < 4) (h1 : ((t.hands a).kind == 1) = true) :
    Calls Try.prog 62 #[.pointer (some ⟨B, 0, none⟩), insV ⟨13, a, b, c⟩] w fun e w' => e = .returned (actV ⟨5, (t.hands a).handle, 0, 0⟩) ∧ Bl w w' := by
  have hlt := h.lt
  have hl1 : B < w.heap.size + 1 := by omega
  have hl2 : B < w.heap.size + 1 + 1 := by omega
  have hl3 : B < w.heap.size + 2 := by omega
  have c0 : w.cell? ⟨B, 17 + a * 4, none⟩ = some (.int .i64 (t.hands a).kind) := cell_hand h hb (f := 0) (by decide)
  have c1 : w.cell? ⟨B, 17 + a * 4 + 1, none⟩ = some (.int .i64 (t.hands a).handle) := cell_hand h hb (f := 1) (by decide)
  have c2 : w.cell? ⟨B, 17 + a * 4 + 2, none⟩ = some (.int .i64 (t.hands a).how) := cell_hand h hb (f := 2) (by decide)
  have c3 : w.cell? ⟨B, 17 + a * 4 + 3, none⟩ = some (.int .i64 (t.hands a).val) := cell_hand h hb (f := 3) (by decide)
  have hb' : (a : Int) < 4 := by omega
  have hb'' : 0 ≤ (a : Int) := by omega
  clear h
  unfold insV
  go_enter Try.func62, Try.ntmps62
  go_wp2_with fail
  go_region
  go_wp2_with fail
  exact bodyPost_ret (v := actV ⟨5, (t.hands a).handle, 0, 0⟩) (by simp [results, Try.results62, go_sem, actV, Act.zero]) rfl ⟨rfl, (by repeat (first | with_reducible exact Bl.refl _ | with_reducible assumption | with_reducible apply Bl.drew | with_reducible apply Bl.drewN | with_reducible apply Bl.alloc | (with_reducible refine Bl.trans ?_ (by assumption))))⟩
set_option maxRecDepth 100000 in
set_option maxHeartbeats 4000000 in
theorem ask_cancel_no (B : Nat) (t : Tk) (a : Nat) (b : Int) (c : Int) (w : World) (h : Is w B t) (hb : a < 4) (h1 : ((t.hands a).kind == 1) = false) :
    Calls Try.prog 62 #[.pointer (some ⟨B, 0, none⟩), insV ⟨13, a, b, c⟩] w fun e w' => e = .returned (actV Act.zero) ∧ Bl w w' := by
  have hlt := h.lt
  have hl1 : B < w.heap.size + 1 := by omega
  have hl2 : B < w.heap.size + 1 + 1 := by omega
  have hl3 : B < w.heap.size + 2 := by omega
  have c0 : w.cell? ⟨B, 17 + a * 4, none⟩ = some (.int .i64 (t.hands a).kind) := cell_hand h hb (f := 0) (by decide)
  have c1 : w.cell? ⟨B, 17 + a * 4 + 1, none⟩ = some (.int .i64 (t.hands a).handle) := cell_hand h hb (f := 1) (by decide)
  have c2 : w.cell? ⟨B, 17 + a * 4 + 2, none⟩ = some (.int .i64 (t.hands a).how) := cell_hand h hb (f := 2) (by decide)
  have c3 : w.cell? ⟨B, 17 + a * 4 + 3, none⟩ = some (.int .i64 (t.hands a).val) := cell_hand h hb (f := 3) (by decide)
  have hb' : (a : Int) < 4 := by omega
  have hb'' : 0 ≤ (a : Int) := by omega
  clear h
  unfold insV
  go_enter Try.func62, Try.ntmps62
  go_wp2_with fail
  go_region
  go_wp2_with fail
  exact bodyPost_ret (v := actV Act.zero) (by simp [results, Try.results62, go_sem, actV, Act.zero]) rfl ⟨rfl, (by repeat (first | with_reducible exact Bl.refl _ | with_reducible assumption | with_reducible apply Bl.drew | with_reducible apply Bl.drewN | with_reducible apply Bl.alloc | (with_reducible refine Bl.trans ?_ (by assumption))))⟩
set_option maxRecDepth 100000 in
set_option maxHeartbeats 4000000 in
theorem ask_yield (B : Nat) (t : Tk) (a : Int) (b : Int) (c : Int) (w : World) (h : Is w B t)  :
    Calls Try.prog 62 #[.pointer (some ⟨B, 0, none⟩), insV ⟨14, a, b, c⟩] w fun e w' => e = .returned (actV ⟨6, 0, 0, 0⟩) ∧ Bl w w' := by
  have hlt := h.lt
  have hl1 : B < w.heap.size + 1 := by omega
  have hl2 : B < w.heap.size + 1 + 1 := by omega
  have hl3 : B < w.heap.size + 2 := by omega
  clear h
  unfold insV
  go_enter Try.func62, Try.ntmps62
  go_wp2_with fail
  exact bodyPost_ret (v := actV ⟨6, 0, 0, 0⟩) (by simp [results, Try.results62, go_sem, actV, Act.zero]) rfl ⟨rfl, (by repeat (first | with_reducible exact Bl.refl _ | with_reducible assumption | with_reducible apply Bl.drew | with_reducible apply Bl.drewN | with_reducible apply Bl.alloc | (with_reducible refine Bl.trans ?_ (by assumption))))⟩
set_option maxRecDepth 100000 in
set_option maxHeartbeats 4000000 in
theorem ask_none (B : Nat) (t : Tk) (op a b c : Int) (w : World) (h : Is w B t) (h9 : (op == 9) = false) (h10 : (op == 10) = false) (h11 : (op == 11) = false) (h12 : (op == 12) = false) (h13 : (op == 13) = false) (h14 : (op == 14) = false) :
    Calls Try.prog 62 #[.pointer (some ⟨B, 0, none⟩), insV ⟨op, a, b, c⟩] w fun e w' => e = .returned (actV Act.zero) ∧ Bl w w' := by
  have hlt := h.lt
  have hl1 : B < w.heap.size + 1 := by omega
  have hl2 : B < w.heap.size + 1 + 1 := by omega
  have hl3 : B < w.heap.size + 2 := by omega
  clear h
  unfold insV
  go_enter Try.func62, Try.ntmps62
  go_wp2_with fail
  exact bodyPost_ret (v := actV Act.zero) (by simp [results, Try.results62, go_sem, actV, Act.zero]) rfl ⟨rfl, (by repeat (first | with_reducible exact Bl.refl _ | with_reducible assumption | with_reducible apply Bl.drew | with_reducible apply Bl.drewN | with_reducible apply Bl.alloc | (with_reducible refine Bl.trans ?_ (by assumption))))⟩
theorem ask_any (B : Nat) (t : Tk) (i : Ins) (w : World) (h : Is w B t) (hi : InsOk i) (hk : chk t.key = true) (hd : t.depth ≤ 5) (hf : 0 ≤ t.forks) :
    Calls Try.prog 62 #[.pointer (some ⟨B, 0, none⟩), insV i] w fun e w' => e = .returned (actV (askM t i).1) ∧ Is w' B (askM t i).2 ∧ Ch (· = B) w w' := by
  have hQ : ∀ {x : Act}, Calls Try.prog 62 #[.pointer (some ⟨B, 0, none⟩), insV i] w (fun e w' => e = .returned (actV x) ∧ Bl w w') →
      Calls Try.prog 62 #[.pointer (some ⟨B, 0, none⟩), insV i] w fun e w' => e = .returned (actV x) ∧ Is w' B t ∧ Ch (· = B) w w' :=
    fun c => c.mono fun _ _ ⟨h1, h2⟩ => ⟨h1, Is.bl h h2, Ch.of_bl h2⟩
  have hN : i.op ≠ 9 → i.op ≠ 10 → i.op ≠ 11 → i.op ≠ 12 → i.op ≠ 13 → i.op ≠ 14 → Calls Try.prog 62 #[.pointer (some ⟨B, 0, none⟩), insV i] w fun e w' => e = .returned (actV (askM t i).1) ∧ Is w' B (askM t i).2 ∧ Ch (· = B) w w' := by
    intro g1 g2 g3 g4 g5 g6
    unfold askM
    rw [if_neg g1, if_neg g2, if_neg g3, if_neg g4, if_neg g5, if_neg g6]
    exact hQ (ask_none B t i.op i.a i.b i.c w h (by simpa using g1) (by simpa using g2) (by simpa using g3) (by simpa using g4) (by simpa using g5) (by simpa using g6))
  obtain ⟨op, a, b, c⟩ := i
  simp only [InsOk, Rg] at hi
  rcases hi with ⟨rfl, _⟩ | ⟨g, _⟩ | ⟨rfl, _⟩ | ⟨rfl, _⟩ | ⟨rfl, ha, hb, hc⟩ | ⟨rfl, ha, hb, _⟩ | ⟨rfl, ha, hb, _⟩ | ⟨rfl, ha, hb, _⟩ | ⟨rfl, ha, _⟩ | ⟨rfl, _⟩ | ⟨rfl, _⟩
  · simp only [] at hN
    exact hN (by omega) (by omega) (by omega) (by omega) (by omega) (by omega)
  · simp only [] at hN
    exact hN (by omega) (by omega) (by omega) (by omega) (by omega) (by omega)
  · simp only [] at hN
    exact hN (by omega) (by omega) (by omega) (by omega) (by omega) (by omega)
  · simp only [] at hN
    exact hN (by omega) (by omega) (by omega) (by omega) (by omega) (by omega)
  · exact ask_fork B t ⟨9, a, b, c⟩ w h rfl ha hb hc hk hd hf
  · obtain ⟨a, rfl⟩ := Int.eq_ofNat_of_zero_le ha.1
    obtain ⟨b, rfl⟩ := Int.eq_ofNat_of_zero_le hb.1
    show Calls Try.prog 62 _ w fun e w' => e = .returned (actV (if (t.hands b).kind = 1 then ((⟨2, a, (t.hands b).handle, 0⟩ : Act), t.setHand b Hd.zero) else (Act.zero, t)).1) ∧ Is w' B (if (t.hands b).kind = 1 then ((⟨2, a, (t.hands b).handle, 0⟩ : Act), t.setHand b Hd.zero) else (Act.zero, t)).2 ∧ Ch (· = B) w w'
    by_cases g : (t.hands b).kind = 1
    · rw [if_pos g]
      exact ask_join B t a b c w h (by omega) (by omega) g
    · rw [if_neg g]
      exact hQ (ask_join_no B t a b c w h (by omega) (by simpa using g))
  · obtain ⟨b, rfl⟩ := Int.eq_ofNat_of_zero_le hb.1
    exact hQ (ask_set B t a b c w h (by omega))
  · exact hQ (ask_get B t a b c w h)
  · obtain ⟨a, rfl⟩ := Int.eq_ofNat_of_zero_le ha.1
    show Calls Try.prog 62 _ w fun e w' => e = .returned (actV (if (t.hands a).kind = 1 then ((⟨5, (t.hands a).handle, 0, 0⟩ : Act), t) else (Act.zero, t)).1) ∧ Is w' B (if (t.hands a).kind = 1 then ((⟨5, (t.hands a).handle, 0, 0⟩ : Act), t) else (Act.zero, t)).2 ∧ Ch (· = B) w w'
    by_cases g : (t.hands a).kind = 1
    · rw [if_pos g]
      exact hQ (ask_cancel B t a b c w h (by omega) (by simpa using g))
    · rw [if_neg g]
      exact hQ (ask_cancel_no B t a b c w h (by omega) (by simpa using g))
  · exact hQ (ask_yield B t a b c w h)
  · simp only [] at hN
    exact hN (by omega) (by omega) (by omega) (by omega) (by omega) (by omega)
end Go.Proofs.Ytonndofbnhnkpaa.VmA
