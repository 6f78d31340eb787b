/- Tasks of package vm: the next instruction. -/
import Derived.Test.YtonndofbnhnkpaaVmD
set_option linter.unusedVariables false
set_option linter.unusedSimpArgs false
set_option linter.unusedSectionVars false
namespace Go.Proofs.Ytonndofbnhnkpaa.VmA
open Go.RowKit Num KeyM KeyW StatW Blk
theorem rows_at (w : World) (p1 p2 : Addr) (v1 v2 a b c d e f g h : Value) (t u : TypeId) :
    ((((w.setCell p1 v1).setCell p2 v2).alloc (.cells #[a, b, c, d] t)).alloc (.cells #[e, f, g, h] u)).drew.rowIs w.heap.size t 4 (four a b c d) ∧
    ((((w.setCell p1 v1).setCell p2 v2).alloc (.cells #[a, b, c, d] t)).alloc (.cells #[e, f, g, h] u)).drew.rowIs (w.heap.size + 1) u 4 (four e f g h) := by
  have hs : ((w.setCell p1 v1).setCell p2 v2).heap.size = w.heap.size := by simp [World.setCell]
  have h1 := row4_alloc ((w.setCell p1 v1).setCell p2 v2) a b c d t
  have h2 := row4_alloc1 ((w.setCell p1 v1).setCell p2 v2) (.cells #[a, b, c, d] t) e f g h u
  rw [hs] at h1 h2
  exact ⟨World.rowIs.drew (World.rowIs.alloc h1 _), World.rowIs.drew h2⟩
theorem do_any (B : Nat) (t : Tk) (i : Ins) (w : World) (h : Is w B t) (hi : InsOk i) :
    Calls Try.prog 63 #[.pointer (some ⟨B, 0, none⟩), insV i] w fun e w' => e = .returned (.tuple #[]) ∧ Is w' B (doM t i) ∧ Ch (· = B) w w' := by
  obtain ⟨op, a, b, c⟩ := i
  simp only [InsOk, Rg] at hi
  rcases hi with ⟨rfl, ha, _⟩ | ⟨g, ha, hb, hc⟩ | ⟨rfl, ha, _⟩ | ⟨rfl, ha, hb, _⟩ | ⟨rfl, _⟩ | ⟨rfl, ha, hb, _⟩ | ⟨rfl, _⟩ | ⟨rfl, _⟩ | ⟨rfl, ha, _⟩ | ⟨rfl, _⟩ | ⟨rfl, ha, _⟩
  · obtain ⟨a, rfl⟩ := Int.eq_ofNat_of_zero_le ha.1
    exact do_const B t a b c w h (by omega)
  · obtain ⟨a, rfl⟩ := Int.eq_ofNat_of_zero_le ha.1
    obtain ⟨b, rfl⟩ := Int.eq_ofNat_of_zero_le hb.1
    obtain ⟨c, rfl⟩ := Int.eq_ofNat_of_zero_le hc.1
    rcases g with rfl | rfl | rfl | rfl | rfl
    · exact do_add B t a b c w h (by omega) (by omega) (by omega)
    · exact do_sub B t a b c w h (by omega) (by omega) (by omega)
    · exact do_mul B t a b c w h (by omega) (by omega) (by omega)
    · show Calls Try.prog 63 _ w fun e w' => e = .returned (.tuple #[]) ∧ Is w' B (if wrap32 (t.regs c) = 0 then t.stop 2 else t.setReg a (divq (t.regs b) (t.regs c))) ∧ Ch (· = B) w w'
      by_cases g : wrap32 (t.regs c) = 0
      · rw [if_pos g]; exact do_div_no B t a b c w h (by omega) (by omega) (by simpa using g)
      · rw [if_neg g]; exact do_div B t a b c w h (by omega) (by omega) (by omega) (by simpa using g)
    · exact do_less B t a b c w h (by omega) (by omega) (by omega)
  · obtain ⟨a, rfl⟩ := Int.eq_ofNat_of_zero_le ha.1
    exact do_jump B t a b c w h
  · obtain ⟨a, rfl⟩ := Int.eq_ofNat_of_zero_le ha.1
    obtain ⟨b, rfl⟩ := Int.eq_ofNat_of_zero_le hb.1
    show Calls Try.prog 63 _ w fun e w' => e = .returned (.tuple #[]) ∧ Is w' B (if t.regs a = 0 then { t with place := (b : Int) } else t) ∧ Ch (· = B) w w'
    by_cases g : t.regs a = 0
    · rw [if_pos g]; exact do_zero_yes B t a b c w h (by omega) g
    · rw [if_neg g]; exact do_zero_no B t a b c w h (by omega) (by simpa using g)
  · exact do_none B t 9 a b c w h (by decide) (by decide) (by decide) (by decide) (by decide) (by decide) (by decide) (by decide) (by decide) (by decide) (by decide)
  · obtain ⟨a, rfl⟩ := Int.eq_ofNat_of_zero_le ha.1
    obtain ⟨b, rfl⟩ := Int.eq_ofNat_of_zero_le hb.1
    show Calls Try.prog 63 _ w fun e w' => e = .returned (.tuple #[]) ∧ Is w' B (if (t.hands b).kind = 0 then (t.setHand b Hd.zero).stop 7 else (t.setHand b Hd.zero).joined a (t.hands b).how (t.hands b).val) ∧ Ch (· = B) w w'
    by_cases g : (t.hands b).kind = 0
    · rw [if_pos g]; exact do_join_no B t a b c w h (by omega) g
    · rw [if_neg g]; exact do_join B t a b c w h (by omega) (by omega) (by simpa using g)
  · exact do_none B t 11 a b c w h (by decide) (by decide) (by decide) (by decide) (by decide) (by decide) (by decide) (by decide) (by decide) (by decide) (by decide)
  · exact do_none B t 12 a b c w h (by decide) (by decide) (by decide) (by decide) (by decide) (by decide) (by decide) (by decide) (by decide) (by decide) (by decide)
  · obtain ⟨a, rfl⟩ := Int.eq_ofNat_of_zero_le ha.1
    show Calls Try.prog 63 _ w fun e w' => e = .returned (.tuple #[]) ∧ Is w' B (if (t.hands a).kind = 0 then t.stop 7 else t) ∧ Ch (· = B) w w'
    by_cases g : (t.hands a).kind = 0
    · rw [if_pos g]; exact do_cancel_no B t a b c w h (by omega) g
    · rw [if_neg g]; exact do_cancel B t a b c w h (by omega) (by simpa using g)
  · exact do_none B t 14 a b c w h (by decide) (by decide) (by decide) (by decide) (by decide) (by decide) (by decide) (by decide) (by decide) (by decide) (by decide)
  · obtain ⟨a, rfl⟩ := Int.eq_ofNat_of_zero_le ha.1
    exact do_ret B t a b c w h (by omega)
theorem forkM_kind (t : Tk) (i : Ins) : (forkM t i).1 = Act.zero ∨ (forkM t i).1.kind = 1 := by
  unfold forkM; repeat' split
  all_goals simp
theorem askM_kind (t : Tk) (i : Ins) : (askM t i).1 = Act.zero ∨ 1 ≤ (askM t i).1.kind ∧ (askM t i).1.kind ≤ 6 := by
  unfold askM
  have := forkM_kind t i
  repeat' split
  all_goals first | (simp; done) | (rcases this with h | h <;> simp [h])
set_option maxRecDepth 100000 in
set_option maxHeartbeats 4000000 in
theorem next_over (B : Nat) (t : Tk) (w : World) (h : Is w B t) (he : endB t = true) :
    Calls Try.prog 30 #[.pointer (some ⟨B, 0, none⟩)] w fun e w' => e = .returned (actV ⟨7, 0, 0, 0⟩) ∧ Is w' B t ∧ Ch (· = B) w w' := by
  have hI : ∀ w', Bl w w' → Is w' B t := fun w' => Is.bl h
  have hE := fun w' (hw : Bl w w') => ended_any B t w' (hI w' hw)
  rw [he] at hE
  clear h he
  go_enter Try.func30, Try.ntmps30
  go_wp2_with (first | (go_at_call 60; with_reducible refine (hE _ ((Bl.refl _).alloc _)).mono ?_; rintro e w2 ⟨rfl, rfl⟩))
  exact bodyPost_ret (v := actV ⟨7, 0, 0, 0⟩) (by simp [results, Try.results30, go_sem, actV]) rfl ⟨rfl, hI _ ((Bl.refl _).alloc _), Ch.of_bl ((Bl.refl _).alloc _)⟩
set_option maxRecDepth 100000 in
set_option maxHeartbeats 4000000 in
theorem next_fuel (B : Nat) (t : Tk) (w : World) (h : Is w B t) (he : endB t = false) (hf : t.fuel = 0) :
    Calls Try.prog 30 #[.pointer (some ⟨B, 0, none⟩)] w fun e w' => e = .returned (actV Act.zero) ∧ Is w' B (t.stop 5) ∧ Ch (· = B) w w' := by
  have hI : ∀ w', Bl w w' → Is w' B t := fun w' => Is.bl h
  have hE := fun w' (hw : Bl w w') => ended_any B t w' (hI w' hw)
  have hS := fun w' (hw : Bl w w') => stop_any B t 5 w' (hI w' hw)
  have c6 : w.cell? ⟨B, 6, none⟩ = some (.int .i64 t.fuel) := h.cell (i := 6) (by omega)
  have hlt := h.lt
  have hR := row4_alloc w (.int .i64 0) (.int .i64 0) (.int .i64 0) (.int .i64 0) 56
  rw [he] at hE
  rw [hf] at c6
  clear h he hf
  go_enter Try.func30, Try.ntmps30
  go_wp2_with (first | (go_at_call 60; with_reducible refine (hE _ ((Bl.refl _).alloc _)).mono ?_; rintro e w2 ⟨rfl, rfl⟩) | (go_at_call 61; with_reducible refine (hS _ ((Bl.refl _).alloc _)).mono ?_; rintro e w2 ⟨rfl, h1, h2⟩; obtain ⟨⟨q0, q1, q2, q3⟩, g0, g1, g2, g3⟩ := row4_cells (h2.row hR (by omega))))
  have h1r : World.rowIs w2 B 113 35 _ := h1
  have hC : Ch (· = B) w w2 := (Ch.of_bl ((Bl.refl _).alloc _)).trans h2
  exact bodyPost_ret (v := actV Act.zero) (by simp [results, Try.results30, go_sem, actV, Act.zero, q0, q1, q2, q3]) rfl ⟨rfl, is_of_row (by repeat (first | with_reducible exact h1r | (with_reducible refine row_setO ?_ (by omega) _))), by repeat (first | with_reducible exact hC | (with_reducible refine Ch.setN ?_ (by omega) _))⟩
set_option maxRecDepth 100000 in
set_option maxHeartbeats 4000000 in
theorem next_step (K B : Nat) (t : Tk) (fs : List (List Ins)) (f : List Ins) (i : Ins) (n p : Nat) (w : World) (h : Is w B t) (hc : CodeAt K w t.pa fs) (hKB : K ≤ B) (hfn : t.fn = n) (hfs : fs[n]? = some f) (hpl : t.pl = fs.length)
    (hp : t.place = p) (hf : f[p]? = some i) (hp0 : p ≤ 1000000) (he : endB t = false) (hf0 : 0 < t.fuel) (hf1 : t.fuel ≤ 1000000) (hi : InsOk i) (hk : chk t.key = true) (hd : t.depth ≤ 5) (hfo : 0 ≤ t.forks) :
    Calls Try.prog 30 #[.pointer (some ⟨B, 0, none⟩)] w fun e w' => e = .returned (actV (stepM t i).1) ∧ Is w' B (stepM t i).2 ∧ Ch (· = B) w w' := by
  have hI : ∀ w', Bl w w' → Is w' B t := fun w' => Is.bl h
  have hE := fun w' (hw : Bl w w') => ended_any B t w' (hI w' hw)
  rw [he] at hE
  have c0 : w.cell? ⟨B, 0, none⟩ = some (.slice t.pa t.pl t.pc) := h.cell (i := 0) (by omega)
  have c4 : w.cell? ⟨B, 4, none⟩ = some (.int .i64 t.fn) := h.cell (i := 4) (by omega)
  have c5 : w.cell? ⟨B, 5, none⟩ = some (.int .i64 t.place) := h.cell (i := 5) (by omega)
  have c6 : w.cell? ⟨B, 6, none⟩ = some (.int .i64 t.fuel) := h.cell (i := 6) (by omega)
  have f5 := h.frozen 5
  have f6 := h.frozen 6
  have HI : Hid (w.rowIs B 113 35 (tkF t)) := h
  obtain ⟨b, off, hpa, hbK, fa, fc, d0, hd'⟩ := hc n f hfs
  obtain ⟨b', off', hfa, hbK', d1, d2, d3, d4⟩ := hd' p i hf
  have hnl : n < fs.length := (List.getElem?_eq_some_iff.1 hfs).1
  have hpl' : p < f.length := (List.getElem?_eq_some_iff.1 hf).1
  rw [hpa, hpl] at c0
  rw [hfn] at c4
  rw [hp] at c5
  rw [hfa] at d0
  have hlt := h.lt
  have hb1 : b ≠ B := by omega
  have hb2 : b' ≠ B := by omega
  have hb3 := lt_of_cell d0
  have hb4 := lt_of_cell d1
  have hn1 : (n : Int) < (fs.length : Int) := by omega
  have hp1 : (p : Int) < (f.length : Int) := by omega
  simp only at hb3 hb4
  have hl1 : B < w.heap.size + 1 := by omega
  have hl2 : b < w.heap.size + 1 := by omega
  have hl3 : b' < w.heap.size + 1 := by omega
  obtain ⟨t1, ht1⟩ : ∃ t1 : Tk, t1 = { t with fuel := t.fuel - 1, place := (p : Int) + 1 } := ⟨_, rfl⟩
  have hS : stepM t i = if (askM t1 i).1.kind = 0 then (Act.zero, doM (askM t1 i).2 i) else askM t1 i := by unfold stepM; rw [hp, ← ht1]
  have hA := fun w' (hw : Is w' B t1) => ask_any B t1 i w' hw hi (by rw [ht1]; exact hk) (by rw [ht1]; exact hd) (by rw [ht1]; exact hfo)
  have hAk := askM_kind t1 i
  obtain ⟨⟨⟨rk, ra, rb, rc⟩, r2⟩, hr⟩ : ∃ r, askM t1 i = r := ⟨_, rfl⟩
  rw [hr] at hA hAk hS
  have hD := fun w' (hw : Is w' B r2) => do_any B r2 i w' hw hi
  rw [hS]
  simp only at hA hAk hD ⊢
  have hT : ∀ w', w'.rowIs B 113 35 (fun j => if j = 5 then .int .i64 ((p : Int) + 1) else if j = 6 then .int .i64 (t.fuel - 1) else tkF t j) → Is w' B t1 := fun w' hw => by
    rw [ht1]
    exact is_place (t := { t with fuel := t.fuel - 1 }) (World.rowIs.congr hw (by repeat (first | exact all_none | refine all_lt ?_ rfl)))
  have hR := row4_alloc w (.int .i64 0) (.int .i64 0) (.int .i64 0) (.int .i64 0) 56
  clear h hc hfs hpl hfn hp hf he hd' hpa hfa hi hk hd hfo hr ht1 hS
  obtain ⟨op, ia, ib, ic⟩ := i
  unfold insV actV at *
  rcases hAk with hz | ⟨hz1, hz2⟩
  · obtain ⟨rfl, rfl, rfl, rfl⟩ : rk = 0 ∧ ra = 0 ∧ rb = 0 ∧ rc = 0 := by simpa [Act.zero] using hz
    rw [if_pos rfl]
    clear hz
    go_enter Try.func30, Try.ntmps30
    go_wp2_with (first | (go_at_call 60; with_reducible refine (hE _ ((Bl.refl _).alloc _)).mono ?_; rintro e w2 ⟨rfl, rfl⟩))
    go_region
    go_wp2_with (first | (go_at_call 62; with_reducible refine (hA _ (hT _ (by repeat (first | with_reducible exact HI.out | with_reducible apply World.rowIs.alloc | with_reducible apply World.rowIs.drew | with_reducible apply row_drewN | with_reducible apply World.rowIs.set | (with_reducible refine row_setO ?_ (by omega) _))))).mono ?_; rintro e w2 ⟨rfl, h1, h2⟩; have r56 := h2.row (rows_at _ _ _ _ _ _ _ _ _ _ _ _ _ _ _).1 (by omega); have r48 := h2.row (rows_at _ _ _ _ _ _ _ _ _ _ _ _ _ _ _).2 (by omega); have hC2 : Ch (· = B) w w2 := Ch.trans (by repeat (first | with_reducible exact Ch.refl _ _ | with_reducible apply Ch.setB | with_reducible apply Ch.alloc | with_reducible apply Ch.drew | with_reducible apply Ch.drewN)) h2; obtain ⟨⟨q0, q1, q2, q3⟩, g0, g1, g2, g3⟩ := row4_cells r56; obtain ⟨⟨p0, p1, p2, p3⟩, _⟩ := row4_cells r48; have hz := r48.lt; have hz0 := r56.lt; clear h2) | (go_at_call 63; with_reducible refine (hD _ (Is.bl h1 ((Bl.refl _).alloc _))).mono ?_; rintro e w3 ⟨rfl, h3, h4⟩; have r5 := h4.row (World.rowIs.alloc r56 _) (by omega); obtain ⟨⟨k0, k1, k2, k3⟩, l0, l1, l2, l3⟩ := row4_cells r5; have hC3 : Ch (· = B) w w3 := Ch.trans (Ch.alloc hC2 _) h4))
    have h3r : World.rowIs w3 B 113 35 _ := h3
    exact bodyPost_ret (v := actV Act.zero) (by simp [results, Try.results30, go_sem, actV, Act.zero, k0, k1, k2, k3]) rfl ⟨rfl, is_of_row (by repeat (first | with_reducible exact h3r | (with_reducible refine row_setO ?_ (by omega) _))), by repeat (first | with_reducible exact hC3 | (with_reducible refine Ch.setN ?_ (by omega) _))⟩
  · have hz3 : (rk == 0) = false := by simp; omega
    rw [if_neg (by omega)]
    go_enter Try.func30, Try.ntmps30
    go_wp2_with (first | (go_at_call 60; with_reducible refine (hE _ ((Bl.refl _).alloc _)).mono ?_; rintro e w2 ⟨rfl, rfl⟩))
    go_region
    go_wp2_with (first | (go_at_call 62; with_reducible refine (hA _ (hT _ (by repeat (first | with_reducible exact HI.out | with_reducible apply World.rowIs.alloc | with_reducible apply World.rowIs.drew | with_reducible apply row_drewN | with_reducible apply World.rowIs.set | (with_reducible refine row_setO ?_ (by omega) _))))).mono ?_; rintro e w2 ⟨rfl, h1, h2⟩; have r56 := h2.row (rows_at _ _ _ _ _ _ _ _ _ _ _ _ _ _ _).1 (by omega); have r48 := h2.row (rows_at _ _ _ _ _ _ _ _ _ _ _ _ _ _ _).2 (by omega); have hC2 : Ch (· = B) w w2 := Ch.trans (by repeat (first | with_reducible exact Ch.refl _ _ | with_reducible apply Ch.setB | with_reducible apply Ch.alloc | with_reducible apply Ch.drew | with_reducible apply Ch.drewN)) h2; obtain ⟨⟨q0, q1, q2, q3⟩, g0, g1, g2, g3⟩ := row4_cells r56; obtain ⟨⟨p0, p1, p2, p3⟩, _⟩ := row4_cells r48; have hz := r48.lt; have hz0 := r56.lt; clear h2))
    have h1r : World.rowIs w2 B 113 35 _ := h1
    exact bodyPost_ret (v := actV ⟨rk, ra, rb, rc⟩) (by simp [results, Try.results30, go_sem, actV, q0, q1, q2, q3, hz0]) rfl ⟨rfl, is_of_row (by repeat (first | with_reducible exact h1r | with_reducible apply World.rowIs.alloc | (with_reducible refine row_setO ?_ (by omega) _))), by repeat (first | with_reducible exact hC2 | with_reducible apply Ch.alloc | (with_reducible refine Ch.setN ?_ (by omega) _))⟩
end Go.Proofs.Ytonndofbnhnkpaa.VmA
