/- The evaluator in plain Lean: how many ran, how they ended, who forked them, and what a cut does. -/
import Derived.Test.YtonndofbnhnkpaaEvKJ
set_option linter.unusedVariables false
set_option linter.unusedSimpArgs false
set_option linter.unusedSectionVars false
namespace Go.Proofs.Ytonndofbnhnkpaa.EvM
open Go.RowKit Num KeyM VmA VmG Prg
variable {fs : List (List Ins)} {depth fuel0 : Int}
theorem finish_eq {u : RT} {S : RS} {arg : Int} (h : S.over = false) : finish u S arg = { S with ran := put S.ran ⟨u.key, u.fn, wrap32 arg, u.how, u.val⟩ } := by unfold finish; rw [if_neg (by rw [h]; decide)]
theorem evLoop_done' {most : Int} : ∀ {n : Nat} {t : RT} {S : RS} {r : RT × RS}, evLoop fs depth fuel0 most n t S = some r → t.how ≠ 0 ∨ S.over = true → r = (t, S)
  | 0, _, _, _, h, _ => by simp [evLoop] at h
  | n + 1, t, S, r, h, ho => by
    unfold evLoop at h
    rw [if_pos ho] at h
    cases h; rfl
/-- One round of the evaluator, cut into its ways. -/
theorem ev_cases {most : Int} {n : Nat} {t : RT} {S : RS} {r : RT × RS} (h : evLoop fs depth fuel0 most (n + 1) t S = some r) :
    ((t.how ≠ 0 ∨ S.over = true) ∧ r = (t, S)) ∨ (t.how = 0 ∧ S.over = false ∧ t.fuel = 0 ∧ r = (t.ends 5, S)) ∨ (t.how = 0 ∧ S.over = false ∧ t.fuel ≠ 0 ∧ most ≤ S.steps ∧ r = (t, { S with over := true })) ∨
    (t.how = 0 ∧ S.over = false ∧ t.fuel ≠ 0 ∧ ¬ most ≤ S.steps ∧ ∃ i, insAt fs t = some i ∧
      ((i.op ≠ 9 ∧ evLoop fs depth fuel0 most n (oneM { t with fuel := t.fuel - 1, place := t.place + 1 } { S with steps := S.steps + 1 } i).1 (oneM { t with fuel := t.fuel - 1, place := t.place + 1 } { S with steps := S.steps + 1 } i).2 = some r) ∨
       (i.op = 9 ∧ depth ≤ dep t.key ∧ evLoop fs depth fuel0 most n { t with fuel := t.fuel - 1, place := t.place + 1, how := 6 } { S with steps := S.steps + 1 } = some r) ∨
       (i.op = 9 ∧ ¬ depth ≤ dep t.key ∧ 1000 ≤ t.forks ∧ evLoop fs depth fuel0 most n { t with fuel := t.fuel - 1, place := t.place + 1, how := 9 } { S with steps := S.steps + 1 } = some r) ∨
       (i.op = 9 ∧ ¬ depth ≤ dep t.key ∧ ¬ 1000 ≤ t.forks ∧ ∃ u S2, evLoop fs depth fuel0 most n (rt0 i.b (t.reg i.c) (child t.key (t.forks + 1)) fuel0) { S with steps := S.steps + 1, forks := S.forks + 1 } = some (u, S2) ∧
         evLoop fs depth fuel0 most n { t with fuel := t.fuel - 1, place := t.place + 1, forks := t.forks + 1, has := upd t.has i.a.toNat true, hh := upd t.hh i.a.toNat u.how, hv := upd t.hv i.a.toNat u.val } (finish u S2 (t.reg i.c)) = some r))) := by
  unfold evLoop at h
  by_cases h1 : t.how ≠ 0 ∨ S.over = true
  · rw [if_pos h1] at h; cases h; exact Or.inl ⟨h1, rfl⟩
  rw [if_neg h1] at h
  have h0 : t.how = 0 := by
    rcases Decidable.em (t.how = 0) with e | e
    · exact e
    · exact absurd (Or.inl e) h1
  have ho : S.over = false := by
    cases e : S.over
    · rfl
    · exact absurd (Or.inr e) h1
  by_cases h2 : t.fuel = 0
  · rw [if_pos h2] at h; cases h; exact Or.inr (Or.inl ⟨h0, ho, h2, rfl⟩)
  rw [if_neg h2] at h
  by_cases h3 : most ≤ S.steps
  · rw [if_pos h3] at h; cases h; exact Or.inr (Or.inr (Or.inl ⟨h0, ho, h2, h3, rfl⟩))
  rw [if_neg h3] at h
  refine Or.inr (Or.inr (Or.inr ⟨h0, ho, h2, h3, ?_⟩))
  cases hi : insAt fs t with
  | none => rw [hi] at h; cases h
  | some i =>
    rw [hi] at h
    refine ⟨i, rfl, ?_⟩
    simp only at h
    by_cases h4 : i.op = 9
    · rw [if_pos h4] at h
      by_cases h5 : depth ≤ dep t.key
      · rw [if_pos h5] at h; exact Or.inr (Or.inl ⟨h4, h5, h⟩)
      rw [if_neg h5] at h
      by_cases h6 : 1000 ≤ t.forks
      · rw [if_pos h6] at h; exact Or.inr (Or.inr (Or.inl ⟨h4, h5, h6, h⟩))
      rw [if_neg h6] at h
      cases hc : evLoop fs depth fuel0 most n (rt0 i.b (t.reg i.c) (child t.key (t.forks + 1)) fuel0) { S with steps := S.steps + 1, forks := S.forks + 1 } with
      | none => rw [hc] at h; cases h
      | some q =>
        obtain ⟨u, S2⟩ := q
        rw [hc] at h
        exact Or.inr (Or.inr (Or.inr ⟨h4, h5, h6, u, S2, rfl, h⟩))
    · rw [if_neg h4] at h; exact Or.inl ⟨h4, h⟩
/-- While all goes on, the steps grow. -/
theorem ev_steps {most : Int} : ∀ {n : Nat} {t : RT} {S : RS} {r : RT × RS}, evLoop fs depth fuel0 most n t S = some r → S.steps ≤ r.2.steps ∧ (r.2.over = false → S.over = false) ∧ (r.2.over = false → (r.2.ran.length : Int) - r.2.forks = (S.ran.length : Int) - S.forks)
  | 0, _, _, _, h => by simp [evLoop] at h
  | n + 1, t, S, r, h => by
    rcases ev_cases h with ⟨_, rfl⟩ | ⟨_, ho, _, rfl⟩ | ⟨_, ho, _, _, rfl⟩ | ⟨_, ho, _, _, i, _, ⟨_, h⟩ | ⟨_, _, h⟩ | ⟨_, _, _, h⟩ | ⟨_, _, _, u, S2, hc, h⟩⟩
    · exact ⟨Int.le_refl _, id, fun _ => rfl⟩
    · exact ⟨Int.le_refl _, id, fun _ => rfl⟩
    · exact ⟨Int.le_refl _, fun h => (by cases h), fun h => (by cases h)⟩
    · obtain ⟨a1, a2, a3⟩ := ev_steps h
      obtain ⟨e1, e2, e3, e4⟩ := one_S { t with fuel := t.fuel - 1, place := t.place + 1 } { S with steps := S.steps + 1 } i
      rw [e1, e3] at a3
      rw [e2] at a1
      exact ⟨by simp only at a1; omega, fun _ => ho, a3⟩
    · obtain ⟨a1, a2, a3⟩ := ev_steps h
      exact ⟨by simp only at a1; omega, fun _ => ho, a3⟩
    · obtain ⟨a1, a2, a3⟩ := ev_steps h
      exact ⟨by simp only at a1; omega, fun _ => ho, a3⟩
    · obtain ⟨a1, a2, a3⟩ := ev_steps h
      obtain ⟨b1, b2, b3⟩ := ev_steps hc
      simp only at b1 b3
      have hs : (finish u S2 (t.reg i.c)).steps = S2.steps ∧ (finish u S2 (t.reg i.c)).over = S2.over := by unfold finish; split <;> exact ⟨rfl, rfl⟩
      rw [hs.1] at a1
      refine ⟨by omega, fun _ => ho, fun hr => ?_⟩
      have h2 := a2 hr
      rw [hs.2] at h2
      have hf := a3 hr
      rw [finish_eq h2] at hf
      have hl := b3 h2
      rw [show ({ S2 with ran := put S2.ran ⟨u.key, u.fn, wrap32 (t.reg i.c), u.how, u.val⟩ } : RS).ran.length = S2.ran.length + 1 from put_len _ _] at hf
      simp only at hf
      omega
/-- How one that ran may have ended. -/
def EndOk (x : FRan) : Prop := 1 ≤ x.how ∧ x.how ≤ 9 ∧ (x.how ≠ 1 → x.val = 0)
def HOk (t : RT) : Prop := (0 ≤ t.how ∧ t.how ≤ 9) ∧ ∀ i, t.has i = true → 1 ≤ t.hh i ∧ t.hh i ≤ 9
theorem hok_how {t : RT} (h : HOk t) {u : RT} {w : Int} (h1 : 0 ≤ w) (h2 : w ≤ 9) (e1 : u.how = w) (e2 : u.has = t.has) (e3 : u.hh = t.hh) : HOk u := ⟨by rw [e1]; exact ⟨h1, h2⟩, fun i hi => by rw [e2] at hi; rw [e3]; exact h.2 i hi⟩
theorem hok_one {t : RT} {S : RS} {i : Ins} (h : HOk t) (h0 : t.how = 0) : HOk (oneM t S i).1 := by
  have hk : ∀ u : RT, u.how = t.how → u.has = t.has → u.hh = t.hh → HOk u := fun u e1 e2 e3 => hok_how h h.1.1 h.1.2 e1 e2 e3
  have hs : ∀ w : Int, 0 ≤ w → w ≤ 9 → HOk (t.ends w) := fun w h1 h2 => hok_how h h1 h2 rfl rfl rfl
  have hd : ∀ j w, 0 ≤ w → w ≤ 9 → HOk { t with has := upd t.has j false, how := w } := fun j w h1 h2 => ⟨⟨h1, h2⟩, fun q hq => by
    change (if q = j then false else t.has q) = true at hq
    split at hq
    · cases hq
    · exact h.2 q hq⟩
  unfold oneM
  by_cases g : i.op = 1
  · simp only [if_pos g]
    exact hk _ rfl rfl rfl
  simp only [if_neg g]
  clear g
  by_cases g : i.op = 2
  · simp only [if_pos g]
    exact hk _ rfl rfl rfl
  simp only [if_neg g]
  clear g
  by_cases g : i.op = 3
  · simp only [if_pos g]
    exact hk _ rfl rfl rfl
  simp only [if_neg g]
  clear g
  by_cases g : i.op = 4
  · simp only [if_pos g]
    exact hk _ rfl rfl rfl
  simp only [if_neg g]
  clear g
  by_cases g : i.op = 6
  · simp only [if_pos g]
    exact hk _ rfl rfl rfl
  simp only [if_neg g]
  clear g
  by_cases g : i.op = 5
  · simp only [if_pos g]
    by_cases k : wrap32 (t.reg i.c) = 0
    · simp only [if_pos k]; exact hs 2 (by decide) (by decide)
    · simp only [if_neg k]; exact hk _ rfl rfl rfl
  simp only [if_neg g]
  clear g
  by_cases g : i.op = 7
  · simp only [if_pos g]
    exact hk _ rfl rfl rfl
  simp only [if_neg g]
  clear g
  by_cases g : i.op = 8
  · simp only [if_pos g]
    by_cases k : t.reg i.a = 0
    · simp only [if_pos k]; exact hk _ rfl rfl rfl
    · simp only [if_neg k]; exact h
  simp only [if_neg g]
  clear g
  by_cases g : i.op = 15
  · simp only [if_pos g]
    exact hok_how h (w := 1) (by decide) (by decide) rfl rfl rfl
  simp only [if_neg g]
  clear g
  by_cases g : i.op = 10
  · simp only [if_pos g]
    cases k : t.has i.b.toNat
    · simp only [if_true]; exact hs 7 (by decide) (by decide)
    · simp only [Bool.true_eq_false, if_false]
      by_cases k2 : t.hh i.b.toNat = 1
      · simp only [if_pos k2]
        have := hd i.b.toNat 0 (by decide) (by decide)
        exact ⟨by show 0 ≤ t.how ∧ t.how ≤ 9; exact h.1, this.2⟩
      · simp only [if_neg k2]
        have hh := h.2 _ k
        exact hd i.b.toNat (t.hh i.b.toNat) (by omega) hh.2
  simp only [if_neg g]
  clear g
  by_cases g : i.op = 11
  · simp only [if_pos g]
    by_cases k : S.was i.a.toNat = true
    · simp only [if_pos k]; exact hs 3 (by decide) (by decide)
    · simp only [if_neg k]; exact h
  simp only [if_neg g]
  clear g
  by_cases g : i.op = 12
  · simp only [if_pos g]
    by_cases k : S.was i.b.toNat = false
    · simp only [if_pos k]; exact hs 4 (by decide) (by decide)
    · simp only [if_neg k]; exact hk _ rfl rfl rfl
  simp only [if_neg g]
  clear g
  by_cases g : i.op = 13
  · simp only [if_pos g]
    by_cases k : t.has i.a.toNat = false
    · simp only [if_pos k]; exact hs 7 (by decide) (by decide)
    · simp only [if_neg k]; exact h
  simp only [if_neg g]
  clear g
  exact h
theorem put_in {x y : FRan} : ∀ {l : List FRan}, x = y ∨ x ∈ l → x ∈ put l y
  | [], h => by
    rcases h with rfl | h
    · simp [put]
    · cases h
  | z :: l, h => by
    unfold put
    split
    · rcases h with rfl | h
      · exact List.mem_cons_of_mem _ (put_in (Or.inl rfl))
      · rcases List.mem_cons.1 h with rfl | h
        · exact List.mem_cons_self
        · exact List.mem_cons_of_mem _ (put_in (Or.inr h))
    · rcases h with rfl | h
      · exact List.mem_cons_self
      · exact List.mem_cons_of_mem _ h
/-- How all that ran ended. -/
theorem ev_ends {most : Int} : ∀ {n : Nat} {t : RT} {S : RS} {r : RT × RS}, evLoop fs depth fuel0 most n t S = some r → r.2.over = false → HOk t → VOk t → (∀ x ∈ S.ran, EndOk x) → HOk r.1 ∧ ∀ x ∈ r.2.ran, EndOk x
  | 0, _, _, _, h, _, _, _, _ => by simp [evLoop] at h
  | n + 1, t, S, r, h, hr, hh, hv, hx => by
    rcases ev_cases h with ⟨_, rfl⟩ | ⟨h0, ho, _, rfl⟩ | ⟨_, ho, _, _, rfl⟩ | ⟨h0, ho, _, _, i, _, ⟨_, h⟩ | ⟨_, _, h⟩ | ⟨_, _, _, h⟩ | ⟨_, _, _, u, S2, hc, h⟩⟩
    · exact ⟨hh, hx⟩
    · exact ⟨hok_how hh (w := 5) (by decide) (by decide) rfl rfl rfl, hx⟩
    · cases hr
    · obtain ⟨e1, e2, e3, e4⟩ := one_S { t with fuel := t.fuel - 1, place := t.place + 1 } { S with steps := S.steps + 1 } i
      exact ev_ends h hr (hok_one (t := { t with fuel := t.fuel - 1, place := t.place + 1 }) ⟨hh.1, hh.2⟩ h0) (vok_one (t := { t with fuel := t.fuel - 1, place := t.place + 1 }) ⟨hv.1, hv.2⟩ h0) (by rw [e1]; exact hx)
    · exact ev_ends h hr ⟨⟨by show (0 : Int) ≤ 6; decide, by show (6 : Int) ≤ 9; decide⟩, hh.2⟩ ⟨fun _ => hv.1 (by rw [h0]; decide), hv.2⟩ hx
    · exact ev_ends h hr ⟨⟨by show (0 : Int) ≤ 9; decide, by show (9 : Int) ≤ 9; decide⟩, hh.2⟩ ⟨fun _ => hv.1 (by rw [h0]; decide), hv.2⟩ hx
    · have ho1 := (ev_steps h).2.1 hr
      have hs : (finish u S2 (t.reg i.c)).over = S2.over := by unfold finish; split <;> rfl
      rw [hs] at ho1
      obtain ⟨c1, c2⟩ := ev_ends hc ho1 ⟨⟨by show (0 : Int) ≤ 0; decide, by show (0 : Int) ≤ 9; decide⟩, fun q hq => by cases hq⟩ (vok_new _ _ _ _) hx
      have hu : u.how ≠ 0 := by
        rcases evLoop_ends hc with e | e
        · exact e
        · change S2.over = true at e; rw [ho1] at e; cases e
      have huv := evLoop_vals hc ho1 (vok_new _ _ _ _)
      have hu2 := c1.1
      simp only at hu2
      have hend : EndOk ⟨u.key, u.fn, wrap32 (t.reg i.c), u.how, u.val⟩ := ⟨by show 1 ≤ u.how; omega, hu2.2, huv.1⟩
      refine ev_ends h hr ⟨hh.1, fun q hq => ?_⟩ ⟨fun _ => hv.1 (by rw [h0]; decide), fun q hq => ?_⟩ ?_
      · change (if q = i.a.toNat then true else t.has q) = true at hq
        show 1 ≤ (if q = i.a.toNat then u.how else t.hh q) ∧ (if q = i.a.toNat then u.how else t.hh q) ≤ 9
        by_cases e : q = i.a.toNat
        · rw [if_pos e]; omega
        · rw [if_neg e]; rw [if_neg e] at hq; exact hh.2 q hq
      · change (if q = i.a.toNat then true else t.has q) = true at hq
        show (if q = i.a.toNat then u.how else t.hh q) ≠ 0
        by_cases e : q = i.a.toNat
        · rw [if_pos e]; exact hu
        · rw [if_neg e]; rw [if_neg e] at hq; exact hv.2 q hq
      · rw [finish_eq ho1]
        intro x hx'
        rcases put_mem hx' with rfl | hx'
        · exact hend
        · exact c2 x hx'
/-- Who forked those that ran. -/
theorem ev_par {most : Int} (hdp : depth ≤ 5) : ∀ {n : Nat} {t : RT} {S : RS} {r : RT × RS}, evLoop fs depth fuel0 most n t S = some r → r.2.over = false → chk t.key = true → 0 ≤ t.forks → t.forks ≤ 1000 →
    (∀ x ∈ S.ran, x ∈ r.2.ran) ∧ ∀ x ∈ r.2.ran, x ∈ S.ran ∨ parent x.key = t.key ∨ ∃ y ∈ r.2.ran, y.key = parent x.key
  | 0, _, _, _, h, _, _, _, _ => by simp [evLoop] at h
  | n + 1, t, S, r, h, hr, hk, hf0, hf1 => by
    rcases ev_cases h with ⟨_, rfl⟩ | ⟨_, ho, _, rfl⟩ | ⟨_, ho, _, _, rfl⟩ | ⟨_, ho, _, _, i, _, ⟨_, h⟩ | ⟨_, _, h⟩ | ⟨_, _, _, h⟩ | ⟨_, h5, h6, u, S2, hc, h⟩⟩
    · exact ⟨fun x hx => hx, fun x hx => Or.inl hx⟩
    · exact ⟨fun x hx => hx, fun x hx => Or.inl hx⟩
    · cases hr
    · obtain ⟨o1, o2, o3⟩ := one_ran { t with fuel := t.fuel - 1, place := t.place + 1 } { S with steps := S.steps + 1 } i
      have k := ev_par hdp h hr (by rw [o2]; exact hk) (by rw [o3]; exact hf0) (by rw [o3]; exact hf1)
      rw [o1, o2] at k
      exact k
    · have k := ev_par hdp h hr hk hf0 hf1
      exact k
    · have k := ev_par hdp h hr hk hf0 hf1
      exact k
    · have ho1 := (ev_steps h).2.1 hr
      have hs : (finish u S2 (t.reg i.c)).over = S2.over := by unfold finish; split <;> rfl
      rw [hs] at ho1
      have hb := born (n := t.forks + 1) hk (by omega) (by omega) (by omega)
      obtain ⟨c1, c2⟩ := ev_par hdp hc ho1 hb.chk (Int.le_refl _) (by show (0 : Int) ≤ 1000; decide)
      obtain ⟨d1, d2⟩ := ev_par hdp h hr hk (by show 0 ≤ t.forks + 1; omega) (by show t.forks + 1 ≤ 1000; omega)
      have huk : u.key = child t.key (t.forks + 1) := (evLoop_keys hdp hc hb.chk (Int.le_refl _) (by show (0 : Int) ≤ 1000; decide)).1
      rw [finish_eq ho1] at d1 d2
      refine ⟨fun x hx => d1 x (put_in (Or.inr (c1 x hx))), fun x hx => ?_⟩
      rcases d2 x hx with e | e | e
      · rcases put_mem e with rfl | e
        · refine Or.inr (Or.inl ?_)
          show parent u.key = t.key
          rw [huk]; exact hb.par
        · rcases c2 x e with e | e | ⟨y, hy, e⟩
          · exact Or.inl e
          · refine Or.inr (Or.inr ⟨_, d1 _ (put_in (Or.inl rfl)), ?_⟩)
            show u.key = parent x.key
            rw [huk]; exact e.symm
          · exact Or.inr (Or.inr ⟨y, d1 y (put_in (Or.inr hy)), e⟩)
      · exact Or.inr (Or.inl e)
      · exact Or.inr (Or.inr e)
/-- Who forked those that ran, with what is known of a forked key. -/
def Kid (x : FRan) : Prop := dep x.key ≠ 0 ∧ parent x.key < x.key
theorem ev_kid {most : Int} (hdp : depth ≤ 5) : ∀ {n : Nat} {t : RT} {S : RS} {r : RT × RS}, evLoop fs depth fuel0 most n t S = some r → r.2.over = false → chk t.key = true → 0 ≤ t.forks → t.forks ≤ 1000 →
    (∀ x ∈ S.ran, x ∈ r.2.ran) ∧ ∀ x ∈ r.2.ran, x ∈ S.ran ∨ (Kid x ∧ (parent x.key = t.key ∨ ∃ y ∈ r.2.ran, y.key = parent x.key))
  | 0, _, _, _, h, _, _, _, _ => by simp [evLoop] at h
  | n + 1, t, S, r, h, hr, hk, hf0, hf1 => by
    rcases ev_cases h with ⟨_, rfl⟩ | ⟨_, ho, _, rfl⟩ | ⟨_, ho, _, _, rfl⟩ | ⟨_, ho, _, _, i, _, ⟨_, h⟩ | ⟨_, _, h⟩ | ⟨_, _, _, h⟩ | ⟨_, h5, h6, u, S2, hc, h⟩⟩
    · exact ⟨fun x hx => hx, fun x hx => Or.inl hx⟩
    · exact ⟨fun x hx => hx, fun x hx => Or.inl hx⟩
    · cases hr
    · obtain ⟨o1, o2, o3⟩ := one_ran { t with fuel := t.fuel - 1, place := t.place + 1 } { S with steps := S.steps + 1 } i
      have k := ev_kid hdp h hr (by rw [o2]; exact hk) (by rw [o3]; exact hf0) (by rw [o3]; exact hf1)
      rw [o1, o2] at k
      exact k
    · have k := ev_kid hdp h hr hk hf0 hf1
      exact k
    · have k := ev_kid hdp h hr hk hf0 hf1
      exact k
    · have ho1 := (ev_steps h).2.1 hr
      have hs : (finish u S2 (t.reg i.c)).over = S2.over := by unfold finish; split <;> rfl
      rw [hs] at ho1
      have hb := born (n := t.forks + 1) hk (by omega) (by omega) (by omega)
      obtain ⟨c1, c2⟩ := ev_kid hdp hc ho1 hb.chk (Int.le_refl _) (by show (0 : Int) ≤ 1000; decide)
      obtain ⟨d1, d2⟩ := ev_kid hdp h hr hk (by show 0 ≤ t.forks + 1; omega) (by show t.forks + 1 ≤ 1000; omega)
      have huk : u.key = child t.key (t.forks + 1) := (evLoop_keys hdp hc hb.chk (Int.le_refl _) (by show (0 : Int) ≤ 1000; decide)).1
      rw [finish_eq ho1] at d1 d2
      refine ⟨fun x hx => d1 x (put_in (Or.inr (c1 x hx))), fun x hx => ?_⟩
      rcases d2 x hx with e | e
      · rcases put_mem e with rfl | e
        · refine Or.inr ⟨⟨?_, ?_⟩, Or.inl ?_⟩
          · show dep u.key ≠ 0
            rw [huk, hb.dep]
            have := dep_lo t.key
            omega
          · show parent u.key < u.key
            rw [huk, hb.par]; exact hb.lt
          · show parent u.key = t.key
            rw [huk]; exact hb.par
        · rcases c2 x e with e | ⟨hkd, e | ⟨y, hy, e⟩⟩
          · exact Or.inl e
          · refine Or.inr ⟨hkd, Or.inr ⟨_, d1 _ (put_in (Or.inl rfl)), ?_⟩⟩
            show u.key = parent x.key
            rw [huk]; exact e.symm
          · exact Or.inr ⟨hkd, Or.inr ⟨y, d1 y (put_in (Or.inr hy)), e⟩⟩
      · exact Or.inr e
theorem fin_steps (u : RT) (S : RS) (arg : Int) : (finish u S arg).steps = S.steps ∧ (finish u S arg).over = S.over := by unfold finish; split <;> exact ⟨rfl, rfl⟩
/-- More may run: nothing is other. -/
theorem ev_more {most m2 : Int} : ∀ {n : Nat} {t : RT} {S : RS} {r : RT × RS}, evLoop fs depth fuel0 most n t S = some r → r.2.over = false → r.2.steps ≤ m2 → evLoop fs depth fuel0 m2 n t S = some r
  | 0, _, _, _, h, _, _ => by simp [evLoop] at h
  | n + 1, t, S, r, h, hr, hm => by
    rcases ev_cases h with ⟨h1, rfl⟩ | ⟨h0, ho, h2, rfl⟩ | ⟨_, ho, _, _, rfl⟩ | ⟨h0, ho, h2, h3, i, hi, h⟩
    · unfold evLoop; rw [if_pos h1]
    · unfold evLoop; rw [if_neg (by rw [h0, ho]; simp), if_pos h2]
    · cases hr
    · have hst : S.steps + 1 ≤ r.2.steps := by
        rcases h with ⟨_, h⟩ | ⟨_, _, h⟩ | ⟨_, _, _, h⟩ | ⟨_, _, _, u, S2, hc, h⟩
        · have := (ev_steps h).1
          rw [(one_S _ _ _).2.1] at this
          exact this
        · exact (ev_steps h).1
        · exact (ev_steps h).1
        · have a := (ev_steps h).1
          have b := (ev_steps hc).1
          rw [(fin_steps _ _ _).1] at a
          exact Int.le_trans b a
      unfold evLoop
      rw [if_neg (by rw [h0, ho]; simp), if_neg h2, if_neg (by omega), hi]
      simp only
      rcases h with ⟨h9, h⟩ | ⟨h9, h5, h⟩ | ⟨h9, h5, h6, h⟩ | ⟨h9, h5, h6, u, S2, hc, h⟩
      · rw [if_neg h9]; exact ev_more h hr hm
      · rw [if_pos h9, if_pos h5]; exact ev_more h hr hm
      · rw [if_pos h9, if_neg h5, if_pos h6]; exact ev_more h hr hm
      · rw [if_pos h9, if_neg h5, if_neg h6]
        have ho1 := (ev_steps h).2.1 hr
        rw [(fin_steps _ _ _).2] at ho1
        have a := (ev_steps h).1
        rw [(fin_steps _ _ _).1] at a
        rw [ev_more hc ho1 (by show S2.steps ≤ m2; omega)]
        exact ev_more h hr hm
theorem ev_stay {most : Int} {n : Nat} {t : RT} {S : RS} (h : t.how ≠ 0 ∨ S.over = true) : evLoop fs depth fuel0 most (n + 1) t S = some (t, S) := by unfold evLoop; rw [if_pos h]
/-- Less may run: it is cut. -/
theorem ev_less {most m2 : Int} : ∀ {n : Nat} {t : RT} {S : RS} {r : RT × RS}, evLoop fs depth fuel0 most n t S = some r → r.2.over = false → S.steps ≤ m2 → m2 < r.2.steps → ∃ r', evLoop fs depth fuel0 m2 n t S = some r' ∧ r'.2.over = true
  | 0, _, _, _, h, _, _, _ => by simp [evLoop] at h
  | n + 1, t, S, r, h, hr, hm, hl => by
    rcases ev_cases h with ⟨h1, rfl⟩ | ⟨h0, ho, h2, rfl⟩ | ⟨_, ho, _, _, rfl⟩ | ⟨h0, ho, h2, h3, i, hi, h⟩
    · simp only at hl; omega
    · simp only at hl; omega
    · cases hr
    · by_cases hc2 : m2 ≤ S.steps
      · refine ⟨(t, { S with over := true }), ?_, rfl⟩
        unfold evLoop
        rw [if_neg (by rw [h0, ho]; simp), if_neg h2, if_pos hc2]
      · unfold evLoop
        rw [if_neg (by rw [h0, ho]; simp), if_neg h2, if_neg hc2, hi]
        simp only
        rcases h with ⟨h9, h⟩ | ⟨h9, h5, h⟩ | ⟨h9, h5, h6, h⟩ | ⟨h9, h5, h6, u, S2, hc, h⟩
        · rw [if_neg h9]
          exact ev_less h hr (by rw [(one_S _ _ _).2.1]; show S.steps + 1 ≤ m2; omega) hl
        · rw [if_pos h9, if_pos h5]; exact ev_less h hr (by show S.steps + 1 ≤ m2; omega) hl
        · rw [if_pos h9, if_neg h5, if_pos h6]; exact ev_less h hr (by show S.steps + 1 ≤ m2; omega) hl
        · rw [if_pos h9, if_neg h5, if_neg h6]
          have ho1 := (ev_steps h).2.1 hr
          rw [(fin_steps _ _ _).2] at ho1
          by_cases hs : m2 < S2.steps
          · obtain ⟨⟨u', S2'⟩, e1, e2⟩ := ev_less hc ho1 (by show S.steps + 1 ≤ m2; omega) hs
            rw [e1]
            simp only at e2 ⊢
            have hf : finish u' S2' (t.reg i.c) = S2' := by unfold finish; rw [e2]; rfl
            rw [hf]
            obtain ⟨m, rfl⟩ : ∃ m, n = m + 1 := by
              cases n with
              | zero => simp [evLoop] at h
              | succ m => exact ⟨m, rfl⟩
            exact ⟨_, ev_stay (Or.inr e2), e2⟩
          · rw [ev_more hc ho1 (by show S2.steps ≤ m2; omega)]
            exact ev_less h hr (by rw [(fin_steps _ _ _).1]; omega) hl
end Go.Proofs.Ytonndofbnhnkpaa.EvM
