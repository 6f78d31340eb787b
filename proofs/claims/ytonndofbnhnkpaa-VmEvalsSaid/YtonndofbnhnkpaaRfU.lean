/- The reference's evaluator: what a store into its block turns. -/
import Derived.Test.YtonndofbnhnkpaaRfP
namespace Go.Proofs.Ytonndofbnhnkpaa.Rf
open Go.RowKit Num KeyM KeyW StatW Blk VmA VmG Prg EvM
theorem IsR.ne {c : Fx} {base : Nat} {w : World} {S : RS} (h : IsR c base w S) : c.R ≠ c.FB ∧ c.R ≠ c.WB ∧ c.FB ≠ c.WB := by
  obtain ⟨⟨vr, h1, h2⟩, h3, h4, h5, h6⟩ := h
  have ne : ∀ {b m : Nat} {t : TypeId} {g : Nat → Value} {b' m' : Nat} {t' : TypeId} {g' : Nat → Value}, w.rowIs b t m g → w.rowIs b' t' m' g' → t ≠ t' → b ≠ b' := fun hr hr' ht' e => by
    obtain ⟨cur, hcur⟩ := row_type hr
    exact ty_ne hr' hcur ht' e
  exact ⟨ne h1 h3 (by decide), ne h1 h4 (by decide), ne h3 h4 (by decide)⟩
/-- A store into one of the numbers. -/
theorem isR_R {c : Fx} {base : Nat} {w : World} {S S' : RS} (h : IsR c base w S) (j : Nat) (x : Value) (hj : j < 11) (hr : S'.ran = S.ran) (hf : S'.futs = S.futs) (hw : S'.was = S.was) (hl : ∀ vr, (rL c vr S).set j x = rL c vr S') :
    IsR c base (w.setCell ⟨c.R, j, none⟩ x) S' := by
  obtain ⟨n1, n2, n3⟩ := h.ne
  obtain ⟨⟨vr, h1, h2⟩, h3, h4, h5, h6⟩ := h
  have hch : Ch (fun k => k = c.R) w (w.setCell ⟨c.R, j, none⟩ x) := Ch.set (S := fun k => k = c.R) (p := ⟨c.R, _, none⟩) (Ch.refl _ _) (Or.inl rfl) _
  refine ⟨⟨vr, ?_, ?_⟩, ?_, ?_, h5.later hch (fun i hi e => by omega), h6⟩
  · have := ofL_set (l := rL c vr S) j x (by show j < 11; exact hj) (h1.set j x)
    rw [hl] at this
    exact this
  · rw [hr]
    refine own_ch h2 hch (fun k hk e => ?_)
    obtain ⟨cur, hcur⟩ := own_type h2 hk
    exact ty_ne h1 hcur (by decide) e
  · rw [hf]; exact row_setO h3 (fun e => n1 e.symm) _
  · rw [hw]; exact row_setO h4 (fun e => n2 e.symm) _
theorem isR_steps {c : Fx} {base : Nat} {w : World} {S : RS} (h : IsR c base w S) (v : Int) : IsR c base (w.setCell ⟨c.R, 7, none⟩ (.int .i64 v)) { S with steps := v } :=
  isR_R h 7 _ (by omega) rfl rfl rfl (fun _ => rfl)
theorem isR_forks {c : Fx} {base : Nat} {w : World} {S : RS} (h : IsR c base w S) (v : Int) : IsR c base (w.setCell ⟨c.R, 8, none⟩ (.int .i64 v)) { S with forks := v } :=
  isR_R h 8 _ (by omega) rfl rfl rfl (fun _ => rfl)
theorem isR_over {c : Fx} {base : Nat} {w : World} {S : RS} (h : IsR c base w S) (v : Bool) : IsR c base (w.setCell ⟨c.R, 10, none⟩ (.bool v)) { S with over := v } :=
  isR_R h 10 _ (by omega) rfl rfl rfl (fun _ => rfl)
/-- What ran turns. -/
theorem isR_ran {c : Fx} {base : Nat} {w : World} {S : RS} (h : IsR c base w S) (v : Value) (ran : List FRan) (ho : w.ownsRow base 37 5 v ran.length (rcs5 ran)) : IsR c base (w.setCell ⟨c.R, 4, none⟩ v) { S with ran := ran } := by
  obtain ⟨n1, n2, n3⟩ := h.ne
  obtain ⟨⟨vr, h1, h2⟩, h3, h4, h5, h6⟩ := h
  have hch : Ch (fun k => k = c.R) w (w.setCell ⟨c.R, 4, none⟩ v) := Ch.set (S := fun k => k = c.R) (p := ⟨c.R, _, none⟩) (Ch.refl _ _) (Or.inl rfl) _
  refine ⟨⟨v, ?_, ?_⟩, row_setO h3 (fun e => n1 e.symm) _, row_setO h4 (fun e => n2 e.symm) _, h5.later hch (fun i hi e => by omega), h6⟩
  · have := ofL_set (l := rL c vr S) 4 v (by show 4 < 11; omega) (h1.set 4 v)
    exact this
  · refine own_ch ho hch (fun k hk e => ?_)
    obtain ⟨cur, hcur⟩ := own_type ho hk
    exact ty_ne h1 hcur (by decide) e
/-- A task's block is none of the evaluation's. -/
theorem IsR.far_t {c : Fx} {base B n : Nat} {w : World} {S : RS} {f : Nat → Value} (h : IsR c base w S) (ht : w.rowIs B 198 n f) : B ≠ c.R ∧ B ≠ c.FB ∧ B ≠ c.WB := by
  obtain ⟨⟨vr, h1, h2⟩, h3, h4, h5, h6⟩ := h
  have ne : ∀ {b m : Nat} {t : TypeId} {g : Nat → Value}, w.rowIs b t m g → t ≠ 198 → B ≠ b := fun hr ht' e => by
    obtain ⟨cur, hcur⟩ := row_type ht
    exact ty_ne hr hcur (fun e => ht' e.symm) e
  exact ⟨ne h1 (by decide), ne h3 (by decide), ne h4 (by decide)⟩
theorem isT_ch {c : Fx} {B : Nat} {w w' : World} {t : RT} (h : IsT w B t) (hn : B ≠ c.R ∧ B ≠ c.FB ∧ B ≠ c.WB) (hc : Ch (Evs c) w w') : IsT w' B t :=
  hc.row h (fun e => by rcases e with e | e | e; exact hn.1 e; exact hn.2.1 e; exact hn.2.2 e)
/-- The world, for what is known of it. -/
theorem at_world {P : Program} {code : Code} {Q : Exit → Act → World → Prop} {a : Act} {w : World} (F : World → Prop) (hF : F w) (h : ∀ w', F w' → Code.wp P code Q a w') : Code.wp P code Q a w := h w hF
end Go.Proofs.Ytonndofbnhnkpaa.Rf
