/- The program's package eval: what a machine and its tasks hold in memory. -/
import Derived.Test.YtonndofbnhnkpaaGreatEvlA
import Derived.Test.YtonndofbnhnkpaaGreatTabJ
import Derived.Test.YtonndofbnhnkpaaGreatRfA
set_option linter.unusedVariables false
set_option linter.unusedSimpArgs false
set_option linter.unusedSectionVars false
namespace Go.Proofs.YtonndofbnhnkpaaGreat.Evl
open Go.RowKit Num KeyM KeyW StatW Blk VmA VmG Prg EvM Rf
/-- What stays as it is. -/
structure Mc where
  K : Nat
  M : Nat
  R : Nat
  FB : Nat
  WB : Nat
  pa : Option Addr
  pc : Nat
  fs : List (List Ins)
  futs : Nat
  depth : Int
  fuel : Int
  most : Int
def mL (c : Mc) (steps forks : Int) : List Value :=
  [.slice c.pa c.fs.length c.pc, .int .i64 c.futs, .int .i64 c.depth, .int .i64 c.fuel, .int .i64 c.most, .int .i64 0, .int .i64 0, .slice none 0 0, .slice (some ⟨c.FB, 0, none⟩) c.futs c.futs, .slice (some ⟨c.WB, 0, none⟩) c.futs c.futs, .int .i64 steps, .int .i64 forks, .bool false, .map (some c.R)]
def ranV (r : FRan) : Value := .agg #[.int .i64 r.key, .int .i64 r.fn, .int .i64 r.arg, .int .i64 r.how, .int .i64 r.val]
/-- The map's entries are what ran, in whatever order. -/
def MapIs (es : Array MapEntry) (clk : Nat) (l : List FRan) : Prop := (es.toList.map fun e => (e.key, e.val)).Perm (l.map fun r => (Value.int .i64 r.key, ranV r)) ∧ (∀ x ∈ es.toList, x.born < clk) ∧ (es.toList.map (·.born)).Nodup
/-- The machine as it lies in memory. -/
structure IsM (c : Mc) (w : World) (S : RS) : Prop where
  row : w.rowIs c.M 58 14 (ofL (mL c S.steps S.forks))
  fut : w.rowIs c.FB 3 c.futs (fun j => .int .i64 (S.futs j))
  was : w.rowIs c.WB 4 c.futs (fun j => .bool (S.was j))
  code : CodeAt c.K w c.pa c.fs
  map : ∃ es clk, w.heap[c.R]? = some (.map es clk) ∧ MapIs es clk S.ran
  far : c.K ≤ c.M ∧ c.K ≤ c.R ∧ c.K ≤ c.FB ∧ c.K ≤ c.WB
def Mvs (c : Mc) (k : Nat) : Prop := k = c.M ∨ k = c.R ∨ k = c.FB ∨ k = c.WB
theorem heap_bl {w w' : World} {r : Nat} {es : Array MapEntry} {clk : Nat} (h : w.heap[r]? = some (.map es clk)) (hb : Bl w w') : w'.heap[r]? = some (.map es clk) := by
  have : r < w.heap.size := by
    rcases Nat.lt_or_ge r w.heap.size with g | g
    · exact g
    · rw [Array.getElem?_eq_none g] at h; cases h
  exact (hb.block r this).trans h
theorem heap_ch {S : Nat → Prop} {w w' : World} {r : Nat} {es : Array MapEntry} {clk : Nat} (h : w.heap[r]? = some (.map es clk)) (hc : Ch S w w') (hn : ¬ S r) : w'.heap[r]? = some (.map es clk) := by
  have : r < w.heap.size := by
    rcases Nat.lt_or_ge r w.heap.size with g | g
    · exact g
    · rw [Array.getElem?_eq_none g] at h; cases h
  exact (hc.block r this hn).trans h
theorem IsM.bl {c : Mc} {w w' : World} {S : RS} (h : IsM c w S) (hb : Bl w w') : IsM c w' S := by
  obtain ⟨h1, h2, h3, h4, ⟨es, clk, h5, h6⟩, h7⟩ := h
  exact ⟨row_bl h1 hb, row_bl h2 hb, row_bl h3 hb, h4.later (S := fun _ => False) (Ch.of_bl hb) (fun _ _ h => h), ⟨es, clk, heap_bl h5 hb, h6⟩, h7⟩
theorem IsM.ne {c : Mc} {w : World} {S : RS} (h : IsM c w S) : c.M ≠ c.R ∧ c.M ≠ c.FB ∧ c.M ≠ c.WB ∧ c.R ≠ c.FB ∧ c.R ≠ c.WB ∧ c.FB ≠ c.WB := by
  obtain ⟨h1, h2, h3, h4, ⟨es, clk, h5, h6⟩, h7⟩ := h
  have ne : ∀ {b m : Nat} {t : TypeId} {g : Nat → Value} {b' m' : Nat} {t' : TypeId} {g' : Nat → Value}, w.rowIs b t m g → w.rowIs b' t' m' g' → t ≠ t' → b ≠ b' := fun hr hr' ht' e => by
    obtain ⟨cur, hcur⟩ := row_type hr
    exact ty_ne hr' hcur ht' e
  exact ⟨rowB h1 h5, ne h1 h2 (by decide), ne h1 h3 (by decide), fun e => rowB h2 h5 e.symm, fun e => rowB h3 h5 e.symm, ne h2 h3 (by decide)⟩
/-- While a block of another type is turned, the rest stays. -/
theorem IsM.on {c : Mc} {B n : Nat} {ty : TypeId} {w w' : World} {S : RS} {f : Nat → Value} (h : IsM c w S) (ht : w.rowIs B ty n f) (h1 : ty ≠ 58) (h2 : ty ≠ 3) (h3 : ty ≠ 4) (hK : c.K ≤ B) (hc : Ch (· = B) w w') : IsM c w' S := by
  obtain ⟨g1, g2, g3, g4, ⟨es, clk, g5, g6⟩, g7⟩ := h
  have ne : ∀ {b m : Nat} {t : TypeId} {g : Nat → Value}, w.rowIs b t m g → ty ≠ t → ¬ b = B := fun hr ht' e => by
    obtain ⟨cur, hcur⟩ := row_type hr
    exact ty_ne ht hcur (fun e => ht' e.symm) e
  exact ⟨hc.row g1 (ne g1 h1), hc.row g2 (ne g2 h2), hc.row g3 (ne g3 h3), g4.later hc (fun i hi e => by omega), ⟨es, clk, heap_ch g5 hc (fun e => rowB ht g5 e.symm), g6⟩, g7⟩
theorem IsM.far_b {c : Mc} {B n : Nat} {ty : TypeId} {w : World} {S : RS} {f : Nat → Value} (h : IsM c w S) (ht : w.rowIs B ty n f) (h1 : ty ≠ 58) (h2 : ty ≠ 3) (h3 : ty ≠ 4) : ¬ Mvs c B := by
  obtain ⟨g1, g2, g3, g4, ⟨es, clk, g5, g6⟩, g7⟩ := h
  have ne : ∀ {b m : Nat} {t : TypeId} {g : Nat → Value}, w.rowIs b t m g → ty ≠ t → ¬ B = b := fun hr ht' e => by
    obtain ⟨cur, hcur⟩ := row_type hr
    exact ty_ne ht hcur (fun e => ht' e.symm) e.symm
  rintro (e | e | e | e)
  · exact ne g1 h1 e
  · exact rowB ht g5 e
  · exact ne g2 h2 e
  · exact ne g3 h3 e
def handV (b : Bool) (h : Nat) : Value := if b then .pointer (some ⟨h, 0, none⟩) else .pointer none
def eF (c : Mc) (t : RT) (H : Nat → Nat) (j : Nat) : Value :=
  if j = 0 then .pointer (some ⟨c.M, 0, none⟩) else if j = 1 then .int .i64 t.key else if j < 10 then .int .i64 (t.regs (j - 2)) else if j < 14 then handV (t.has (j - 10)) (H (j - 10)) else .int .i64 t.forks
/-- A task as it lies in memory. -/
structure IsE (c : Mc) (w : World) (B : Nat) (t : RT) (H : Nat → Nat) : Prop where
  row : w.rowIs B 87 15 (eF c t H)
  hands : ∀ i, i < 4 → t.has i = true → w.rowIs (H i) 29 2 (two (.int .i64 (t.hh i)) (.int .i64 (t.hv i)))
theorem IsE.bl {c : Mc} {w w' : World} {B : Nat} {t : RT} {H : Nat → Nat} (h : IsE c w B t H) (hb : Bl w w') : IsE c w' B t H := ⟨row_bl h.row hb, fun i hi h1 => row_bl (h.hands i hi h1) hb⟩
/-- While other blocks are turned. -/
theorem IsE.on {c : Mc} {w w' : World} {S : RS} {B : Nat} {t : RT} {H : Nat → Nat} (h : IsE c w B t H) (hM : IsM c w S) (hc : Ch (Mvs c) w w') : IsE c w' B t H :=
  ⟨hc.row h.row (hM.far_b h.row (by decide) (by decide) (by decide)), fun i hi h1 => hc.row (h.hands i hi h1) (hM.far_b (h.hands i hi h1) (by decide) (by decide) (by decide))⟩
theorem IsE.row_set {c : Mc} {w : World} {B : Nat} {t t' : RT} {H : Nat → Nat} (h : IsE c w B t H) (j : Nat) (v : Value) (hr : (w.setCell ⟨B, j, none⟩ v).rowIs B 87 15 (eF c t' H)) (hh : ∀ i, i < 4 → t'.has i = true → t.has i = true ∧ t'.hh i = t.hh i ∧ t'.hv i = t.hv i) : IsE c (w.setCell ⟨B, j, none⟩ v) B t' H :=
  ⟨hr, fun i hi h1 => by
    obtain ⟨g1, g2, g3⟩ := hh i hi h1
    have := h.hands i hi g1
    rw [g2, g3]
    exact row_setO this (fun e => by
      obtain ⟨cur, hcur⟩ := row_type this
      exact ty_ne h.row hcur (by decide) e) _⟩
theorem e_reg {c : Mc} {w : World} {B : Nat} {t : RT} {H : Nat → Nat} {k : Nat} {v : Int} (hk : k < 8) (h : w.rowIs B 87 15 (fun j => if j = 2 + k then .int .i64 v else eF c t H j)) : w.rowIs B 87 15 (eF c { t with regs := EvM.upd t.regs k v } H) := by
  refine World.rowIs.congr h ?_
  obtain rfl | rfl | rfl | rfl | rfl | rfl | rfl | rfl : k = 0 ∨ k = 1 ∨ k = 2 ∨ k = 3 ∨ k = 4 ∨ k = 5 ∨ k = 6 ∨ k = 7 := by omega
  all_goals
    repeat refine all_lt ?_ rfl
    exact all_none
theorem e_drop {c : Mc} {w : World} {B : Nat} {t : RT} {H : Nat → Nat} {k : Nat} (hk : k < 4) (h : w.rowIs B 87 15 (fun j => if j = 10 + k then .pointer none else eF c t H j)) : w.rowIs B 87 15 (eF c { t with has := EvM.upd t.has k false } H) := by
  refine World.rowIs.congr h ?_
  obtain rfl | rfl | rfl | rfl : k = 0 ∨ k = 1 ∨ k = 2 ∨ k = 3 := by omega
  all_goals
    repeat refine all_lt ?_ rfl
    exact all_none
theorem e_take {c : Mc} {w : World} {B : Nat} {t : RT} {H : Nat → Nat} {k g : Nat} {a b : Int} (hk : k < 4) (h : w.rowIs B 87 15 (fun j => if j = 10 + k then .pointer (some ⟨g, 0, none⟩) else eF c t H j)) :
    w.rowIs B 87 15 (eF c { t with has := EvM.upd t.has k true, hh := EvM.upd t.hh k a, hv := EvM.upd t.hv k b } (fun i => if i = k then g else H i)) := by
  refine World.rowIs.congr h ?_
  obtain rfl | rfl | rfl | rfl : k = 0 ∨ k = 1 ∨ k = 2 ∨ k = 3 := by omega
  all_goals
    repeat refine all_lt ?_ rfl
    exact all_none
theorem e_forks {c : Mc} {w : World} {B : Nat} {t : RT} {H : Nat → Nat} {v : Int} (h : w.rowIs B 87 15 (fun j => if j = 14 then .int .i64 v else eF c t H j)) : w.rowIs B 87 15 (eF c { t with forks := v } H) := by
  refine World.rowIs.congr h ?_
  repeat refine all_lt ?_ rfl
  exact all_none
theorem ec_reg {c : Mc} {w : World} {B : Nat} {t : RT} {H : Nat → Nat} (h : IsE c w B t H) {k : Nat} (hk : k < 8) : w.cell? ⟨B, 2 + k, none⟩ = some (.int .i64 (t.regs k)) := by
  have := h.row.cell (i := 2 + k) (by omega)
  obtain rfl | rfl | rfl | rfl | rfl | rfl | rfl | rfl : k = 0 ∨ k = 1 ∨ k = 2 ∨ k = 3 ∨ k = 4 ∨ k = 5 ∨ k = 6 ∨ k = 7 := by omega
  all_goals exact this
theorem ec_hand {c : Mc} {w : World} {B : Nat} {t : RT} {H : Nat → Nat} (h : IsE c w B t H) {k : Nat} (hk : k < 4) : w.cell? ⟨B, 10 + k, none⟩ = some (handV (t.has k) (H k)) := by
  have := h.row.cell (i := 10 + k) (by omega)
  obtain rfl | rfl | rfl | rfl : k = 0 ∨ k = 1 ∨ k = 2 ∨ k = 3 := by omega
  all_goals exact this
theorem IsE.setReg {c : Mc} {w : World} {B : Nat} {t : RT} {H : Nat → Nat} (h : IsE c w B t H) (k : Nat) (hk : k < 8) (v : Int) : IsE c (w.setCell ⟨B, 2 + k, none⟩ (.int .i64 v)) B (t.setReg k v) H :=
  h.row_set _ _ (e_reg hk (h.row.set (2 + k) (.int .i64 v))) (fun _ _ h1 => ⟨h1, rfl, rfl⟩)
theorem IsE.drop {c : Mc} {w : World} {B : Nat} {t : RT} {H : Nat → Nat} (h : IsE c w B t H) (k : Nat) (hk : k < 4) : IsE c (w.setCell ⟨B, 10 + k, none⟩ (.pointer none)) B { t with has := EvM.upd t.has k false } H :=
  h.row_set _ _ (e_drop hk (h.row.set (10 + k) (.pointer none))) (fun i _ h1 => by
    change (if i = k then false else t.has i) = true at h1
    split at h1
    · cases h1
    · exact ⟨h1, rfl, rfl⟩)
theorem isM_set {c : Mc} {w : World} {S : RS} (h : IsM c w S) (a : Nat) (v : Int) :
    IsM c ((w.setCell ⟨c.FB, a, none⟩ (.int .i64 v)).setCell ⟨c.WB, a, none⟩ (.bool true)) { S with was := EvM.upd S.was a true, futs := EvM.upd S.futs a v } := by
  obtain ⟨n1, n2, n3, n4, n5, n6⟩ := h.ne
  obtain ⟨h1, h2, h3, h4, ⟨es, clk, h5, h6⟩, h7⟩ := h
  have hch : Ch (fun k => k = c.WB ∨ k = c.FB) w ((w.setCell ⟨c.FB, a, none⟩ (.int .i64 v)).setCell ⟨c.WB, a, none⟩ (.bool true)) := ((Ch.refl _ _).set (p := ⟨c.FB, _, none⟩) (Or.inl (Or.inr rfl)) _).set (p := ⟨c.WB, _, none⟩) (Or.inl (Or.inl rfl)) _
  refine ⟨row_setO (row_setO h1 n2 _) n3 _, ?_, ?_, h4.later hch (fun i hi e => by omega), ⟨es, clk, heap_ch h5 hch (fun e => by rcases e with e | e; exact n5 e; exact n4 e), h6⟩, h7⟩
  · exact World.rowIs.congr (row_setO (h2.set a (.int .i64 v)) n6 _) (fun j _ => by show _ = Value.int _ (if j = a then v else S.futs j); split <;> rfl)
  · exact World.rowIs.congr ((row_setO h3 (fun e => n6 e.symm) _).set a (.bool true)) (fun j _ => by show _ = Value.bool (if j = a then true else S.was j); split <;> rfl)
end Go.Proofs.YtonndofbnhnkpaaGreat.Evl
