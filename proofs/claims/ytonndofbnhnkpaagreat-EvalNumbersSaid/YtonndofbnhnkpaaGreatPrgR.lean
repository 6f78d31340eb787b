/- Programs by numbers: rows of functions. -/
import Derived.Test.YtonndofbnhnkpaaGreatPrgI
set_option linter.unusedVariables false
set_option linter.unusedSimpArgs false
set_option linter.unusedSectionVars false
namespace Go.Proofs.YtonndofbnhnkpaaGreat.Prg
open Go.RowKit Num KeyM KeyW StatW StatO Blk VmA
theorem Ch.of_grown {w w' : World} {row : Option Nat} (h : w.grownBy w' row) : Ch (fun k => row = some k) w w' :=
  ⟨h.os, h.tape, h.output, h.size, fun k hk hn => h.block k hk (fun e => hn e.symm)⟩
theorem own_ch {S : Nat → Prop} {w w' : World} {base size n : Nat} {e : TypeId} {v : Value} {xs : List Value} (h : w.ownsRow base e size v n xs) (hc : Ch S w w') (hn : ∀ k, v.ownBlock = some k → ¬ S k) : w'.ownsRow base e size v n xs := by
  have hlt := World.ownsRow.lt h
  obtain ⟨h1, h2⟩ := h
  refine ⟨h1, ?_⟩
  rcases h2 with h2 | ⟨g, cap, cur, rfl, hg, hh, r⟩
  · exact Or.inl h2
  · exact Or.inr ⟨g, cap, cur, rfl, hg, (hc.block g (hlt g rfl).2 (hn g rfl)).trans hh, r⟩
theorem own_base {w : World} {base base' size n : Nat} {e : TypeId} {v : Value} {xs : List Value} (h : w.ownsRow base e size v n xs) (hb : base' ≤ base) : w.ownsRow base' e size v n xs := by
  obtain ⟨h1, h2⟩ := h
  refine ⟨h1, ?_⟩
  rcases h2 with h2 | ⟨g, cap, cur, hv, hg, r⟩
  · exact Or.inl h2
  · exact Or.inr ⟨g, cap, cur, hv, by omega, r⟩
/-- The block of a row has its elements' type. -/
theorem own_type {w : World} {base size n k : Nat} {e : TypeId} {v : Value} {xs : List Value} (h : w.ownsRow base e size v n xs) (hk : v.ownBlock = some k) : ∃ cur, w.heap[k]? = some (.cells cur e (0, 0)) := by
  obtain ⟨h1, h2⟩ := h
  rcases h2 with ⟨rfl, _⟩ | ⟨g, cap, cur, rfl, hg, hh, r⟩
  · simp [Value.ownBlock] at hk
  · simp [Value.ownBlock] at hk; subst hk; exact ⟨_, hh⟩
theorem row_type {w : World} {b n : Nat} {t : TypeId} {f : Nat → Value} (h : w.rowIs b t n f) : ∃ cur, w.heap[b]? = some (.cells cur t (0, 0)) := by
  obtain ⟨cs, h1, _⟩ := h
  exact ⟨cs, h1⟩
/-- A function's slice, and its instructions. -/
def FnAt (base : Nat) (w : World) (x : Value) (f : List Ins) : Prop := ∃ g fc, x = .slice (some ⟨g, 0, none⟩) f.length fc ∧ w.ownsRow base 53 4 x f.length (icells f)
/-- A slice of functions. -/
def FsRow (base : Nat) (w : World) (v : Value) (fs : List (List Ins)) : Prop := ∃ vals : List Value, w.ownsRow base 51 1 v fs.length vals ∧ ∀ (j : Nat) f, fs[j]? = some f → ∃ x, vals[j]? = some x ∧ FnAt base w x f
theorem FsRow.later {S : Nat → Prop} {base : Nat} {w w' : World} {v : Value} {fs : List (List Ins)} (h : FsRow base w v fs) (hc : Ch S w w') (hn : ∀ k cur e, w.heap[k]? = some (.cells cur e (0, 0)) → e = 53 ∨ e = 51 → ¬ S k) : FsRow base w' v fs := by
  obtain ⟨vals, h1, h2⟩ := h
  refine ⟨vals, own_ch h1 hc (fun k hk => ?_), fun j f hf => ?_⟩
  · obtain ⟨cur, hcur⟩ := own_type h1 hk
    exact hn k cur _ hcur (Or.inr rfl)
  · obtain ⟨x, hx, g, fc, rfl, h3⟩ := h2 j f hf
    refine ⟨_, hx, g, fc, rfl, own_ch h3 hc (fun k hk => ?_)⟩
    obtain ⟨cur, hcur⟩ := own_type h3 hk
    exact hn k cur _ hcur (Or.inl rfl)
theorem FsRow.code {base : Nat} {w : World} {v : Value} {fs : List (List Ins)} (h : FsRow base w v fs) : ∃ pa pc, v = .slice pa fs.length pc ∧ CodeAt w.heap.size w pa fs := by
  obtain ⟨vals, h1, h2⟩ := h
  have hlt := World.ownsRow.lt h1
  have h1' := h1
  obtain ⟨_, h3⟩ := h1'
  rcases h3 with ⟨rfl, h0⟩ | ⟨g, cap, cur, rfl, _⟩
  · refine ⟨none, 0, by rw [h0], fun i f hf => ?_⟩
    have := (List.getElem?_eq_some_iff.1 hf).1
    omega
  · refine ⟨_, _, rfl, fun i f hf => ?_⟩
    have hi := (List.getElem?_eq_some_iff.1 hf).1
    obtain ⟨x, hx, gf, fc, rfl, h4⟩ := h2 i f hf
    refine ⟨g, 0, rfl, (hlt g rfl).2, some ⟨gf, 0, none⟩, fc, ?_, fun j y hy => ?_⟩
    · rw [Nat.zero_add]
      exact (h1.cellAt i (by omega)).trans hx
    · have hj := (List.getElem?_eq_some_iff.1 hy).1
      refine ⟨gf, 0, rfl, (World.ownsRow.lt h4 gf rfl).2, ?_, ?_, ?_, ?_⟩
      all_goals rw [Nat.zero_add]
      · exact (h4.cellAt (j * 4 + 0) (by omega)).trans (icells_get f j 0 y hy (by omega))
      · exact (h4.cellAt (j * 4 + 1) (by omega)).trans (icells_get f j 1 y hy (by omega))
      · exact (h4.cellAt (j * 4 + 2) (by omega)).trans (icells_get f j 2 y hy (by omega))
      · exact (h4.cellAt (j * 4 + 3) (by omega)).trans (icells_get f j 3 y hy (by omega))
theorem CodeAt.mono {K K' : Nat} {w : World} {pa : Option Addr} {fs : List (List Ins)} (h : CodeAt K w pa fs) (hK : K ≤ K') : CodeAt K' w pa fs := by
  intro i f hf
  obtain ⟨b, off, h1, h2, fa, fc, h3, h4⟩ := h i f hf
  refine ⟨b, off, h1, by omega, fa, fc, h3, fun j x hx => ?_⟩
  obtain ⟨b', off', g1, g2, g3⟩ := h4 j x hx
  exact ⟨b', off', g1, by omega, g3⟩
theorem ty_ne {w : World} {b n k : Nat} {t e : TypeId} {f : Nat → Value} {cur : Array Value} (h : w.rowIs b t n f) (hk : w.heap[k]? = some (.cells cur e (0, 0))) (hne : e ≠ t) : k ≠ b := by
  rintro rfl
  obtain ⟨cur', hc⟩ := row_type h
  rw [hc] at hk
  injection hk with hk
  injection hk with _ h2 _
  exact hne h2.symm
theorem own_setO {w : World} {base size n b o : Nat} {e : TypeId} {v : Value} {xs : List Value} (h : w.ownsRow base e size v n xs) (hb : ∀ k, v.ownBlock = some k → k ≠ b) (u : Value) : (w.setCell ⟨b, o, none⟩ u).ownsRow base e size v n xs :=
  own_ch (S := fun k => k = b) h ((Ch.refl _ _).setB u) hb
theorem FsRow.code' {base : Nat} {w : World} {pa : Option Addr} {pc : Nat} {fs : List (List Ins)} (h : FsRow base w (.slice pa fs.length pc) fs) : CodeAt w.heap.size w pa fs := by
  obtain ⟨pa', pc', he, hc⟩ := h.code
  cases he
  exact hc
theorem grow_step {K B size n : Nat} {wo wx w9 : World} {e : TypeId} {f : Value} {xs : List Value} (hown : wx.ownsRow wo.heap.size e size f n xs) (hgr : wx.grownBy w9 f.ownBlock) (hL : LOk K B wx) (hC : Ch (· = B) wo wx) (hB : B < wo.heap.size) (hK : K ≤ wo.heap.size) :
    LOk K B w9 ∧ Ch (· = B) wo w9 := by
  have hlt := World.ownsRow.lt hown
  have hg := Ch.of_grown hgr
  exact ⟨hL.later hg (fun i hi e => by have := hlt i e; omega) (fun e => by have := hlt B e; omega), hC.then hg (fun i hi e => by have := hlt i e; omega)⟩
theorem icells_snoc (g : List Ins) (x : Ins) : icells g ++ icell x = icells (g ++ [x]) := by unfold icells; rw [List.flatMap_append]; simp
/-- A program that may run. -/
structure PV (fs : List (List Ins)) (futs depth fuel : Int) : Prop where
  one : 1 ≤ fs.length
  most : fs.length ≤ 12
  futs0 : 0 ≤ futs
  futs1 : futs ≤ 16
  dep0 : 0 ≤ depth
  dep1 : depth ≤ 5
  fuel0 : 1 ≤ fuel
  fuel1 : fuel ≤ 500
  fns : ∀ f ∈ fs, 1 ≤ f.length ∧ f.length ≤ 40 ∧ (∀ x ∈ f, InsIn fs.length futs f.length x) ∧ ∃ x, f[f.length - 1]? = some x ∧ (x.op = 7 ∨ x.op = 15)
/-- A function of a program by numbers. -/
def FnOk (nf futs : Int) (f : List Ins) : Prop := 2 ≤ f.length ∧ f.length ≤ 11 ∧ (∀ x ∈ f, InsIn nf futs f.length x) ∧ ∃ x, f[f.length - 1]? = some x ∧ (x.op = 7 ∨ x.op = 15)
theorem insIn_mono {nf futs n m : Int} {x : Ins} (h : InsIn nf futs n x) (hm : n ≤ m) : InsIn nf futs m x :=
  ⟨h.1, fun e => Int.lt_of_lt_of_le (h.2.1 e) hm, fun e => Int.lt_of_lt_of_le (h.2.2.1 e) hm, h.2.2.2⟩
theorem info48 : (Tryz.prog.info? 53).map (fun i => (i.zero, i.size, i.bytes)) = some (some (.agg #[.int .i64 0, .int .i64 0, .int .i64 0, .int .i64 0]), 4, 32) := by kernel_rfl
theorem info49 : (Tryz.prog.info? 51).map (fun i => (i.zero, i.size, i.bytes)) = some (some (.slice none 0 0), 1, 24) := by kernel_rfl
end Go.Proofs.YtonndofbnhnkpaaGreat.Prg
