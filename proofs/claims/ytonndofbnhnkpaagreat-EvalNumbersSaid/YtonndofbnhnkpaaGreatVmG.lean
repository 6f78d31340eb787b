/- Tasks of package vm: what one instruction leaves as it was. -/
import Derived.Test.YtonndofbnhnkpaaGreatPrgR
import Derived.Test.YtonndofbnhnkpaaGreatVmW
set_option linter.unusedVariables false
set_option linter.unusedSimpArgs false
set_option linter.unusedSectionVars false
namespace Go.Proofs.YtonndofbnhnkpaaGreat.VmG
open Go.RowKit Num KeyM KeyW StatW Blk VmA Prg
/-- All but registers, hands and the end is as it was. -/
structure Same (t u : Tk) : Prop where
  pa : u.pa = t.pa
  pl : u.pl = t.pl
  pc : u.pc = t.pc
  futs : u.futs = t.futs
  depth : u.depth = t.depth
  pfuel : u.pfuel = t.pfuel
  fn : u.fn = t.fn
  place : u.place = t.place
  fuel : u.fuel = t.fuel
  forks : u.forks = t.forks
  key : u.key = t.key
  hands : ∀ j, u.hands j = t.hands j ∨ u.hands j = Hd.zero
theorem Same.refl (t : Tk) : Same t t := ⟨rfl, rfl, rfl, rfl, rfl, rfl, rfl, rfl, rfl, rfl, rfl, fun _ => Or.inl rfl⟩
theorem Same.trans {t u v : Tk} (h : Same t u) (k : Same u v) : Same t v :=
  ⟨k.pa.trans h.pa, k.pl.trans h.pl, k.pc.trans h.pc, k.futs.trans h.futs, k.depth.trans h.depth, k.pfuel.trans h.pfuel, k.fn.trans h.fn, k.place.trans h.place, k.fuel.trans h.fuel, k.forks.trans h.forks, k.key.trans h.key, fun j => by
    rcases k.hands j with e | e
    · rw [e]; exact h.hands j
    · exact Or.inr e⟩
theorem same_stop (t : Tk) (how : Int) : Same t (t.stop how) := by
  unfold Tk.stop; split
  · exact Same.refl t
  · exact ⟨rfl, rfl, rfl, rfl, rfl, rfl, rfl, rfl, rfl, rfl, rfl, fun _ => Or.inl rfl⟩
theorem same_setReg (t : Tk) (i : Nat) (v : Int) : Same t (t.setReg i v) := ⟨rfl, rfl, rfl, rfl, rfl, rfl, rfl, rfl, rfl, rfl, rfl, fun _ => Or.inl rfl⟩
theorem same_clear (t : Tk) (i : Nat) : Same t (t.setHand i Hd.zero) := ⟨rfl, rfl, rfl, rfl, rfl, rfl, rfl, rfl, rfl, rfl, rfl, fun j => by
  show (if j = i then Hd.zero else t.hands j) = t.hands j ∨ (if j = i then Hd.zero else t.hands j) = Hd.zero
  split
  · exact Or.inr rfl
  · exact Or.inl rfl⟩
theorem same_end (t : Tk) (how val : Int) : Same t { t with how := how, val := val } := ⟨rfl, rfl, rfl, rfl, rfl, rfl, rfl, rfl, rfl, rfl, rfl, fun _ => Or.inl rfl⟩
theorem same_joined (t : Tk) (i : Nat) (how val : Int) : Same t (t.joined i how val) := by
  unfold Tk.joined; split
  · exact same_setReg _ _ _
  · exact same_stop _ _
/-- What an instruction does alone: it stays, or it goes to where a jump says. -/
theorem do_same (t : Tk) (i : Ins) : Same t (doM t i) ∨ (i.op = 7 ∧ Same { t with place := i.a } (doM t i)) ∨ (i.op = 8 ∧ Same { t with place := i.b } (doM t i)) := by
  unfold doM
  by_cases g : i.op = 1
  · simp only [if_pos g]
    exact Or.inl (same_setReg _ _ _)
  simp only [if_neg g]
  clear g
  by_cases g : i.op = 2
  · simp only [if_pos g]
    exact Or.inl (same_setReg _ _ _)
  simp only [if_neg g]
  clear g
  by_cases g : i.op = 3
  · simp only [if_pos g]
    exact Or.inl (same_setReg _ _ _)
  simp only [if_neg g]
  clear g
  by_cases g : i.op = 4
  · simp only [if_pos g]
    exact Or.inl (same_setReg _ _ _)
  simp only [if_neg g]
  clear g
  by_cases g : i.op = 6
  · simp only [if_pos g]
    exact Or.inl (same_setReg _ _ _)
  simp only [if_neg g]
  clear g
  by_cases g : i.op = 5
  · simp only [if_pos g]
    by_cases k : wrap32 (t.reg i.c) = 0
    · simp only [if_pos k]; exact Or.inl (same_stop _ _)
    · simp only [if_neg k]; exact Or.inl (same_setReg _ _ _)
  simp only [if_neg g]
  clear g
  by_cases g : i.op = 7
  · simp only [if_pos g]
    exact Or.inr (Or.inl ⟨g, Same.refl _⟩)
  simp only [if_neg g]
  clear g
  by_cases g : i.op = 8
  · simp only [if_pos g]
    by_cases k : t.reg i.a = 0
    · simp only [if_pos k]; exact Or.inr (Or.inr ⟨g, Same.refl _⟩)
    · simp only [if_neg k]; exact Or.inl (Same.refl _)
  simp only [if_neg g]
  clear g
  by_cases g : i.op = 10
  · simp only [if_pos g]
    by_cases k : (t.hand i.b).kind = 0
    · simp only [if_pos k]; exact Or.inl ((same_clear _ _).trans (same_stop _ _))
    · simp only [if_neg k]; exact Or.inl ((same_clear _ _).trans (same_joined _ _ _ _))
  simp only [if_neg g]
  clear g
  by_cases g : i.op = 13
  · simp only [if_pos g]
    by_cases k : (t.hand i.a).kind = 0
    · simp only [if_pos k]; exact Or.inl (same_stop _ _)
    · simp only [if_neg k]; exact Or.inl (Same.refl _)
  simp only [if_neg g]
  clear g
  by_cases g : i.op = 15
  · simp only [if_pos g]
    exact Or.inl (same_end _ _ _)
  simp only [if_neg g]
  clear g
  exact Or.inl (Same.refl _)
theorem ask_same (t : Tk) (i : Ins) : Same t (askM t i).2 ∨ (i.op = 9 ∧ t.forks < 1000 ∧ t.depth > dep t.key ∧ (askM t i).1.kind = 1 ∧ Same { t with forks := t.forks + 1 } (askM t i).2) := by
  unfold askM
  by_cases g : i.op = 9
  · simp only [if_pos g]
    unfold forkM
    by_cases k : t.depth ≤ dep t.key
    · simp only [if_pos k]; exact Or.inl (same_stop _ _)
    simp only [if_neg k]
    by_cases k2 : 1000 ≤ t.forks
    · simp only [if_pos k2]; exact Or.inl (same_stop _ _)
    · simp only [if_neg k2]; exact Or.inr ⟨g, by omega, by omega, trivial, Same.refl _⟩
  simp only [if_neg g]
  clear g
  by_cases g : i.op = 10
  · simp only [if_pos g]
    by_cases k : (t.hand i.b).kind = 1
    · simp only [if_pos k]; exact Or.inl (same_clear _ _)
    · simp only [if_neg k]; exact Or.inl (Same.refl _)
  simp only [if_neg g]
  clear g
  by_cases g : i.op = 11
  · simp only [if_pos g]
    exact Or.inl (Same.refl _)
  simp only [if_neg g]
  clear g
  by_cases g : i.op = 12
  · simp only [if_pos g]
    exact Or.inl (Same.refl _)
  simp only [if_neg g]
  clear g
  by_cases g : i.op = 13
  · simp only [if_pos g]
    by_cases k : (t.hand i.a).kind = 1
    · simp only [if_pos k]; exact Or.inl (Same.refl _)
    · simp only [if_neg k]; exact Or.inl (Same.refl _)
  simp only [if_neg g]
  clear g
  by_cases g : i.op = 14
  · simp only [if_pos g]
    exact Or.inl (Same.refl _)
  simp only [if_neg g]
  clear g
  exact Or.inl (Same.refl _)
theorem do_jump_place (t : Tk) (i : Ins) (h : i.op = 7) : (doM t i).place = i.a := by
  unfold doM
  rw [if_neg (by omega), if_neg (by omega), if_neg (by omega), if_neg (by omega), if_neg (by omega), if_neg (by omega), if_pos h]
theorem do_ret_end (t : Tk) (i : Ins) (h : i.op = 15) : endB (doM t i) = true := by
  unfold doM
  rw [if_neg (by omega), if_neg (by omega), if_neg (by omega), if_neg (by omega), if_neg (by omega), if_neg (by omega), if_neg (by omega), if_neg (by omega), if_neg (by omega), if_neg (by omega), if_pos h]
  rfl
theorem ask_none_kind (t : Tk) (i : Ins) (h : i.op ≠ 9 ∧ i.op ≠ 10 ∧ i.op ≠ 11 ∧ i.op ≠ 12 ∧ i.op ≠ 13 ∧ i.op ≠ 14) : askM t i = (Act.zero, t) := by
  obtain ⟨h1, h2, h3, h4, h5, h6⟩ := h
  unfold askM
  rw [if_neg h1, if_neg h2, if_neg h3, if_neg h4, if_neg h5, if_neg h6]
/-- A task under way in a program that may run. -/
structure Ok (fs : List (List Ins)) (futs : Int) (t : Tk) : Prop where
  key : chk t.key = true
  depth : t.depth ≤ 5
  forks : 0 ≤ t.forks
  place : endB t = false → ∃ (n p : Nat) (f : List Ins) (i : Ins), t.fn = n ∧ fs[n]? = some f ∧ t.place = p ∧ f[p]? = some i ∧ p ≤ 40 ∧ InsIn fs.length futs f.length i ∧ (p + 1 < f.length ∨ i.op = 7 ∨ i.op = 15) ∧
    (∀ q : Nat, q < f.length → ∃ y, f[q]? = some y ∧ q ≤ 40 ∧ InsIn fs.length futs f.length y ∧ (q + 1 < f.length ∨ y.op = 7 ∨ y.op = 15))
theorem fn_at {fs : List (List Ins)} {futs depth fuel : Int} (h : PV fs futs depth fuel) {n : Nat} {f : List Ins} (hf : fs[n]? = some f) (q : Nat) (hq : q < f.length) : ∃ y, f[q]? = some y ∧ q ≤ 40 ∧ InsIn fs.length futs f.length y ∧ (q + 1 < f.length ∨ y.op = 7 ∨ y.op = 15) := by
  obtain ⟨h1, h2, h3, x, h4, h5⟩ := h.fns f (List.mem_of_getElem? hf)
  refine ⟨f[q], List.getElem?_eq_getElem hq, by omega, h3 _ (List.getElem_mem hq), ?_⟩
  by_cases e : q + 1 < f.length
  · exact Or.inl e
  · obtain rfl : q = f.length - 1 := by omega
    rw [List.getElem?_eq_getElem hq] at h4
    injection h4 with h4
    rw [h4]
    exact Or.inr h5
/-- What every instruction leaves: all that is said of the program, the fuel one less. -/
structure Stay (t u : Tk) : Prop where
  pa : u.pa = t.pa
  pl : u.pl = t.pl
  pc : u.pc = t.pc
  futs : u.futs = t.futs
  depth : u.depth = t.depth
  fn : u.fn = t.fn
  fuel : u.fuel = t.fuel - 1
  key : u.key = t.key
  forks : t.forks ≤ u.forks ∧ u.forks ≤ t.forks + 1
  hands : ∀ j, u.hands j = t.hands j ∨ u.hands j = Hd.zero
theorem step_stay (t : Tk) (i : Ins) : Stay t (stepM t i).2 ∧ ((stepM t i).2.place = t.place + 1 ∨ (i.op = 7 ∧ (stepM t i).2.place = i.a) ∨ (i.op = 8 ∧ (stepM t i).2.place = i.b)) ∧ (i.op = 7 → (stepM t i).2.place = i.a) ∧ (i.op = 15 → endB (stepM t i).2 = true) := by
  obtain ⟨t1, ht1⟩ : ∃ t1 : Tk, { t with fuel := t.fuel - 1, place := t.place + 1 } = t1 := ⟨_, rfl⟩
  obtain ⟨r, hr⟩ : ∃ r, askM t1 i = r := ⟨_, rfl⟩
  have hs : stepM t i = if r.1.kind = 0 then (Act.zero, doM r.2 i) else r := by unfold stepM; simp only []; rw [ht1, hr]
  have h1 : Stay t r.2 ∧ r.2.place = t.place + 1 := by
    have := ask_same t1 i
    rw [hr] at this
    rcases this with h | ⟨_, _, _, _, h⟩
    · subst ht1
      exact ⟨⟨h.pa, h.pl, h.pc, h.futs, h.depth, h.fn, h.fuel, h.key, by have := h.forks; simp only at this; omega, h.hands⟩, h.place⟩
    · subst ht1
      exact ⟨⟨h.pa, h.pl, h.pc, h.futs, h.depth, h.fn, h.fuel, h.key, by have := h.forks; simp only at this; omega, h.hands⟩, h.place⟩
  obtain ⟨h1, hp⟩ := h1
  have hn : i.op = 7 ∨ i.op = 15 → r = (Act.zero, t1) := fun h => by rw [← hr]; exact ask_none_kind t1 i (by omega)
  rw [hs]
  by_cases hk : r.1.kind = 0
  · rw [if_pos hk]
    simp only
    refine ⟨?_, ?_, fun h => do_jump_place _ _ h, fun h => do_ret_end _ _ h⟩
    · have far : ∀ (x : Int) (u : Tk), Same { r.2 with place := x } u → Stay t u := fun x u h =>
        ⟨h.pa.trans h1.pa, h.pl.trans h1.pl, h.pc.trans h1.pc, h.futs.trans h1.futs, h.depth.trans h1.depth, h.fn.trans h1.fn, h.fuel.trans h1.fuel, h.key.trans h1.key, by have := h.forks; simp only at this; have := h1.forks; omega, fun j => by
          rcases h.hands j with e | e
          · rw [e]; exact h1.hands j
          · exact Or.inr e⟩
      rcases do_same r.2 i with h | ⟨_, h⟩ | ⟨_, h⟩
      · exact far r.2.place _ h
      · exact far _ _ h
      · exact far _ _ h
    · rcases do_same r.2 i with h | ⟨g, h⟩ | ⟨g, h⟩
      · exact Or.inl (h.place.trans hp)
      · exact Or.inr (Or.inl ⟨g, h.place⟩)
      · exact Or.inr (Or.inr ⟨g, h.place⟩)
  · rw [if_neg hk]
    refine ⟨h1, Or.inl hp, fun h => ?_, fun h => ?_⟩
    · rw [hn (Or.inl h)] at hk; exact absurd rfl hk
    · rw [hn (Or.inr h)] at hk; exact absurd rfl hk
theorem step_kind (t : Tk) (i : Ins) : (stepM t i).1 = Act.zero ∨ 1 ≤ (stepM t i).1.kind ∧ (stepM t i).1.kind ≤ 6 := by
  unfold stepM
  simp only []
  split
  · exact Or.inl rfl
  · rename_i h
    rcases askM_kind { t with fuel := t.fuel - 1, place := t.place + 1 } i with e | e
    · rw [e] at h; exact absurd rfl h
    · exact Or.inr e
theorem ok_step {fs : List (List Ins)} {futs depth fuel : Int} {t : Tk} {n p : Nat} {f : List Ins} {i : Ins} (hP : PV fs futs depth fuel) (h : Ok fs futs t) (hn : t.fn = n) (hf : fs[n]? = some f) (hp : t.place = p) (hi : f[p]? = some i) : Ok fs futs (stepM t i).2 := by
  obtain ⟨s, pl, pj, pr⟩ := step_stay t i
  have hpl := (List.getElem?_eq_some_iff.1 hi).1
  refine ⟨by rw [s.key]; exact h.key, by rw [s.depth]; exact h.depth, by have := s.forks; have := h.forks; omega, fun he => ?_⟩
  have hall := fun q hq => fn_at hP hf q hq
  obtain ⟨y, hy, h40, hin, hlast⟩ := hall p hpl
  rw [hi] at hy
  injection hy with hy
  subst hy
  have tgt : ∃ q : Nat, (stepM t i).2.place = q ∧ q < f.length := by
    by_cases h7 : i.op = 7
    · have h0 : Rg i.a 40 := by rcases hin.1 with g | g | g | g | g | g | g | g | g | g | g <;> first | exact g.2.1 | (exfalso; omega)
      have := hin.2.1 h7
      refine ⟨i.a.toNat, ?_, by unfold Rg at h0; omega⟩
      rw [pj h7]; unfold Rg at h0; omega
    · rcases pl with e | ⟨g, _⟩ | ⟨g, e⟩
      · refine ⟨p + 1, by rw [e, hp]; omega, ?_⟩
        rcases hlast with g | g | g
        · exact g
        · exact absurd g h7
        · rw [pr g] at he; cases he
      · exact absurd g h7
      · have h0 : Rg i.b 40 := by rcases hin.1 with g' | g' | g' | g' | g' | g' | g' | g' | g' | g' | g' <;> first | exact g'.2.2.1 | (exfalso; omega)
        have := hin.2.2.1 g
        refine ⟨i.b.toNat, ?_, by unfold Rg at h0; omega⟩
        rw [e]; unfold Rg at h0; omega
  obtain ⟨q, hq, hql⟩ := tgt
  obtain ⟨z, hz, hz1, hz2, hz3⟩ := hall q hql
  exact ⟨n, q, f, z, by rw [s.fn]; exact hn, hf, hq, hz, hz1, hz2, hz3, hall⟩
end Go.Proofs.YtonndofbnhnkpaaGreat.VmG
