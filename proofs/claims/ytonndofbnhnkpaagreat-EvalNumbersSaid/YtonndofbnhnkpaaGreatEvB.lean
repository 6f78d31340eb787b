/- The evaluator in plain Lean. The evaluator in plain Lean: it ends. The evaluator in plain Lean: how many there are at most. The evaluator in plain Lean: a task's key and function stay. A task of the machine's beside one of the reference's: plain Lean. -/
import Derived.Test.YtonndofbnhnkpaaGreatVmG
import Derived.Test.YtonndofbnhnkpaaGreatKeyB
set_option linter.unusedVariables false
set_option linter.unusedSimpArgs false
set_option linter.unusedSectionVars false
namespace Go.Proofs.YtonndofbnhnkpaaGreat.EvM
open Go.RowKit Num KeyM VmA VmG Prg
structure FRan where
  key : Int
  fn : Int
  arg : Int
  how : Int
  val : Int
/-- A task of the reference's. -/
structure RT where
  regs : Nat → Int
  has : Nat → Bool
  hh : Nat → Int
  hv : Nat → Int
  fn : Int
  place : Int
  fuel : Int
  forks : Int
  key : Int
  how : Int
  val : Int
structure RS where
  ran : List FRan
  futs : Nat → Int
  was : Nat → Bool
  steps : Int
  forks : Int
  over : Bool
def upd {α : Type} (f : Nat → α) (i : Nat) (v : α) : Nat → α := fun j => if j = i then v else f j
def RT.reg (t : RT) (x : Int) : Int := t.regs x.toNat
def RT.setReg (t : RT) (x v : Int) : RT := { t with regs := upd t.regs x.toNat v }
def RT.ends (t : RT) (how : Int) : RT := { t with how := how }
/-- What a task did, in the order of keys. -/
def put : List FRan → FRan → List FRan
  | [], x => [x]
  | y :: l, x => if y.key < x.key then y :: put l x else x :: y :: l
/-- An instruction that is no fork. -/
def oneM (t : RT) (S : RS) (i : Ins) : RT × RS :=
  if i.op = 1 then (t.setReg i.a i.b, S)
  else if i.op = 2 then (t.setReg i.a (add (t.reg i.b) (t.reg i.c)), S)
  else if i.op = 3 then (t.setReg i.a (sub (t.reg i.b) (t.reg i.c)), S)
  else if i.op = 4 then (t.setReg i.a (mul (t.reg i.b) (t.reg i.c)), S)
  else if i.op = 6 then (t.setReg i.a (lessv (t.reg i.b) (t.reg i.c)), S)
  else if i.op = 5 then (if wrap32 (t.reg i.c) = 0 then (t.ends 2, S) else (t.setReg i.a (divq (t.reg i.b) (t.reg i.c)), S))
  else if i.op = 7 then ({ t with place := i.a }, S)
  else if i.op = 8 then (if t.reg i.a = 0 then ({ t with place := i.b }, S) else (t, S))
  else if i.op = 15 then ({ t with how := 1, val := t.reg i.a }, S)
  else if i.op = 10 then
    (if t.has i.b.toNat = false then (t.ends 7, S)
     else if t.hh i.b.toNat = 1 then (({ t with has := upd t.has i.b.toNat false }).setReg i.a (t.hv i.b.toNat), S)
     else ({ t with has := upd t.has i.b.toNat false, how := t.hh i.b.toNat }, S))
  else if i.op = 11 then (if S.was i.a.toNat = true then (t.ends 3, S) else (t, { S with was := upd S.was i.a.toNat true, futs := upd S.futs i.a.toNat (t.reg i.b) }))
  else if i.op = 12 then (if S.was i.b.toNat = false then (t.ends 4, S) else (t.setReg i.a (S.futs i.b.toNat), S))
  else if i.op = 13 then (if t.has i.a.toNat = false then (t.ends 7, S) else (t, S))
  else (t, S)
/-- A task that begins. -/
def rt0 (fn arg key fuel : Int) : RT := ⟨fun j => if j = 0 then wrap32 arg else 0, fun _ => false, fun _ => 0, fun _ => 0, fn, 0, fuel, 0, key, 0, 0⟩
/-- A task has come to its end. -/
def finish (u : RT) (S : RS) (arg : Int) : RS := if S.over then S else { S with ran := put S.ran ⟨u.key, u.fn, wrap32 arg, u.how, u.val⟩ }
def insAt (fs : List (List Ins)) (t : RT) : Option Ins := (fs[t.fn.toNat]?).bind (·[t.place.toNat]?)
def evLoop (fs : List (List Ins)) (depth fuel0 most : Int) : Nat → RT → RS → Option (RT × RS)
  | 0, _, _ => none
  | n + 1, t, S =>
    if t.how ≠ 0 ∨ S.over = true then some (t, S)
    else if t.fuel = 0 then some (t.ends 5, S)
    else if most ≤ S.steps then some (t, { S with over := true })
    else match insAt fs t with
      | none => none
      | some i =>
        if i.op = 9 then
          (if depth ≤ dep t.key then evLoop fs depth fuel0 most n ({ t with fuel := t.fuel - 1, place := t.place + 1, how := 6 }) { S with steps := S.steps + 1 }
           else if 1000 ≤ t.forks then evLoop fs depth fuel0 most n ({ t with fuel := t.fuel - 1, place := t.place + 1, how := 9 }) { S with steps := S.steps + 1 }
           else match evLoop fs depth fuel0 most n (rt0 i.b (t.reg i.c) (child t.key (t.forks + 1)) fuel0) { S with steps := S.steps + 1, forks := S.forks + 1 } with
             | none => none
             | some (u, S2) => evLoop fs depth fuel0 most n { t with fuel := t.fuel - 1, place := t.place + 1, forks := t.forks + 1, has := upd t.has i.a.toNat true, hh := upd t.hh i.a.toNat u.how, hv := upd t.hv i.a.toNat u.val } (finish u S2 (t.reg i.c)))
        else evLoop fs depth fuel0 most n (oneM { t with fuel := t.fuel - 1, place := t.place + 1 } { S with steps := S.steps + 1 } i).1 (oneM { t with fuel := t.fuel - 1, place := t.place + 1 } { S with steps := S.steps + 1 } i).2
section
variable {fs : List (List Ins)} {depth fuel0 most : Int}
theorem evLoop_mono : ∀ {n : Nat} {t : RT} {S : RS} {r : RT × RS}, evLoop fs depth fuel0 most n t S = some r → evLoop fs depth fuel0 most (n + 1) t S = some r
  | 0, _, _, _, h => by simp [evLoop] at h
  | n + 1, t, S, r, h => by
    unfold evLoop at h ⊢
    by_cases h1 : t.how ≠ 0 ∨ S.over = true
    · rw [if_pos h1] at h ⊢; exact h
    rw [if_neg h1] at h ⊢
    by_cases h2 : t.fuel = 0
    · rw [if_pos h2] at h ⊢; exact h
    rw [if_neg h2] at h ⊢
    by_cases h3 : most ≤ S.steps
    · rw [if_pos h3] at h ⊢; exact h
    rw [if_neg h3] at h ⊢
    cases hi : insAt fs t with
    | none => rw [hi] at h; exact h
    | some i =>
      rw [hi] at h
      simp only at h ⊢
      by_cases h4 : i.op = 9
      · rw [if_pos h4] at h ⊢
        by_cases h5 : depth ≤ dep t.key
        · rw [if_pos h5] at h ⊢; exact evLoop_mono h
        rw [if_neg h5] at h ⊢
        by_cases h6 : 1000 ≤ t.forks
        · rw [if_pos h6] at h ⊢; exact evLoop_mono h
        rw [if_neg h6] at h ⊢
        cases hc : evLoop fs depth fuel0 most n (rt0 i.b (t.reg i.c) (child t.key (t.forks + 1)) fuel0) { S with steps := S.steps + 1, forks := S.forks + 1 } with
        | none => rw [hc] at h; cases h
        | some q =>
          rw [hc] at h
          rw [evLoop_mono hc]
          exact evLoop_mono h
      · rw [if_neg h4] at h ⊢
        exact evLoop_mono h
theorem evLoop_le {n m : Nat} {t : RT} {S : RS} {r : RT × RS} (h : evLoop fs depth fuel0 most n t S = some r) (hm : n ≤ m) : evLoop fs depth fuel0 most m t S = some r := by
  obtain ⟨k, rfl⟩ : ∃ k, m = n + k := ⟨m - n, by omega⟩
  clear hm
  induction k with
  | zero => exact h
  | succ k ih => exact evLoop_mono ih
end
end Go.Proofs.YtonndofbnhnkpaaGreat.EvM
namespace Go.Proofs.YtonndofbnhnkpaaGreat.EvM
open Go.RowKit Num KeyM VmA VmG Prg
/-- An instruction of a function that may stand there. -/
def Here (fs : List (List Ins)) (futs : Int) (f : List Ins) (p : Nat) (i : Ins) : Prop := f[p]? = some i ∧ p ≤ 40 ∧ InsIn fs.length futs f.length i ∧ (p + 1 < f.length ∨ i.op = 7 ∨ i.op = 15)
/-- A task of the reference's under way. -/
structure ROk (fs : List (List Ins)) (futs : Int) (t : RT) : Prop where
  key : chk t.key = true
  forks : 0 ≤ t.forks
  fuel : 0 ≤ t.fuel
  place : t.how = 0 → ∃ (n p : Nat) (f : List Ins), t.fn = n ∧ fs[n]? = some f ∧ t.place = p ∧ p < f.length
/-- What no instruction but a fork turns. -/
structure RStay (t u : RT) : Prop where
  fn : u.fn = t.fn
  fuel : u.fuel = t.fuel
  forks : u.forks = t.forks
  key : u.key = t.key
theorem one_stay (t : RT) (S : RS) (i : Ins) : RStay t (oneM t S i).1 ∧ ((oneM t S i).1.place = t.place ∨ (i.op = 7 ∧ (oneM t S i).1.place = i.a) ∨ (i.op = 8 ∧ (oneM t S i).1.place = i.b)) := by
  unfold oneM
  by_cases g : i.op = 1
  · simp only [if_pos g]
    exact ⟨⟨rfl, rfl, rfl, rfl⟩, Or.inl (by first | rfl | trivial)⟩
  simp only [if_neg g]
  clear g
  by_cases g : i.op = 2
  · simp only [if_pos g]
    exact ⟨⟨rfl, rfl, rfl, rfl⟩, Or.inl (by first | rfl | trivial)⟩
  simp only [if_neg g]
  clear g
  by_cases g : i.op = 3
  · simp only [if_pos g]
    exact ⟨⟨rfl, rfl, rfl, rfl⟩, Or.inl (by first | rfl | trivial)⟩
  simp only [if_neg g]
  clear g
  by_cases g : i.op = 4
  · simp only [if_pos g]
    exact ⟨⟨rfl, rfl, rfl, rfl⟩, Or.inl (by first | rfl | trivial)⟩
  simp only [if_neg g]
  clear g
  by_cases g : i.op = 6
  · simp only [if_pos g]
    exact ⟨⟨rfl, rfl, rfl, rfl⟩, Or.inl (by first | rfl | trivial)⟩
  simp only [if_neg g]
  clear g
  by_cases g : i.op = 5
  · simp only [if_pos g]
    by_cases k : wrap32 (t.reg i.c) = 0
    · simp only [if_pos k]; exact ⟨⟨rfl, rfl, rfl, rfl⟩, Or.inl (by first | rfl | trivial)⟩
    · simp only [if_neg k]; exact ⟨⟨rfl, rfl, rfl, rfl⟩, Or.inl (by first | rfl | trivial)⟩
  simp only [if_neg g]
  clear g
  by_cases g : i.op = 7
  · simp only [if_pos g]
    exact ⟨⟨rfl, rfl, rfl, rfl⟩, Or.inr (Or.inl ⟨g, by first | rfl | trivial⟩)⟩
  simp only [if_neg g]
  clear g
  by_cases g : i.op = 8
  · simp only [if_pos g]
    by_cases k : t.reg i.a = 0
    · simp only [if_pos k]; exact ⟨⟨rfl, rfl, rfl, rfl⟩, Or.inr (Or.inr ⟨g, by first | rfl | trivial⟩)⟩
    · simp only [if_neg k]; exact ⟨⟨rfl, rfl, rfl, rfl⟩, Or.inl (by first | rfl | trivial)⟩
  simp only [if_neg g]
  clear g
  by_cases g : i.op = 15
  · simp only [if_pos g]
    exact ⟨⟨rfl, rfl, rfl, rfl⟩, Or.inl (by first | rfl | trivial)⟩
  simp only [if_neg g]
  clear g
  by_cases g : i.op = 10
  · simp only [if_pos g]
    by_cases k : t.has i.b.toNat = false
    · simp only [if_pos k]; exact ⟨⟨rfl, rfl, rfl, rfl⟩, Or.inl (by first | rfl | trivial)⟩
    simp only [if_neg k]
    by_cases k : t.hh i.b.toNat = 1
    · simp only [if_pos k]; exact ⟨⟨rfl, rfl, rfl, rfl⟩, Or.inl (by first | rfl | trivial)⟩
    · simp only [if_neg k]; exact ⟨⟨rfl, rfl, rfl, rfl⟩, Or.inl (by first | rfl | trivial)⟩
  simp only [if_neg g]
  clear g
  by_cases g : i.op = 11
  · simp only [if_pos g]
    by_cases k : S.was i.a.toNat = true
    · simp only [if_pos k]; exact ⟨⟨rfl, rfl, rfl, rfl⟩, Or.inl (by first | rfl | trivial)⟩
    · simp only [if_neg k]; exact ⟨⟨rfl, rfl, rfl, rfl⟩, Or.inl (by first | rfl | trivial)⟩
  simp only [if_neg g]
  clear g
  by_cases g : i.op = 12
  · simp only [if_pos g]
    by_cases k : S.was i.b.toNat = false
    · simp only [if_pos k]; exact ⟨⟨rfl, rfl, rfl, rfl⟩, Or.inl (by first | rfl | trivial)⟩
    · simp only [if_neg k]; exact ⟨⟨rfl, rfl, rfl, rfl⟩, Or.inl (by first | rfl | trivial)⟩
  simp only [if_neg g]
  clear g
  by_cases g : i.op = 13
  · simp only [if_pos g]
    by_cases k : t.has i.a.toNat = false
    · simp only [if_pos k]; exact ⟨⟨rfl, rfl, rfl, rfl⟩, Or.inl (by first | rfl | trivial)⟩
    · simp only [if_neg k]; exact ⟨⟨rfl, rfl, rfl, rfl⟩, Or.inl (by first | rfl | trivial)⟩
  simp only [if_neg g]
  clear g
  exact ⟨⟨rfl, rfl, rfl, rfl⟩, Or.inl (by first | rfl | trivial)⟩
theorem one_jump (t : RT) (S : RS) (i : Ins) (h : i.op = 7) : (oneM t S i).1.place = i.a := by
  unfold oneM
  rw [if_neg (by omega), if_neg (by omega), if_neg (by omega), if_neg (by omega), if_neg (by omega), if_neg (by omega), if_pos h]
theorem one_ret (t : RT) (S : RS) (i : Ins) (h : i.op = 15) : (oneM t S i).1.how = 1 := by
  unfold oneM
  rw [if_neg (by omega), if_neg (by omega), if_neg (by omega), if_neg (by omega), if_neg (by omega), if_neg (by omega), if_neg (by omega), if_neg (by omega), if_pos h]
variable {fs : List (List Ins)} {futs depth fuel0 most : Int}
theorem ins_here (hP : PV fs futs depth fuel0) {n p : Nat} {f : List Ins} (hf : fs[n]? = some f) (hp : p < f.length) : ∃ i, Here fs futs f p i := by
  obtain ⟨y, h⟩ := fn_at hP hf p hp
  exact ⟨y, h⟩
theorem insAt_of {t : RT} {n p : Nat} {f : List Ins} {i : Ins} (hn : t.fn = n) (hf : fs[n]? = some f) (hp : t.place = p) (hi : f[p]? = some i) : insAt fs t = some i := by
  unfold insAt
  rw [hn, hp]
  simp [hf, hi]
theorem rok_next (hP : PV fs futs depth fuel0) {t : RT} {S : RS} {n p : Nat} {f : List Ins} {i : Ins} (h : ROk fs futs t) (hf0 : 0 < t.fuel) (hn : t.fn = n) (hf : fs[n]? = some f) (hp : t.place = p) (hi : Here fs futs f p i) :
    ROk fs futs (oneM { t with fuel := t.fuel - 1, place := t.place + 1 } S i).1 ∧ (oneM { t with fuel := t.fuel - 1, place := t.place + 1 } S i).1.fuel = t.fuel - 1 ∧ (oneM { t with fuel := t.fuel - 1, place := t.place + 1 } S i).1.key = t.key := by
  obtain ⟨s, pl⟩ := one_stay { t with fuel := t.fuel - 1, place := t.place + 1 } S i
  obtain ⟨h1, h2, h3, h4⟩ := hi
  refine ⟨⟨by rw [s.key]; exact h.key, by rw [s.forks]; exact h.forks, by rw [s.fuel]; show 0 ≤ t.fuel - 1; omega, fun he => ?_⟩, s.fuel, s.key⟩
  have hpl := (List.getElem?_eq_some_iff.1 h1).1
  have hfn : (oneM { t with fuel := t.fuel - 1, place := t.place + 1 } S i).1.fn = n := s.fn.trans hn
  by_cases h7 : i.op = 7
  · have h0 : Rg i.a 40 := by rcases h3.1 with g | g | g | g | g | g | g | g | g | g | g <;> first | exact g.2.1 | (exfalso; omega)
    have := h3.2.1 h7
    unfold Rg at h0
    exact ⟨n, i.a.toNat, f, hfn, hf, by rw [one_jump _ _ _ h7]; omega, by omega⟩
  · rcases pl with e | ⟨g, _⟩ | ⟨g, e⟩
    · refine ⟨n, p + 1, f, hfn, hf, by rw [e]; show t.place + 1 = _; omega, ?_⟩
      rcases h4 with g | g | g
      · exact g
      · exact absurd g h7
      · rw [one_ret _ _ _ g] at he; cases he
    · exact absurd g h7
    · have h0 : Rg i.b 40 := by rcases h3.1 with g' | g' | g' | g' | g' | g' | g' | g' | g' | g' | g' <;> first | exact g'.2.2.1 | (exfalso; omega)
      have := h3.2.2.1 g
      unfold Rg at h0
      exact ⟨n, i.b.toNat, f, hfn, hf, by rw [e]; omega, by omega⟩
/-- A new task. -/
theorem rok_new (hP : PV fs futs depth fuel0) {fn arg key : Int} {n : Nat} (hn : fn = n) (hnl : n < fs.length) (hk : chk key = true) : ROk fs futs (rt0 fn arg key fuel0) := by
  have := hP.fuel0
  refine ⟨hk, Int.le_refl _, by show 0 ≤ fuel0; omega, fun _ => ?_⟩
  obtain ⟨f, hf⟩ : ∃ f, fs[n]? = some f := ⟨_, List.getElem?_eq_getElem hnl⟩
  exact ⟨n, 0, f, hn, hf, rfl, by have := (hP.fns f (List.mem_of_getElem? hf)).1; omega⟩
theorem term (hP : PV fs futs depth fuel0) : ∀ (d F : Nat) (t : RT) (S : RS), dep t.key + d = 5 → t.fuel = F → ROk fs futs t → ∃ n r, evLoop fs depth fuel0 most n t S = some r := by
  intro d
  induction d using Nat.strongRecOn with
  | ind d ihd =>
    intro F
    induction F with
    | zero =>
      intro t S hd hF h
      by_cases h1 : t.how ≠ 0 ∨ S.over = true
      · exact ⟨1, _, by unfold evLoop; rw [if_pos h1]⟩
      · exact ⟨1, _, by unfold evLoop; rw [if_neg h1, if_pos (by omega)]⟩
    | succ F ih =>
      intro t S hd hF h
      by_cases h1 : t.how ≠ 0 ∨ S.over = true
      · exact ⟨1, _, by unfold evLoop; rw [if_pos h1]⟩
      have h2 : ¬ t.fuel = 0 := by omega
      by_cases h3 : most ≤ S.steps
      · exact ⟨1, _, by unfold evLoop; rw [if_neg h1, if_neg h2, if_pos h3]⟩
      have h0 : t.how = 0 := by
        rcases Decidable.em (t.how = 0) with e | e
        · exact e
        · exact absurd (Or.inl e) h1
      obtain ⟨n, p, f, hn, hf, hp, hpl⟩ := h.place h0
      obtain ⟨i, hi⟩ := ins_here hP hf hpl
      have hia := insAt_of hn hf hp hi.1
      by_cases h9 : i.op = 9
      · by_cases h5 : depth ≤ dep t.key
        · obtain ⟨m, r, e⟩ := ih { t with fuel := t.fuel - 1, place := t.place + 1, how := 6 } { S with steps := S.steps + 1 } hd (by show t.fuel - 1 = F; omega) ⟨h.key, h.forks, by show 0 ≤ t.fuel - 1; omega, fun e => by simp at e⟩
          exact ⟨m + 1, r, by unfold evLoop; rw [if_neg h1, if_neg h2, if_neg h3, hia]; simp only; rw [if_pos h9, if_pos h5]; exact e⟩
        by_cases h6 : 1000 ≤ t.forks
        · obtain ⟨m, r, e⟩ := ih { t with fuel := t.fuel - 1, place := t.place + 1, how := 9 } { S with steps := S.steps + 1 } hd (by show t.fuel - 1 = F; omega) ⟨h.key, h.forks, by show 0 ≤ t.fuel - 1; omega, fun e => by simp at e⟩
          exact ⟨m + 1, r, by unfold evLoop; rw [if_neg h1, if_neg h2, if_neg h3, hia]; simp only; rw [if_pos h9, if_neg h5, if_pos h6]; exact e⟩
        · have hd1 := hP.dep1
          have hfk := h.forks
          have hb := born h.key (show 1 ≤ t.forks + 1 by omega) (by omega) (by omega)
          have hpl2 : p + 1 < f.length := by
            rcases hi.2.2.2 with g | g | g
            · exact g
            · omega
            · omega
          have hbn : 0 ≤ i.b ∧ i.b < fs.length := by
            have := hi.2.2.1.2.2.2.1 h9
            have h0 : Rg i.b 12 := by rcases hi.2.2.1.1 with g | g | g | g | g | g | g | g | g | g | g <;> first | exact g.2.2.1 | (exfalso; omega)
            unfold Rg at h0
            omega
          have hfu := hP.fuel0
          obtain ⟨m1, ⟨u, S2⟩, e1⟩ := ihd (d - 1) (by omega) fuel0.toNat (rt0 i.b (t.reg i.c) (child t.key (t.forks + 1)) fuel0) { S with steps := S.steps + 1, forks := S.forks + 1 } (by show dep (child t.key (t.forks + 1)) + _ = _; rw [hb.dep]; omega) (by show fuel0 = _; omega) (rok_new hP (n := i.b.toNat) (by omega) (by omega) hb.chk)
          obtain ⟨m2, r, e2⟩ := ih { t with fuel := t.fuel - 1, place := t.place + 1, forks := t.forks + 1, has := upd t.has i.a.toNat true, hh := upd t.hh i.a.toNat u.how, hv := upd t.hv i.a.toNat u.val } (finish u S2 (t.reg i.c)) hd (by show t.fuel - 1 = F; omega) ⟨h.key, by show 0 ≤ t.forks + 1; omega, by show 0 ≤ t.fuel - 1; omega, fun _ => ⟨n, p + 1, f, hn, hf, by show t.place + 1 = _; omega, hpl2⟩⟩
          refine ⟨max m1 m2 + 1, r, ?_⟩
          unfold evLoop
          rw [if_neg h1, if_neg h2, if_neg h3, hia]
          simp only
          rw [if_pos h9, if_neg h5, if_neg h6, evLoop_le e1 (by omega)]
          exact evLoop_le e2 (by omega)
      · obtain ⟨g1, g2, g3⟩ := rok_next (S := { S with steps := S.steps + 1 }) hP h (by omega) hn hf hp hi
        obtain ⟨m, r, e⟩ := ih _ (oneM { t with fuel := t.fuel - 1, place := t.place + 1 } { S with steps := S.steps + 1 } i).2 (by rw [g3]; exact hd) (by rw [g2]; omega) g1
        exact ⟨m + 1, r, by unfold evLoop; rw [if_neg h1, if_neg h2, if_neg h3, hia]; simp only; rw [if_neg h9]; exact e⟩
end Go.Proofs.YtonndofbnhnkpaaGreat.EvM
namespace Go.Proofs.YtonndofbnhnkpaaGreat.EvM
open Go.RowKit Num KeyM VmA VmG Prg
/-- Bounds of an evaluation. -/
structure SOk (k : Nat) (most : Int) (S : RS) : Prop where
  rf : (S.ran.length : Int) + k ≤ S.forks
  fs : S.forks ≤ S.steps
  sm : S.steps ≤ most
def SameS (S : RS) (r : RT × RS) : Prop := r.2.ran = S.ran ∧ r.2.steps = S.steps ∧ r.2.forks = S.forks ∧ r.2.over = S.over
theorem ite_same {S : RS} {c : Prop} [Decidable c] {a b : RT × RS} (h : SameS S a) (k : SameS S b) : SameS S (if c then a else b) := by split <;> assumption
theorem one_S (t : RT) (S : RS) (i : Ins) : SameS S (oneM t S i) := by
  unfold oneM
  repeat' (refine ite_same ?_ ?_)
  all_goals exact ⟨rfl, rfl, rfl, rfl⟩
theorem put_len (m : List FRan) (x : FRan) : (put m x).length = m.length + 1 := by
  induction m with
  | nil => rfl
  | cons y m ih => unfold put; split <;> simp [ih]
theorem sok_finish {k : Nat} {most : Int} {u : RT} {S : RS} {arg : Int} (h : SOk (k + 1) most S) : SOk k most (finish u S arg) := by
  obtain ⟨h1, h2, h3⟩ := h
  unfold finish
  split
  · exact ⟨by omega, h2, h3⟩
  · exact ⟨by show ((put _ _).length : Int) + k ≤ S.forks; rw [put_len]; omega, h2, h3⟩
theorem sok_step {k : Nat} {most : Int} {S : RS} (h : SOk k most S) (hm : ¬ most ≤ S.steps) : SOk k most { S with steps := S.steps + 1 } := by
  obtain ⟨h1, h2, h3⟩ := h
  exact ⟨h1, by show S.forks ≤ S.steps + 1; omega, by show S.steps + 1 ≤ most; omega⟩
theorem sok_fork {k : Nat} {most : Int} {S : RS} (h : SOk k most S) (hm : ¬ most ≤ S.steps) : SOk (k + 1) most { S with steps := S.steps + 1, forks := S.forks + 1 } := by
  obtain ⟨h1, h2, h3⟩ := h
  exact ⟨by show (S.ran.length : Int) + ((k + 1 : Nat) : Int) ≤ S.forks + 1; omega, by show S.forks + 1 ≤ S.steps + 1; omega, by show S.steps + 1 ≤ most; omega⟩
theorem sok_one {k : Nat} {most : Int} {t : RT} {S : RS} {i : Ins} (h : SOk k most S) : SOk k most (oneM t S i).2 := by
  obtain ⟨e1, e2, e3, _⟩ := one_S t S i
  obtain ⟨h1, h2, h3⟩ := h
  exact ⟨by rw [e1, e3]; exact h1, by rw [e2, e3]; exact h2, by rw [e2]; exact h3⟩
section
variable {fs : List (List Ins)} {depth fuel0 most : Int}
theorem evLoop_sok : ∀ {n k : Nat} {t : RT} {S : RS} {r : RT × RS}, evLoop fs depth fuel0 most n t S = some r → SOk k most S → SOk k most r.2
  | 0, _, _, _, _, h, _ => by simp [evLoop] at h
  | n + 1, k, t, S, r, h, hk => by
    unfold evLoop at h
    by_cases h1 : t.how ≠ 0 ∨ S.over = true
    · rw [if_pos h1] at h; cases h; exact hk
    rw [if_neg h1] at h
    by_cases h2 : t.fuel = 0
    · rw [if_pos h2] at h; cases h; exact hk
    rw [if_neg h2] at h
    by_cases h3 : most ≤ S.steps
    · rw [if_pos h3] at h; cases h; exact ⟨hk.rf, hk.fs, hk.sm⟩
    rw [if_neg h3] at h
    cases hi : insAt fs t with
    | none => rw [hi] at h; cases h
    | some i =>
      rw [hi] at h
      simp only at h
      by_cases h4 : i.op = 9
      · rw [if_pos h4] at h
        by_cases h5 : depth ≤ dep t.key
        · rw [if_pos h5] at h; exact evLoop_sok h (sok_step hk h3)
        rw [if_neg h5] at h
        by_cases h6 : 1000 ≤ t.forks
        · rw [if_pos h6] at h; exact evLoop_sok h (sok_step hk h3)
        rw [if_neg h6] at h
        cases hc : evLoop fs depth fuel0 most n (rt0 i.b (t.reg i.c) (child t.key (t.forks + 1)) fuel0) { S with steps := S.steps + 1, forks := S.forks + 1 } with
        | none => rw [hc] at h; cases h
        | some q =>
          rw [hc] at h
          exact evLoop_sok h (sok_finish (evLoop_sok hc (sok_fork hk h3)))
      · rw [if_neg h4] at h
        exact evLoop_sok h (sok_one (sok_step hk h3))
/-- What is over stays so. -/
theorem evLoop_over : ∀ {n : Nat} {t : RT} {S : RS} {r : RT × RS}, evLoop fs depth fuel0 most n t S = some r → S.over = true → r = (t, S)
  | 0, _, _, _, h, _ => by simp [evLoop] at h
  | n + 1, t, S, r, h, ho => by
    unfold evLoop at h
    rw [if_pos (Or.inr ho)] at h
    cases h; rfl
/-- A task has ended, or all is over. -/
theorem evLoop_ends : ∀ {n : Nat} {t : RT} {S : RS} {r : RT × RS}, evLoop fs depth fuel0 most n t S = some r → r.1.how ≠ 0 ∨ r.2.over = true
  | 0, _, _, _, h => by simp [evLoop] at h
  | n + 1, t, S, r, h => by
    unfold evLoop at h
    by_cases h1 : t.how ≠ 0 ∨ S.over = true
    · rw [if_pos h1] at h; cases h; exact h1
    rw [if_neg h1] at h
    by_cases h2 : t.fuel = 0
    · rw [if_pos h2] at h; cases h; exact Or.inl (by show (5 : Int) ≠ 0; decide)
    rw [if_neg h2] at h
    by_cases h3 : most ≤ S.steps
    · rw [if_pos h3] at h; cases h; exact Or.inr rfl
    rw [if_neg h3] at h
    cases hi : insAt fs t with
    | none => rw [hi] at h; cases h
    | some i =>
      rw [hi] at h
      simp only at h
      by_cases h4 : i.op = 9
      · rw [if_pos h4] at h
        by_cases h5 : depth ≤ dep t.key
        · rw [if_pos h5] at h; exact evLoop_ends h
        rw [if_neg h5] at h
        by_cases h6 : 1000 ≤ t.forks
        · rw [if_pos h6] at h; exact evLoop_ends h
        rw [if_neg h6] at h
        cases hc : evLoop fs depth fuel0 most n (rt0 i.b (t.reg i.c) (child t.key (t.forks + 1)) fuel0) { S with steps := S.steps + 1, forks := S.forks + 1 } with
        | none => rw [hc] at h; cases h
        | some q => rw [hc] at h; exact evLoop_ends h
      · rw [if_neg h4] at h
        exact evLoop_ends h
end
end Go.Proofs.YtonndofbnhnkpaaGreat.EvM
namespace Go.Proofs.YtonndofbnhnkpaaGreat.EvM
open Go.RowKit Num KeyM VmA VmG Prg
section
variable {fs : List (List Ins)} {depth fuel0 most : Int}
theorem one_keep (t : RT) (S : RS) (i : Ins) : (oneM t S i).1.key = t.key ∧ (oneM t S i).1.fn = t.fn := ⟨(one_stay t S i).1.key, (one_stay t S i).1.fn⟩
theorem evLoop_keep : ∀ {n : Nat} {t : RT} {S : RS} {r : RT × RS}, evLoop fs depth fuel0 most n t S = some r → r.1.key = t.key ∧ r.1.fn = t.fn
  | 0, _, _, _, h => by simp [evLoop] at h
  | n + 1, t, S, r, h => by
    unfold evLoop at h
    by_cases h1 : t.how ≠ 0 ∨ S.over = true
    · rw [if_pos h1] at h; cases h; exact ⟨rfl, rfl⟩
    rw [if_neg h1] at h
    by_cases h2 : t.fuel = 0
    · rw [if_pos h2] at h; cases h; exact ⟨rfl, rfl⟩
    rw [if_neg h2] at h
    by_cases h3 : most ≤ S.steps
    · rw [if_pos h3] at h; cases h; exact ⟨rfl, rfl⟩
    rw [if_neg h3] at h
    cases hi : insAt fs t with
    | none => rw [hi] at h; cases h
    | some i =>
      rw [hi] at h
      simp only at h
      by_cases h4 : i.op = 9
      · rw [if_pos h4] at h
        by_cases h5 : depth ≤ dep t.key
        · rw [if_pos h5] at h; have h' := evLoop_keep h; exact h'
        rw [if_neg h5] at h
        by_cases h6 : 1000 ≤ t.forks
        · rw [if_pos h6] at h; have h' := evLoop_keep h; exact h'
        rw [if_neg h6] at h
        cases hc : evLoop fs depth fuel0 most n (rt0 i.b (t.reg i.c) (child t.key (t.forks + 1)) fuel0) { S with steps := S.steps + 1, forks := S.forks + 1 } with
        | none => rw [hc] at h; cases h
        | some q => rw [hc] at h; have h' := evLoop_keep h; exact h'
      · rw [if_neg h4] at h
        have h5 := evLoop_keep h
        have h6 := one_keep { t with fuel := t.fuel - 1, place := t.place + 1 } { S with steps := S.steps + 1 } i
        exact ⟨h5.1.trans h6.1, h5.2.trans h6.2⟩
end
end Go.Proofs.YtonndofbnhnkpaaGreat.EvM
namespace Go.Proofs.YtonndofbnhnkpaaGreat.Sim
open Go.RowKit Num KeyM VmA VmG Prg EvM
/-- The same task. -/
structure Sim (t : Tk) (r : RT) : Prop where
  fn : t.fn = r.fn
  place : t.place = r.place
  fuel : t.fuel = r.fuel
  forks : t.forks = r.forks
  key : t.key = r.key
  how : t.how = r.how
  val : t.val = r.val
  regs : ∀ j, t.regs j = r.regs j
  hands : ∀ j, t.hands j = if r.has j then ⟨2, 0, r.hh j, r.hv j⟩ else Hd.zero
  wr : ∀ j, wrap32 (r.regs j) = r.regs j
  wv : ∀ j, wrap32 (r.hv j) = r.hv j
  hv0 : r.how = 0 → r.val = 0
  hh0 : ∀ j, r.has j = true → r.hh j ≠ 0
  wval : wrap32 r.val = r.val
theorem w32_idem (a : Int) : wrap32 (wrap32 a) = wrap32 a := by unfold wrap32; omega
theorem Sim.endB {t : Tk} {r : RT} (h : Sim t r) : VmA.endB t = decide (r.how ≠ 0) := by
  unfold VmA.endB
  rw [h.how, h.val]
  by_cases e : r.how = 0
  · rw [h.hv0 e, e]; rfl
  · simp [e]
theorem sim_stop {t : Tk} {r : RT} (h : Sim t r) (h0 : r.how = 0) {how : Int} (hn : how ≠ 0) : Sim (t.stop how) (r.ends how) := by
  have he : VmA.endB t = false := by rw [h.endB, h0]; rfl
  unfold Tk.stop
  rw [he]
  exact ⟨h.fn, h.place, h.fuel, h.forks, h.key, rfl, (h.hv0 h0).symm, h.regs, h.hands, h.wr, h.wv, fun e => absurd e hn, h.hh0, h.wval⟩
theorem sim_reg {t : Tk} {r : RT} (h : Sim t r) {v v' : Int} (hv : v = v') (hw : wrap32 v' = v') (x : Int) : Sim (t.setReg x.toNat v) (r.setReg x v') := by
  subst hv
  refine ⟨h.fn, h.place, h.fuel, h.forks, h.key, h.how, h.val, fun j => ?_, h.hands, fun j => ?_, h.wv, h.hv0, h.hh0, h.wval⟩
  · show (if j = x.toNat then v else t.regs j) = if j = x.toNat then v else r.regs j
    rw [h.regs]
  · show wrap32 (if j = x.toNat then v else r.regs j) = if j = x.toNat then v else r.regs j
    split
    · exact hw
    · exact h.wr j
theorem sim_clear {t : Tk} {r : RT} (h : Sim t r) (i : Nat) : Sim (t.setHand i Hd.zero) { r with has := upd r.has i false } := by
  refine ⟨h.fn, h.place, h.fuel, h.forks, h.key, h.how, h.val, h.regs, fun j => ?_, h.wr, h.wv, h.hv0, fun j hj => ?_, h.wval⟩
  · show (if j = i then Hd.zero else t.hands j) = if (if j = i then false else r.has j) then _ else _
    split
    · rfl
    · exact h.hands j
  · change (if j = i then false else r.has j) = true at hj
    split at hj
    · cases hj
    · exact h.hh0 j hj
theorem sim_hand {t : Tk} {r : RT} (h : Sim t r) (i : Nat) {how val : Int} (h0 : how ≠ 0) (hw : wrap32 val = val) : Sim (t.setHand i ⟨2, 0, how, val⟩) { r with has := upd r.has i true, hh := upd r.hh i how, hv := upd r.hv i val } := by
  refine ⟨h.fn, h.place, h.fuel, h.forks, h.key, h.how, h.val, h.regs, fun j => ?_, h.wr, fun j => ?_, h.hv0, fun j hj => ?_, h.wval⟩
  · show (if j = i then _ else t.hands j) = if (if j = i then true else r.has j) then (⟨2, 0, if j = i then how else r.hh j, if j = i then val else r.hv j⟩ : Hd) else _
    by_cases e : j = i
    · simp [e]
    · simp only [if_neg e]; exact h.hands j
  · show wrap32 (if j = i then val else r.hv j) = if j = i then val else r.hv j
    split
    · exact hw
    · exact h.wv j
  · show (if j = i then how else r.hh j) ≠ 0
    change (if j = i then true else r.has j) = true at hj
    split
    · exact h0
    · rename_i e; rw [if_neg e] at hj; exact h.hh0 j hj
/-- The next instruction is begun. -/
def tb (t : Tk) : Tk := { t with fuel := t.fuel - 1, place := t.place + 1 }
def rb (r : RT) : RT := { r with fuel := r.fuel - 1, place := r.place + 1 }
theorem sim_begin {t : Tk} {r : RT} (h : Sim t r) : Sim (tb t) (rb r) :=
  ⟨h.fn, by show t.place + 1 = r.place + 1; rw [h.place], by show t.fuel - 1 = r.fuel - 1; rw [h.fuel], h.forks, h.key, h.how, h.val, h.regs, h.hands, h.wr, h.wv, h.hv0, h.hh0, h.wval⟩
/-- What one that asks nothing does. -/
theorem sim_do {t : Tk} {r : RT} (h : Sim t r) (h0 : r.how = 0) {i : Ins} (hi : InsOk i) (S : RS) (g9 : i.op ≠ 9) (g11 : i.op ≠ 11) (g12 : i.op ≠ 12) :
    Sim (doM t i) (oneM r S i).1 ∧ (oneM r S i).2 = S := by
  have rg : ∀ x, t.reg x = r.reg x := fun x => h.regs _
  unfold doM oneM
  by_cases g : i.op = 1
  · simp only [if_pos g]
    have hb : wrap32 i.b = i.b := by
      rcases hi with k | k | k | k | k | k | k | k | k | k | k <;> first | (unfold wrap32; omega) | (exfalso; omega)
    exact ⟨sim_reg h hb hb i.a, by first | rfl | trivial⟩
  simp only [if_neg g]; clear g
  by_cases g : i.op = 2
  · simp only [if_pos g, rg]
    exact ⟨sim_reg h rfl (w32_idem _) i.a, by first | rfl | trivial⟩
  simp only [if_neg g]; clear g
  by_cases g : i.op = 3
  · simp only [if_pos g, rg]
    exact ⟨sim_reg h rfl (w32_idem _) i.a, by first | rfl | trivial⟩
  simp only [if_neg g]; clear g
  by_cases g : i.op = 4
  · simp only [if_pos g, rg]
    exact ⟨sim_reg h rfl (w32_idem _) i.a, by first | rfl | trivial⟩
  simp only [if_neg g]; clear g
  by_cases g : i.op = 6
  · simp only [if_pos g, rg]
    exact ⟨sim_reg h rfl (by rcases lessv_or (r.reg i.b) (r.reg i.c) with e | e <;> rw [e] <;> (unfold wrap32; omega)) i.a, by first | rfl | trivial⟩
  simp only [if_neg g]; clear g
  by_cases g : i.op = 5
  · simp only [if_pos g, rg]
    by_cases k : wrap32 (r.reg i.c) = 0
    · simp only [if_pos k]; exact ⟨sim_stop h h0 (by decide), by first | rfl | trivial⟩
    · simp only [if_neg k]; exact ⟨sim_reg h rfl (w32_idem _) i.a, by first | rfl | trivial⟩
  simp only [if_neg g]; clear g
  by_cases g : i.op = 7
  · simp only [if_pos g]
    exact ⟨⟨h.fn, rfl, h.fuel, h.forks, h.key, h.how, h.val, h.regs, h.hands, h.wr, h.wv, h.hv0, h.hh0, h.wval⟩, by first | rfl | trivial⟩
  simp only [if_neg g]; clear g
  by_cases g : i.op = 8
  · simp only [if_pos g, rg]
    by_cases k : r.reg i.a = 0
    · simp only [if_pos k]; exact ⟨⟨h.fn, rfl, h.fuel, h.forks, h.key, h.how, h.val, h.regs, h.hands, h.wr, h.wv, h.hv0, h.hh0, h.wval⟩, by first | rfl | trivial⟩
    · simp only [if_neg k]; exact ⟨h, by first | rfl | trivial⟩
  simp only [if_neg g]; clear g
  by_cases g : i.op = 10
  · have g15 : ¬ i.op = 15 := by omega
    simp only [if_pos g, if_neg g15]
    have hh := h.hands i.b.toNat
    have e1 : t.hand i.b = t.hands i.b.toNat := rfl
    cases k : r.has i.b.toNat
    · rw [k] at hh
      have k0 : (t.hand i.b).kind = 0 := by rw [e1, hh]; rfl
      simp only [if_pos k0]
      refine ⟨?_, rfl⟩
      have := sim_stop (sim_clear h i.b.toNat) h0 (how := 7) (by decide)
      have e2 : upd r.has i.b.toNat false = r.has := by
        funext j; unfold upd; split
        · rename_i e; rw [e, k]
        · rfl
      rw [e2] at this
      exact this
    · rw [k] at hh
      have k0 : ¬ (t.hand i.b).kind = 0 := by rw [e1, hh]; simp
      have k1 : (t.hand i.b).how = r.hh i.b.toNat := by rw [e1, hh]; rfl
      have k2 : (t.hand i.b).val = r.hv i.b.toNat := by rw [e1, hh]; rfl
      simp only [if_neg k0, k1, k2]
      unfold Tk.joined
      by_cases e : r.hh i.b.toNat = 1
      · simp only [if_pos e, Bool.true_eq_false, if_false]
        exact ⟨sim_reg (sim_clear h _) (h.wv _) (h.wv _) i.a, by first | rfl | trivial⟩
      · simp only [if_neg e, Bool.true_eq_false, if_false]
        exact ⟨sim_stop (sim_clear h _) h0 (h.hh0 _ k), by first | rfl | trivial⟩
  simp only [if_neg g]; clear g
  by_cases g : i.op = 13
  · have g15 : ¬ i.op = 15 := by omega
    simp only [if_pos g, if_neg g15, if_neg g11, if_neg g12]
    have hh := h.hands i.a.toNat
    have e1 : t.hand i.a = t.hands i.a.toNat := rfl
    cases k : r.has i.a.toNat
    · rw [k] at hh
      have k0 : (t.hand i.a).kind = 0 := by rw [e1, hh]; rfl
      simp only [if_pos k0]
      exact ⟨sim_stop h h0 (by decide), by first | rfl | trivial⟩
    · rw [k] at hh
      have k0 : ¬ (t.hand i.a).kind = 0 := by rw [e1, hh]; simp
      simp only [if_neg k0, Bool.true_eq_false, if_false]
      exact ⟨h, by first | rfl | trivial⟩
  by_cases g15 : i.op = 15
  · simp only [if_pos g15, if_neg g, rg]
    exact ⟨⟨h.fn, h.place, h.fuel, h.forks, h.key, rfl, rfl, h.regs, h.hands, h.wr, h.wv, fun e => (by cases e), h.hh0, h.wr _⟩, by first | rfl | trivial⟩
  simp only [if_neg g15, if_neg g, if_neg g11, if_neg g12]
  exact ⟨h, by first | rfl | trivial⟩
theorem sim_local {t : Tk} {r : RT} (h : Sim t r) (h0 : r.how = 0) {i : Ins} (hi : InsOk i) (S : RS) (g9 : i.op ≠ 9) (g11 : i.op ≠ 11) (g12 : i.op ≠ 12) :
    ((stepM t i).1 = Act.zero ∨ (stepM t i).1 = ⟨6, 0, 0, 0⟩) ∧ Sim (stepM t i).2 (oneM (rb r) S i).1 ∧ (oneM (rb r) S i).2 = S := by
  have hb := sim_begin h
  have hs := sim_do hb h0 hi S g9 g11 g12
  have hd : ∀ x, (t.hands x).kind ≠ 1 := fun x => by rw [h.hands]; split <;> simp [Hd.zero]
  by_cases g14 : i.op = 14
  · have e : stepM t i = (⟨6, 0, 0, 0⟩, tb t) := by
      unfold stepM askM
      simp only [if_neg g9, if_neg g11, if_neg g12, if_pos g14, show ¬ i.op = 10 by omega, show ¬ i.op = 13 by omega, if_false]
      rfl
    rw [e]
    have e2 : doM (tb t) i = tb t := by
      unfold doM
      simp only [g14]
      rfl
    rw [e2] at hs
    exact ⟨Or.inr rfl, hs⟩
  · have e : askM (tb t) i = (Act.zero, tb t) := by
      unfold askM
      simp only [if_neg g9, if_neg g11, if_neg g12, if_neg g14]
      have e1 : ∀ x, ((tb t).hand x).kind ≠ 1 := fun x => hd _
      simp only [if_neg (e1 _)]
      repeat' split
      all_goals rfl
    have e2 : stepM t i = (Act.zero, doM (tb t) i) := by
      unfold stepM
      simp only []
      rw [show ({ t with fuel := t.fuel - 1, place := t.place + 1 } : Tk) = tb t from rfl, e]
      rfl
    rw [e2]
    exact ⟨Or.inl rfl, hs⟩
theorem step_set {t : Tk} {r : RT} (h : Sim t r) {i : Ins} (g : i.op = 11) : stepM t i = (⟨3, i.a, r.reg i.b, 0⟩, tb t) := by
  have e := h.regs i.b.toNat
  unfold stepM askM
  simp only [g]
  show ((⟨3, i.a, t.regs i.b.toNat, 0⟩ : VmA.Act), tb t) = _
  rw [e]; rfl
theorem step_get {t : Tk} {i : Ins} (g : i.op = 12) : stepM t i = (⟨4, i.a, i.b, 0⟩, tb t) := by
  unfold stepM askM
  simp only [g]
  rfl
theorem step_fork {t : Tk} {r : RT} (h : Sim t r) {i : Ins} (g : i.op = 9) : stepM t i =
    if t.depth ≤ dep r.key then (Act.zero, (tb t).stop 6) else if 1000 ≤ r.forks then (Act.zero, (tb t).stop 9) else (⟨1, i.b + 16 * i.a, r.reg i.c, child r.key (r.forks + 1)⟩, { tb t with forks := t.forks + 1 }) := by
  have e := h.regs i.c.toNat
  have e1 : askM (tb t) i = forkM (tb t) i := by unfold askM; rw [if_pos g]
  have e2 : forkM (tb t) i = if t.depth ≤ dep r.key then (Act.zero, (tb t).stop 6) else if 1000 ≤ r.forks then (Act.zero, (tb t).stop 9) else (⟨1, i.b + 16 * i.a, r.reg i.c, child r.key (r.forks + 1)⟩, { tb t with forks := t.forks + 1 }) := by
    unfold forkM
    show (if t.depth ≤ dep t.key then _ else if 1000 ≤ t.forks then _ else ((⟨1, i.b + 16 * i.a, t.regs i.c.toNat, child t.key (t.forks + 1)⟩ : VmA.Act), _)) = _
    rw [h.key, h.forks, e, show (tb t).forks = r.forks from h.forks]
    rfl
  unfold stepM
  simp only []
  rw [show ({ t with fuel := t.fuel - 1, place := t.place + 1 } : Tk) = tb t from rfl, e1, e2]
  have d9 : ∀ u, doM u i = u := fun u => by unfold doM; simp only [g]; rfl
  split
  · simp [Act.zero, d9]
  · split
    · simp [Act.zero, d9]
    · rfl
end Go.Proofs.YtonndofbnhnkpaaGreat.Sim
