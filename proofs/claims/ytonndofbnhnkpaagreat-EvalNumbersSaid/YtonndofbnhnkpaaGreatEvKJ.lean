/- The evaluator in plain Lean: where the keys of what ran lie. The evaluator in plain Lean: what ran stands by key, each key once. The evaluator in plain Lean: a task without a value has none; what is in a hand has ended. -/
import Derived.Test.YtonndofbnhnkpaaGreatEvB
import Derived.Test.YtonndofbnhnkpaaGreatKeyD
set_option linter.unusedVariables false
set_option linter.unusedSimpArgs false
set_option linter.unusedSectionVars false
namespace Go.Proofs.YtonndofbnhnkpaaGreat.EvM
open Go.RowKit Num KeyM VmA VmG Prg
/-- The next fork's key; of a task that may not fork, what comes behind it. -/
def bnd (key forks : Int) : Int := if dep key = 5 then key + 1 else key + (forks + 1) * un (dep key)
theorem un_pos (d : Int) : 1 ≤ un d := by unfold un; repeat' split
                                          all_goals omega
theorem un_next {d : Int} (h0 : 0 ≤ d) (h4 : d < 4) : un d = 1024 * un (d + 1) := by
  obtain rfl | rfl | rfl | rfl : d = 0 ∨ d = 1 ∨ d = 2 ∨ d = 3 := by omega
  all_goals decide
theorem bnd_mono {key f g : Int} (h : f ≤ g) : bnd key f ≤ bnd key g := by
  unfold bnd
  split
  · omega
  · have h1 := un_pos (dep key)
    have : (f + 1) * un (dep key) ≤ (g + 1) * un (dep key) := Int.mul_le_mul_of_nonneg_right (by omega) (by omega)
    omega
theorem bnd_gt {key f : Int} (h : 0 ≤ f) : key < bnd key f := by
  unfold bnd
  split
  · omega
  · have h1 := un_pos (dep key)
    have : 1 * 1 ≤ (f + 1) * un (dep key) := Int.mul_le_mul (by omega) h1 (by omega) (by omega)
    omega
/-- A fork's whole tree lies ahead of the next fork. -/
theorem bnd_child {key f g : Int} (hk : chk key = true) (h0 : 0 ≤ f) (h1 : f < 1000) (hd : dep key < 5) (hg : g ≤ 1000) : bnd (child key (f + 1)) g ≤ bnd key (f + 1) := by
  have hb := born (n := f + 1) hk (by omega) (by omega) hd
  have hd0 := dep_lo key
  have e : bnd key (f + 1) = child key (f + 1) + un (dep key) := by
    unfold bnd child
    rw [if_neg (by omega), show f + 1 + 1 = (f + 1) + 1 by omega, Int.add_mul (f + 1) 1]
    omega
  rw [e]
  unfold bnd
  rw [hb.dep]
  split
  · have := un_pos (dep key); omega
  · have hn := un_next hd0 (by omega)
    have hp := un_pos (dep key + 1)
    have : (g + 1) * un (dep key + 1) ≤ 1024 * un (dep key + 1) := Int.mul_le_mul_of_nonneg_right (by omega) (by omega)
    omega
variable {fs : List (List Ins)} {depth fuel0 most : Int}
theorem put_mem {l : List FRan} {x r : FRan} (h : r ∈ put l x) : r = x ∨ r ∈ l := by
  induction l with
  | nil => simp [put] at h; exact Or.inl h
  | cons y l ih =>
    unfold put at h
    split at h
    · rcases List.mem_cons.1 h with e | e
      · exact Or.inr (by rw [e]; simp)
      · rcases ih e with g | g
        · exact Or.inl g
        · exact Or.inr (List.mem_cons_of_mem _ g)
    · rcases List.mem_cons.1 h with e | e
      · exact Or.inl e
      · exact Or.inr e
theorem one_ran (t : RT) (S : RS) (i : Ins) : (oneM t S i).2.ran = S.ran ∧ (oneM t S i).1.key = t.key ∧ (oneM t S i).1.forks = t.forks :=
  ⟨(one_S t S i).1, (one_stay t S i).1.key, (one_stay t S i).1.forks⟩
/-- What ran anew lies below the task, ahead of its next fork. -/
theorem evLoop_keys (hdp : depth ≤ 5) : ∀ {n : Nat} {t : RT} {S : RS} {r : RT × RS}, evLoop fs depth fuel0 most n t S = some r → chk t.key = true → 0 ≤ t.forks → t.forks ≤ 1000 →
    r.1.key = t.key ∧ t.forks ≤ r.1.forks ∧ r.1.forks ≤ 1000 ∧ ∀ x ∈ r.2.ran, x ∈ S.ran ∨ (t.key < x.key ∧ x.key < bnd t.key r.1.forks)
  | 0, _, _, _, h, _, _, _ => by simp [evLoop] at h
  | n + 1, t, S, r, h, hk, hf0, hf1 => by
    unfold evLoop at h
    by_cases h1 : t.how ≠ 0 ∨ S.over = true
    · rw [if_pos h1] at h; cases h; exact ⟨rfl, Int.le_refl _, hf1, fun x hx => Or.inl hx⟩
    rw [if_neg h1] at h
    by_cases h2 : t.fuel = 0
    · rw [if_pos h2] at h; cases h; exact ⟨rfl, Int.le_refl _, hf1, fun x hx => Or.inl hx⟩
    rw [if_neg h2] at h
    by_cases h3 : most ≤ S.steps
    · rw [if_pos h3] at h; cases h; exact ⟨rfl, Int.le_refl _, hf1, fun x hx => Or.inl hx⟩
    rw [if_neg h3] at h
    cases hi : insAt fs t with
    | none => rw [hi] at h; cases h
    | some i =>
      rw [hi] at h
      simp only at h
      by_cases h4 : i.op = 9
      · rw [if_pos h4] at h
        by_cases h5 : depth ≤ dep t.key
        · rw [if_pos h5] at h; have k := evLoop_keys hdp h hk hf0 hf1; exact k
        rw [if_neg h5] at h
        by_cases h6 : 1000 ≤ t.forks
        · rw [if_pos h6] at h; have k := evLoop_keys hdp h hk hf0 hf1; exact k
        rw [if_neg h6] at h
        cases hc : evLoop fs depth fuel0 most n (rt0 i.b (t.reg i.c) (child t.key (t.forks + 1)) fuel0) { S with steps := S.steps + 1, forks := S.forks + 1 } with
        | none => rw [hc] at h; cases h
        | some q =>
          obtain ⟨u, S2⟩ := q
          rw [hc] at h
          have hb := born (n := t.forks + 1) hk (by omega) (by omega) (by omega)
          obtain ⟨g1, g2, g3, g4⟩ := evLoop_keys hdp hc hb.chk (Int.le_refl _) (by show (0 : Int) ≤ 1000; decide)
          obtain ⟨k1, k2, k3, k4⟩ := evLoop_keys hdp h hk (by show 0 ≤ t.forks + 1; omega) (by show t.forks + 1 ≤ 1000; omega)
          change t.forks + 1 ≤ r.1.forks at k2
          have hbc := bnd_child (g := u.forks) hk hf0 (by omega) (by omega) g3
          have hbm : bnd t.key (t.forks + 1) ≤ bnd t.key r.1.forks := bnd_mono k2
          refine ⟨k1, by omega, k3, fun x hx => ?_⟩
          rcases k4 x hx with e | e
          · have hx2 : x = ⟨u.key, u.fn, wrap32 (t.reg i.c), u.how, u.val⟩ ∨ x ∈ S2.ran := by
              unfold finish at e
              split at e
              · exact Or.inr e
              · exact put_mem e
            rcases hx2 with rfl | hx2
            · right
              change u.key = child t.key (t.forks + 1) at g1
              have := bnd_gt (key := child t.key (t.forks + 1)) (f := u.forks) (by change (0 : Int) ≤ u.forks at g2; exact g2)
              exact ⟨by show t.key < u.key; rw [g1]; exact hb.lt, by show u.key < _; rw [g1]; omega⟩
            · rcases g4 x hx2 with e | ⟨e1, e2⟩
              · exact Or.inl e
              · right
                change child t.key (t.forks + 1) < x.key at e1
                change x.key < bnd (child t.key (t.forks + 1)) u.forks at e2
                have := hb.lt
                exact ⟨by omega, by omega⟩
          · exact Or.inr e
      · rw [if_neg h4] at h
        obtain ⟨o1, o2, o3⟩ := one_ran { t with fuel := t.fuel - 1, place := t.place + 1 } { S with steps := S.steps + 1 } i
        have := evLoop_keys hdp h (by rw [o2]; exact hk) (by rw [o3]; exact hf0) (by rw [o3]; exact hf1)
        rw [o2, o3, o1] at this
        exact this
end Go.Proofs.YtonndofbnhnkpaaGreat.EvM
namespace Go.Proofs.YtonndofbnhnkpaaGreat.EvM
open Go.RowKit Num KeyM VmA VmG Prg
/-- By key, each key once. -/
def Srt (l : List FRan) : Prop := l.Pairwise (fun a b => a.key < b.key)
theorem put_srt {x : FRan} : ∀ {l : List FRan}, Srt l → (∀ y ∈ l, y.key ≠ x.key) → Srt (put l x)
  | [], _, _ => by unfold put Srt; simp
  | y :: l, h, hn => by
    have h' := List.pairwise_cons.1 h
    unfold put
    split
    · rename_i hlt
      refine List.pairwise_cons.2 ⟨fun z hz => ?_, put_srt h'.2 (fun z hz => hn z (List.mem_cons_of_mem _ hz))⟩
      rcases put_mem hz with rfl | hz
      · exact hlt
      · exact h'.1 z hz
    · rename_i hge
      have hy := hn y (by simp)
      refine List.pairwise_cons.2 ⟨fun z hz => ?_, h⟩
      rcases List.mem_cons.1 hz with rfl | hz
      · omega
      · have := h'.1 z hz; omega
variable {fs : List (List Ins)} {depth fuel0 most : Int}
/-- What ran ahead: not the task's own, and ahead of its next fork. -/
def Pre (t : RT) (S : RS) : Prop := Srt S.ran ∧ ∀ x ∈ S.ran, x.key ≠ t.key ∧ x.key < bnd t.key t.forks
theorem evLoop_srt (hdp : depth ≤ 5) : ∀ {n : Nat} {t : RT} {S : RS} {r : RT × RS}, evLoop fs depth fuel0 most n t S = some r → chk t.key = true → 0 ≤ t.forks → t.forks ≤ 1000 → Pre t S → Srt r.2.ran
  | 0, _, _, _, h, _, _, _, _ => by simp [evLoop] at h
  | n + 1, t, S, r, h, hk, hf0, hf1, hp => by
    unfold evLoop at h
    by_cases h1 : t.how ≠ 0 ∨ S.over = true
    · rw [if_pos h1] at h; cases h; exact hp.1
    rw [if_neg h1] at h
    by_cases h2 : t.fuel = 0
    · rw [if_pos h2] at h; cases h; exact hp.1
    rw [if_neg h2] at h
    by_cases h3 : most ≤ S.steps
    · rw [if_pos h3] at h; cases h; exact hp.1
    rw [if_neg h3] at h
    cases hi : insAt fs t with
    | none => rw [hi] at h; cases h
    | some i =>
      rw [hi] at h
      simp only at h
      by_cases h4 : i.op = 9
      · rw [if_pos h4] at h
        by_cases h5 : depth ≤ dep t.key
        · rw [if_pos h5] at h
          have k := evLoop_srt hdp h hk hf0 hf1 ⟨hp.1, hp.2⟩
          exact k
        rw [if_neg h5] at h
        by_cases h6 : 1000 ≤ t.forks
        · rw [if_pos h6] at h
          have k := evLoop_srt hdp h hk hf0 hf1 ⟨hp.1, hp.2⟩
          exact k
        rw [if_neg h6] at h
        cases hc : evLoop fs depth fuel0 most n (rt0 i.b (t.reg i.c) (child t.key (t.forks + 1)) fuel0) { S with steps := S.steps + 1, forks := S.forks + 1 } with
        | none => rw [hc] at h; cases h
        | some q =>
          obtain ⟨u, S2⟩ := q
          rw [hc] at h
          have hb := born (n := t.forks + 1) hk (by omega) (by omega) (by omega)
          have hbt : bnd t.key t.forks = child t.key (t.forks + 1) := by unfold bnd child; rw [if_neg (by omega)]
          have hg0 := bnd_gt (key := child t.key (t.forks + 1)) (f := 0) (Int.le_refl _)
          obtain ⟨g1, g2, g3, g4⟩ := evLoop_keys hdp hc hb.chk (Int.le_refl _) (by show (0 : Int) ≤ 1000; decide)
          have hs := evLoop_srt hdp hc hb.chk (Int.le_refl _) (by show (0 : Int) ≤ 1000; decide) ⟨hp.1, fun x hx => by
            have := (hp.2 x hx).2
            rw [hbt] at this
            exact ⟨by show x.key ≠ child t.key (t.forks + 1); omega, by show x.key < bnd (child t.key (t.forks + 1)) 0; omega⟩⟩
          have hbc := bnd_child (g := u.forks) hk hf0 (by omega) (by omega) g3
          change u.key = child t.key (t.forks + 1) at g1
          have hlt := hb.lt
          have hg2 := bnd_gt (key := child t.key (t.forks + 1)) (f := u.forks) (by change (0 : Int) ≤ u.forks at g2; exact g2)
          have hall : ∀ x ∈ S2.ran, x.key ≠ child t.key (t.forks + 1) ∧ x.key ≠ t.key ∧ x.key < bnd t.key (t.forks + 1) := fun x hx => by
            rcases g4 x hx with e | ⟨e1, e2⟩
            · have := hp.2 x e
              rw [hbt] at this
              exact ⟨by omega, this.1, by omega⟩
            · change child t.key (t.forks + 1) < x.key at e1
              change x.key < bnd (child t.key (t.forks + 1)) u.forks at e2
              exact ⟨by omega, by omega, by omega⟩
          refine evLoop_srt hdp h hk (by show 0 ≤ t.forks + 1; omega) (by show t.forks + 1 ≤ 1000; omega) ?_
          unfold finish
          split
          · exact ⟨hs, fun x hx => ⟨(hall x hx).2.1, (hall x hx).2.2⟩⟩
          · refine ⟨put_srt hs (fun y hy => by show y.key ≠ u.key; rw [g1]; exact (hall y hy).1), fun x hx => ?_⟩
            rcases put_mem hx with rfl | hx
            · exact ⟨by show u.key ≠ t.key; rw [g1]; omega, by show u.key < bnd t.key (t.forks + 1); rw [g1]; omega⟩
            · exact ⟨(hall x hx).2.1, (hall x hx).2.2⟩
      · rw [if_neg h4] at h
        obtain ⟨o1, o2, o3⟩ := one_ran { t with fuel := t.fuel - 1, place := t.place + 1 } { S with steps := S.steps + 1 } i
        exact evLoop_srt hdp h (by rw [o2]; exact hk) (by rw [o3]; exact hf0) (by rw [o3]; exact hf1) ⟨by rw [o1]; exact hp.1, by rw [o1, o2, o3]; exact hp.2⟩
end Go.Proofs.YtonndofbnhnkpaaGreat.EvM
namespace Go.Proofs.YtonndofbnhnkpaaGreat.EvM
open Go.RowKit Num KeyM VmA VmG Prg
/-- No value but with an end that has one; hands hold ends. -/
def VOk (t : RT) : Prop := (t.how ≠ 1 → t.val = 0) ∧ ∀ i, t.has i = true → t.hh i ≠ 0
theorem vok_new (fn arg key fuel : Int) : VOk (rt0 fn arg key fuel) := ⟨fun _ => rfl, fun i h => by cases h⟩
theorem vok_one {t : RT} {S : RS} {i : Ins} (h : VOk t) (h0 : t.how = 0) : VOk (oneM t S i).1 := by
  obtain ⟨h1, h2⟩ := h
  have hv := h1 (by rw [h0]; decide)
  have hdrop : ∀ k, ∀ j, EvM.upd t.has k false j = true → t.hh j ≠ 0 := fun k j e => by
    change (if j = k then false else t.has j) = true at e
    split at e
    · cases e
    · exact h2 j e
  unfold oneM
  by_cases g : i.op = 1
  · simp only [if_pos g]
    exact ⟨h1, h2⟩
  simp only [if_neg g]
  clear g
  by_cases g : i.op = 2
  · simp only [if_pos g]
    exact ⟨h1, h2⟩
  simp only [if_neg g]
  clear g
  by_cases g : i.op = 3
  · simp only [if_pos g]
    exact ⟨h1, h2⟩
  simp only [if_neg g]
  clear g
  by_cases g : i.op = 4
  · simp only [if_pos g]
    exact ⟨h1, h2⟩
  simp only [if_neg g]
  clear g
  by_cases g : i.op = 6
  · simp only [if_pos g]
    exact ⟨h1, h2⟩
  simp only [if_neg g]
  clear g
  by_cases g : i.op = 5
  · simp only [if_pos g]
    by_cases k : wrap32 (t.reg i.c) = 0
    · simp only [if_pos k]; exact ⟨fun _ => hv, h2⟩
    · simp only [if_neg k]; exact ⟨h1, h2⟩
  simp only [if_neg g]
  clear g
  by_cases g : i.op = 7
  · simp only [if_pos g]
    exact ⟨h1, h2⟩
  simp only [if_neg g]
  clear g
  by_cases g : i.op = 8
  · simp only [if_pos g]
    by_cases k : t.reg i.a = 0
    · simp only [if_pos k]; exact ⟨h1, h2⟩
    · simp only [if_neg k]; exact ⟨h1, h2⟩
  simp only [if_neg g]
  clear g
  by_cases g : i.op = 15
  · simp only [if_pos g]
    exact ⟨fun e => absurd rfl e, h2⟩
  simp only [if_neg g]
  clear g
  by_cases g : i.op = 10
  · simp only [if_pos g]
    by_cases k : t.has i.b.toNat = false
    · simp only [if_pos k]; exact ⟨fun _ => hv, h2⟩
    · simp only [if_neg k]
      by_cases k2 : t.hh i.b.toNat = 1
      · simp only [if_pos k2]; exact ⟨h1, hdrop _⟩
      · simp only [if_neg k2]; exact ⟨fun _ => hv, hdrop _⟩
  simp only [if_neg g]
  clear g
  by_cases g : i.op = 11
  · simp only [if_pos g]
    by_cases k : S.was i.a.toNat = true
    · simp only [if_pos k]; exact ⟨fun _ => hv, h2⟩
    · simp only [if_neg k]; exact ⟨h1, h2⟩
  simp only [if_neg g]
  clear g
  by_cases g : i.op = 12
  · simp only [if_pos g]
    by_cases k : S.was i.b.toNat = false
    · simp only [if_pos k]; exact ⟨fun _ => hv, h2⟩
    · simp only [if_neg k]; exact ⟨h1, h2⟩
  simp only [if_neg g]
  clear g
  by_cases g : i.op = 13
  · simp only [if_pos g]
    by_cases k : t.has i.a.toNat = false
    · simp only [if_pos k]; exact ⟨fun _ => hv, h2⟩
    · simp only [if_neg k]; exact ⟨h1, h2⟩
  simp only [if_neg g]
  clear g
  exact ⟨h1, h2⟩
variable {fs : List (List Ins)} {depth fuel0 most : Int}
theorem evLoop_vals : ∀ {n : Nat} {t : RT} {S : RS} {r : RT × RS}, evLoop fs depth fuel0 most n t S = some r → r.2.over = false → VOk t → VOk r.1
  | 0, _, _, _, h, _, _ => by simp [evLoop] at h
  | n + 1, t, S, r, h, ho, hv => by
    unfold evLoop at h
    by_cases h1 : t.how ≠ 0 ∨ S.over = true
    · rw [if_pos h1] at h; cases h; exact hv
    have h0 : t.how = 0 := by
      rcases Decidable.em (t.how = 0) with e | e
      · exact e
      · exact absurd (Or.inl e) h1
    have hz := hv.1 (by rw [h0]; decide)
    rw [if_neg h1] at h
    by_cases h2 : t.fuel = 0
    · rw [if_pos h2] at h; cases h; exact ⟨fun _ => hz, hv.2⟩
    rw [if_neg h2] at h
    by_cases h3 : most ≤ S.steps
    · rw [if_pos h3] at h; cases h; cases ho
    rw [if_neg h3] at h
    cases hi : insAt fs t with
    | none => rw [hi] at h; cases h
    | some i =>
      rw [hi] at h
      simp only at h
      by_cases h4 : i.op = 9
      · rw [if_pos h4] at h
        by_cases h5 : depth ≤ dep t.key
        · rw [if_pos h5] at h; exact evLoop_vals h ho ⟨fun _ => hz, hv.2⟩
        rw [if_neg h5] at h
        by_cases h6 : 1000 ≤ t.forks
        · rw [if_pos h6] at h; exact evLoop_vals h ho ⟨fun _ => hz, hv.2⟩
        rw [if_neg h6] at h
        cases hc : evLoop fs depth fuel0 most n (rt0 i.b (t.reg i.c) (child t.key (t.forks + 1)) fuel0) { S with steps := S.steps + 1, forks := S.forks + 1 } with
        | none => rw [hc] at h; cases h
        | some q =>
          obtain ⟨u, S2⟩ := q
          rw [hc] at h
          simp only at h
          have ho2 : S2.over = false := by
            cases e : S2.over
            · rfl
            · have e2 : finish u S2 (t.reg i.c) = S2 := by unfold finish; rw [e]; rfl
              rw [e2] at h
              have := evLoop_over h e
              rw [this] at ho
              rw [e] at ho; cases ho
          have hu : u.how ≠ 0 := by
            rcases evLoop_ends hc with e | e
            · exact e
            · change S2.over = true at e; rw [ho2] at e; cases e
          refine evLoop_vals h ho ⟨fun _ => hz, fun j hj => ?_⟩
          change (if j = i.a.toNat then true else t.has j) = true at hj
          show (if j = i.a.toNat then u.how else t.hh j) ≠ 0
          by_cases e : j = i.a.toNat
          · rw [if_pos e]; exact hu
          · rw [if_neg e]; rw [if_neg e] at hj; exact hv.2 j hj
      · rw [if_neg h4] at h
        exact evLoop_vals h ho (vok_one (t := { t with fuel := t.fuel - 1, place := t.place + 1 }) ⟨hv.1, hv.2⟩ h0)
end Go.Proofs.YtonndofbnhnkpaaGreat.EvM
