/- A region that draws its order, by an invariant: each operation is met once. A region that draws its order, each operation met once: a table tells what stands in the slots of those done. A region that draws its order, each operation met once: what stands in the slots is told as it comes. A region that draws its order: reads alone; reads and then one store. A region of reads that draws its order, some of whose operations a guard leaves out. -/
import Derived.Orders
import Derived.Test.YtonndofbnhnkpaaGreatStatB
import Derived.Test.YtonndofbnhnkpaaGreatApp
set_option linter.unusedVariables false
set_option linter.unusedSimpArgs false
set_option linter.unusedSectionVars false
namespace Go.Proofs.YtonndofbnhnkpaaGreat.Inv
/-- How many are not done yet. -/
def left : List Bool → Nat
  | [] => 0
  | b :: l => (if b then 0 else 1) + left l
theorem left_set : ∀ (l : List Bool) (i : Nat), l[i]? = some false → left (l.set i true) + 1 = left l
  | [], i, h => by simp at h
  | b :: l, 0, h => by
    simp at h; subst h
    show (0 + left l) + 1 = 1 + left l
    omega
  | b :: l, i + 1, h => by
    have := left_set l i (by simpa using h)
    show ((if b then 0 else 1) + left (l.set i true)) + 1 = (if b then 0 else 1) + left l
    omega
theorem left_zero : ∀ (l : List Bool) (i : Nat), left l = 0 → l[i]? ≠ some false
  | [], i, _ => by simp
  | b :: l, 0, h => by
    simp only [left] at h
    cases b
    · simp at h
    · simp
  | b :: l, i + 1, h => by
    simp only [left] at h
    have := left_zero l i (by omega)
    simpa using this
section
variable {P : Program} {ops : Array Oper} {Q : Exit → Act → World → Prop}
theorem ready_mem {L : Array Bool} {i : Nat} (h : i ∈ Region.ready .any ops L) : L[i]? = some false ∧ ∃ o, ops[i]? = some o ∧ ∀ e ∈ o.after.toList, Region.binds .any e = true → L[e.on]? = some true := by
  unfold Region.ready at h
  rw [List.mem_filter] at h
  obtain ⟨h1, h2⟩ := h
  rw [Bool.and_eq_true] at h2
  obtain ⟨h2, h3⟩ := h2
  have hi : i < ops.size := by simpa using h1
  refine ⟨?_, ops[i], Array.getElem?_eq_getElem hi, fun e he hb => ?_⟩
  · rw [Array.getD_eq_getD_getElem?] at h2
    cases hL : L[i]? with
    | none => rw [hL] at h2; simp at h2
    | some b => rw [hL] at h2; cases b <;> simp_all
  · rw [Array.getElem?_eq_getElem hi] at h3
    simp only [Option.map_some, Option.getD_some, Array.all_eq_true_iff_forall_mem] at h3
    have := h3 e (by simpa using he)
    rw [hb] at this
    simp only [Bool.not_true, Bool.false_or] at this
    rw [Array.getD_eq_getD_getElem?] at this
    cases hL : L[e.on]? with
    | none => rw [hL] at this; simp at this
    | some b => rw [hL] at this; simp at this; rw [this]
theorem wpAny_inv (I : Array Bool → Act → World → Prop)
    (hend : ∀ L a w, I L a w → Region.ready .any ops L = [] → Q .normal a w)
    (hstep : ∀ i o L a w, I L a w → L[i]? = some false → ops[i]? = some o → (∀ e ∈ o.after.toList, Region.binds .any e = true → L[e.on]? = some true) → wpOp P ops Q i (fun a' w' => I (L.setIfInBounds i true) a' w') a w) :
    ∀ (fuel : Nat) (L : Array Bool) (a : Act) (w : World), left L.toList ≤ fuel → I L a w → wpAny P .any ops Q fuel L a w := by
  intro fuel
  induction fuel with
  | zero =>
    intro L a w hf hI
    have hr : Region.ready .any ops L = [] := by
      cases hr : Region.ready .any ops L with
      | nil => rfl
      | cons i l =>
        have := (ready_mem (ops := ops) (L := L) (i := i) (by rw [hr]; simp)).1
        exact absurd (by simpa using this) (left_zero L.toList i (by omega))
    exact ⟨hr, hend L a w hI hr⟩
  | succ fuel ih =>
    intro L a w hf hI
    refine ⟨fun hr => hend L a w hI hr, fun i hi => ?_⟩
    obtain ⟨h1, o, h2, h3⟩ := ready_mem hi
    refine wpOp_mono (fun a' w' h => ih _ a' w' ?_ h) (hstep i o L a w hI h1 h2 h3)
    have := left_set L.toList i (by simpa using h1)
    rw [Array.toList_setIfInBounds]
    omega
theorem left_rep (n : Nat) : left (List.replicate n false) = n := by
  induction n with
  | zero => rfl
  | succ n ih => rw [List.replicate_succ]; show 1 + left _ = _; rw [ih]; omega
theorem wp_region_inv {id : Nat} {a : Act} {w : World} (hm : P.follows .mixedOrders = true) (I : Array Bool → Act → World → Prop)
    (h0 : I (Array.replicate ops.size false) a w.drew)
    (hend : ∀ L a w, I L a w → Region.ready .any ops L = [] → Q .normal a w)
    (hstep : ∀ i o L a w, I L a w → L[i]? = some false → ops[i]? = some o → (∀ e ∈ o.after.toList, Region.binds .any e = true → L[e.on]? = some true) → wpOp P ops Q i (fun a' w' => I (L.setIfInBounds i true) a' w') a w) :
    (Code.region id ops true).wp P Q a w :=
  wp_region_any hm (wpAny_inv I hend hstep _ _ _ _ (by rw [Array.toList_replicate, left_rep]; exact Nat.le_refl _) h0)
theorem wpOp_of {i : Nat} {o : Oper} {a : Act} {w : World} {K : Act → World → Prop} (ho : ops[i]? = some o) (hg : o.guard = none) (h : o.wp P a w K Q) : wpOp P ops Q i K a w := by
  unfold wpOp
  rw [ho]
  have hw : Region.wanted o (yielded ops a.tmps) = true := by simp [Region.wanted, hg]
  simp only [hw, if_true]
  exact Or.inl h
/-- What must come first stands ahead. -/
def fwdB (ops : Array Oper) : Bool := (List.range ops.size).all fun i => ((ops[i]?).map (·.after.all fun e => !Region.binds .any e || decide (e.on < i))).getD true
theorem all_done {L : Array Bool} (hB : fwdB ops = true) (hs : L.size = ops.size) (hr : Region.ready .any ops L = []) : ∀ i, i < ops.size → L[i]? = some true := by
  intro i
  induction i using Nat.strongRecOn with
  | ind i ih =>
    intro hi
    cases hL : L[i]? with
    | none => rw [Array.getElem?_eq_none_iff] at hL; omega
    | some b =>
      cases b
      · exfalso
        have hm : i ∈ Region.ready .any ops L := by
          unfold Region.ready
          rw [List.mem_filter]
          refine ⟨by simpa using hi, ?_⟩
          rw [Array.getD_eq_getD_getElem?, hL, Array.getElem?_eq_getElem hi]
          simp only [Option.getD_some, Bool.not_false, Bool.true_and, Option.map_some, Array.all_eq_true_iff_forall_mem]
          intro e he
          have h1 := List.all_eq_true.1 hB i (by simpa using hi)
          rw [Array.getElem?_eq_getElem hi] at h1
          simp only [Option.map_some, Option.getD_some, Array.all_eq_true_iff_forall_mem] at h1
          have h2 := h1 e he
          cases hb : Region.binds .any e
          · rfl
          · rw [hb] at h2
            have h3 : e.on < i := by simpa using h2
            rw [Array.getD_eq_getD_getElem?, ih e.on h3 (by omega)]
            rfl
        rw [hr] at hm
        simp at hm
      · rfl
end
end Go.Proofs.YtonndofbnhnkpaaGreat.Inv
namespace Go.Proofs.YtonndofbnhnkpaaGreat.Tab
open Go.Proofs.YtonndofbnhnkpaaGreat.Inv
/-- What stands in the slots; (operation, slot). -/
structure T (a0 : Act) (idx : List (Nat × Nat)) (V : Nat → Value) (L : Array Bool) (a : Act) : Prop where
  dfs : a.defers = a0.defers
  sz : a.tmps.size = a0.tmps.size
  out : ∀ j, (∀ q ∈ idx, q.2 ≠ j) → a.tmps[j]? = a0.tmps[j]?
  tab : ∀ q ∈ idx, L[q.1]? = some true → a.tmps[q.2]? = some (V q.2)
theorem set_get {L : Array Bool} {i j : Nat} (h : (L.setIfInBounds i true)[j]? = some true) : j = i ∨ L[j]? = some true := by
  rw [Array.getElem?_setIfInBounds] at h
  split at h
  · rename_i e; exact Or.inl e.symm
  · exact Or.inr h
theorem get_ne {L : Array Bool} {i j : Nat} (h : j ≠ i) : (L.setIfInBounds i true)[j]? = L[j]? := by
  rw [Array.getElem?_setIfInBounds, if_neg (fun e => h e.symm)]
theorem get_self {L : Array Bool} {i : Nat} (h : L[i]? = some false) : (L.setIfInBounds i true)[i]? = some true := by
  obtain ⟨h1, _⟩ := Array.getElem?_eq_some_iff.1 h
  rw [Array.getElem?_setIfInBounds, if_pos rfl, if_pos h1]
theorem T.start (a0 : Act) (idx : List (Nat × Nat)) (V : Nat → Value) (n : Nat) : T a0 idx V (Array.replicate n false) a0 :=
  ⟨rfl, rfl, fun _ _ => rfl, fun q _ h => by simp [Array.getElem?_replicate] at h⟩
theorem T.put {a0 : Act} {idx : List (Nat × Nat)} {V : Nat → Value} {L : Array Bool} {a : Act} (h : T a0 idx V L a) (i d : Nat) (hm : (i, d) ∈ idx) (hd : d < a0.tmps.size) (hu : ∀ q ∈ idx, q = (i, d) ∨ (q.1 ≠ i ∧ q.2 ≠ d)) :
    T a0 idx V (L.setIfInBounds i true) (a.put (some d) (V d)) := by
  obtain ⟨h1, h2, h3, h4⟩ := h
  refine ⟨h1, by show (a.tmps.setIfInBounds d (V d)).size = _; rw [Array.size_setIfInBounds, h2], fun j hj => ?_, fun q hq hL => ?_⟩
  · show (a.tmps.setIfInBounds d (V d))[j]? = _
    rw [Array.getElem?_setIfInBounds, if_neg (hj (i, d) hm)]
    exact h3 j hj
  · show (a.tmps.setIfInBounds d (V d))[q.2]? = _
    rcases hu q hq with rfl | ⟨g1, g2⟩
    · rw [Array.getElem?_setIfInBounds, if_pos rfl, if_pos (by rw [h2]; exact hd)]
    · rw [Array.getElem?_setIfInBounds, if_neg (fun e => g2 e.symm)]
      rcases set_get hL with e | e
      · exact absurd e g1
      · exact h4 q hq e
theorem T.skip {a0 : Act} {idx : List (Nat × Nat)} {V : Nat → Value} {L : Array Bool} {a : Act} (h : T a0 idx V L a) (i : Nat) (hu : ∀ q ∈ idx, q.1 ≠ i) : T a0 idx V (L.setIfInBounds i true) a :=
  ⟨h.dfs, h.sz, h.out, fun q hq hL => by
    rcases set_get hL with e | e
    · exact absurd e (hu q hq)
    · exact h.tab q hq e⟩
/-- All of the table put. -/
def puts (V : Nat → Value) : List (Nat × Nat) → Act → Act
  | [], a => a
  | q :: l, a => puts V l (a.put (some q.2) (V q.2))
theorem puts_dfs (V : Nat → Value) : ∀ (l : List (Nat × Nat)) (a : Act), (puts V l a).defers = a.defers
  | [], _ => rfl
  | q :: l, a => puts_dfs V l _
theorem puts_sz (V : Nat → Value) : ∀ (l : List (Nat × Nat)) (a : Act), (puts V l a).tmps.size = a.tmps.size
  | [], _ => rfl
  | q :: l, a => (puts_sz V l _).trans (by show (a.tmps.setIfInBounds _ _).size = _; rw [Array.size_setIfInBounds])
theorem puts_out (V : Nat → Value) : ∀ (l : List (Nat × Nat)) (a : Act) (j : Nat), (∀ q ∈ l, q.2 ≠ j) → (puts V l a).tmps[j]? = a.tmps[j]?
  | [], _, _, _ => rfl
  | q :: l, a, j, h => (puts_out V l _ j (fun r hr => h r (List.mem_cons_of_mem _ hr))).trans (by
    show (a.tmps.setIfInBounds _ _)[j]? = _
    rw [Array.getElem?_setIfInBounds, if_neg (h q (by simp))])
theorem puts_in (V : Nat → Value) : ∀ (l : List (Nat × Nat)) (a : Act), (∀ q ∈ l, q.2 < a.tmps.size) → ∀ q ∈ l, (puts V l a).tmps[q.2]? = some (V q.2)
  | [], _, _, q, h => by simp at h
  | r :: l, a, hs, q, h => by
    show (puts V l (a.put (some r.2) (V r.2))).tmps[q.2]? = _
    have hs' : (a.put (some r.2) (V r.2)).tmps.size = a.tmps.size := by show (a.tmps.setIfInBounds _ _).size = _; rw [Array.size_setIfInBounds]
    by_cases e : ∃ q' ∈ l, q'.2 = q.2
    · obtain ⟨q', h1, h2⟩ := e
      rw [← h2]
      exact puts_in V l _ (fun p hp => by rw [hs']; exact hs p (List.mem_cons_of_mem _ hp)) q' h1
    · rw [puts_out V l _ q.2 (fun p hp e' => e ⟨p, hp, e'⟩)]
      rcases List.mem_cons.1 h with rfl | h
      · show (a.tmps.setIfInBounds _ _)[_]? = _
        rw [Array.getElem?_setIfInBounds, if_pos rfl, if_pos (hs _ (by simp))]
      · exact absurd ⟨q, h, rfl⟩ e
theorem T.all {a0 : Act} {idx : List (Nat × Nat)} {V : Nat → Value} {L : Array Bool} {a : Act} (h : T a0 idx V L a) (hs : ∀ q ∈ idx, q.2 < a0.tmps.size) (hd : ∀ q ∈ idx, L[q.1]? = some true) : a = puts V idx a0 := by
  have h1 : a.tmps = (puts V idx a0).tmps := by
    refine Array.ext_getElem? fun j => ?_
    by_cases e : ∃ q ∈ idx, q.2 = j
    · obtain ⟨q, hq, rfl⟩ := e
      rw [h.tab q hq (hd q hq), puts_in V idx a0 hs q hq]
    · rw [h.out j (fun q hq e' => e ⟨q, hq, e'⟩), puts_out V idx a0 j (fun q hq e' => e ⟨q, hq, e'⟩)]
  have h2 : a.defers = (puts V idx a0).defers := h.dfs.trans (puts_dfs V idx a0).symm
  cases a
  cases hp : puts V idx a0
  rw [hp] at h1 h2
  simp only at h1 h2
  rw [h1, h2]
/-- A guard of an operation that must come first, and which holds. -/
def okG (ops : Array Oper) (G : List (Nat × Nat × Bool)) (o : Oper) : Bool :=
  match o.guard with
  | none => true
  | some (j, b) => G.any (fun g => decide (g.1 = j) && decide (g.2.2 = b) && decide ((ops[j]?).bind (·.dst) = some g.2.1)) && o.after.toList.any (fun e => decide (e.on = j) && Region.binds .any e)
/-- The table fits the operations. -/
def fits (ops : Array Oper) (idx : List (Nat × Nat)) (G : List (Nat × Nat × Bool)) (n : Nat) : Bool :=
  (List.range ops.size).all (fun i => match ops[i]? with
    | some o => okG ops G o && (match o.dst with
      | some d => idx.contains (i, d) && idx.all (fun q => decide (q = (i, d)) || (decide (q.1 ≠ i) && decide (q.2 ≠ d)))
      | none => idx.all (fun q => decide (q.1 ≠ i)))
    | none => true) && idx.all (fun q => decide (q.1 < ops.size) && decide (q.2 < n))
section
variable {P : Program} {ops : Array Oper} {Q : Exit → Act → World → Prop}
theorem wanted_of {a0 : Act} {idx : List (Nat × Nat)} {V : Nat → Value} {L : Array Bool} {a : Act} (h : T a0 idx V L a) {G : List (Nat × Nat × Bool)} (hG : ∀ g ∈ G, (g.1, g.2.1) ∈ idx ∧ V g.2.1 = .bool g.2.2) {o : Oper} (ho : okG ops G o = true)
    (hd : ∀ e ∈ o.after.toList, Region.binds .any e = true → L[e.on]? = some true) : Region.wanted o (yielded ops a.tmps) = true := by
  unfold okG at ho
  unfold Region.wanted
  cases hg : o.guard with
  | none => rfl
  | some jb =>
    obtain ⟨j, b⟩ := jb
    rw [hg] at ho
    simp only [Bool.and_eq_true, List.any_eq_true, decide_eq_true_eq] at ho
    obtain ⟨⟨g, hgm, ⟨h1, h2⟩, h3⟩, e, he, h4, h5⟩ := ho
    have hL := hd e he h5
    rw [h4] at hL
    obtain ⟨g1, g2⟩ := hG g hgm
    have ht := h.tab _ g1 (by show L[g.1]? = _; rw [h1]; exact hL)
    show (yielded ops a.tmps j == some b) = true
    unfold yielded
    rw [h3]
    show ((match (a.tmps[g.2.1]?) with | some (.bool b) => some b | _ => none) == some b) = true
    rw [show a.tmps[g.2.1]? = some (V g.2.1) from ht, g2, h2]
    simp
theorem wpOp_want {i : Nat} {o : Oper} {a : Act} {w : World} {K : Act → World → Prop} (ho : ops[i]? = some o) (hg : Region.wanted o (yielded ops a.tmps) = true) (h : o.wp P a w K Q) : wpOp P ops Q i K a w := by
  unfold wpOp
  rw [ho]
  simp only [hg, if_true]
  exact Or.inl h
theorem region_tab2 {id : Nat} {a0 : Act} {w : World} (hm : P.follows .mixedOrders = true) (idx : List (Nat × Nat)) (G : List (Nat × Nat × Bool)) (n : Nat) (V : Nat → Value) (W : Array Bool → World → Prop)
    (hB : fwdB ops = true) (hn : a0.tmps.size = n) (hf : fits ops idx G n = true) (hG : ∀ g ∈ G, (g.1, g.2.1) ∈ idx ∧ V g.2.1 = .bool g.2.2)
    (h0 : W (Array.replicate ops.size false) w.drew)
    (hend : ∀ L a w', T a0 idx V L a → L.size = ops.size → (∀ i, i < ops.size → L[i]? = some true) → W L w' → Q .normal a w')
    (hstep : ∀ i o L a w' (K : Act → World → Prop) (Q' : Exit → Act → World → Prop), T a0 idx V L a → L.size = ops.size → W L w' → L[i]? = some false → ops[i]? = some o → (∀ e ∈ o.after.toList, Region.binds .any e = true → L[e.on]? = some true) →
      (∀ w'', W (L.setIfInBounds i true) w'' → K (a.put o.dst (V (o.dst.getD 0))) w'') → o.wp P a w' K Q') :
    (Code.region id ops true).wp P Q a0 w := by
  unfold fits at hf
  rw [Bool.and_eq_true] at hf
  obtain ⟨hf1, hf2⟩ := hf
  rw [List.all_eq_true] at hf1 hf2
  have hi1 : ∀ q ∈ idx, q.1 < ops.size ∧ q.2 < a0.tmps.size := fun q hq => by
    have := hf2 q hq
    rw [Bool.and_eq_true] at this
    rw [hn]
    exact ⟨of_decide_eq_true this.1, of_decide_eq_true this.2⟩
  refine wp_region_inv hm (fun L a w' => T a0 idx V L a ∧ L.size = ops.size ∧ W L w') ⟨T.start a0 idx V _, by simp, h0⟩ ?_ ?_
  · rintro L a w' ⟨hT, hs, hW⟩ hr
    have hd := all_done hB hs hr
    exact hend L a w' hT hs hd hW
  · rintro i o L a w' ⟨hT, hs, hW⟩ hL ho hd
    have hi : i < ops.size := (Array.getElem?_eq_some_iff.1 ho).1
    have h1 := hf1 i (by simpa using hi)
    rw [ho] at h1
    simp only [Bool.and_eq_true] at h1
    obtain ⟨hg, h1⟩ := h1
    refine wpOp_want ho (wanted_of hT hG hg hd) (hstep i o L a w' _ Q hT hs hW hL ho hd ?_)
    intro w'' hW'
    refine ⟨?_, by rw [Array.size_setIfInBounds]; exact hs, hW'⟩
    cases hdst : o.dst with
    | none =>
      rw [hdst] at h1
      rw [List.all_eq_true] at h1
      exact hT.skip i (fun q hq => of_decide_eq_true (h1 q hq))
    | some d =>
      rw [hdst] at h1
      simp only [Bool.and_eq_true, List.all_eq_true] at h1
      obtain ⟨h2, h3⟩ := h1
      have hm : (i, d) ∈ idx := by simpa using h2
      refine hT.put i d hm (hi1 _ hm).2 (fun q hq => ?_)
      have := h3 q hq
      rw [Bool.or_eq_true, Bool.and_eq_true] at this
      rcases this with e | ⟨e1, e2⟩
      · exact Or.inl (of_decide_eq_true e)
      · exact Or.inr ⟨of_decide_eq_true e1, of_decide_eq_true e2⟩
theorem region_tab {id : Nat} {a0 : Act} {w : World} (hm : P.follows .mixedOrders = true) (idx : List (Nat × Nat)) (G : List (Nat × Nat × Bool)) (n : Nat) (V : Nat → Value) (W : Array Bool → World → Prop)
    (hB : fwdB ops = true) (hn : a0.tmps.size = n) (hf : fits ops idx G n = true) (hG : ∀ g ∈ G, (g.1, g.2.1) ∈ idx ∧ V g.2.1 = .bool g.2.2)
    (h0 : W (Array.replicate ops.size false) w.drew)
    (hend : ∀ L w', L.size = ops.size → (∀ i, i < ops.size → L[i]? = some true) → W L w' → Q .normal (puts V idx a0) w')
    (hstep : ∀ i o L a w' (K : Act → World → Prop) (Q' : Exit → Act → World → Prop), T a0 idx V L a → L.size = ops.size → W L w' → L[i]? = some false → ops[i]? = some o → (∀ e ∈ o.after.toList, Region.binds .any e = true → L[e.on]? = some true) →
      (∀ w'', W (L.setIfInBounds i true) w'' → K (a.put o.dst (V (o.dst.getD 0))) w'') → o.wp P a w' K Q') :
    (Code.region id ops true).wp P Q a0 w := by
  refine region_tab2 hm idx G n V W hB hn hf hG h0 (fun L a w' hT hs hd hW => ?_) hstep
  unfold fits at hf
  rw [Bool.and_eq_true] at hf
  have hf2 := hf.2
  rw [List.all_eq_true] at hf2
  have hi1 : ∀ q ∈ idx, q.1 < ops.size ∧ q.2 < a0.tmps.size := fun q hq => by
    have := hf2 q hq
    rw [Bool.and_eq_true] at this
    rw [hn]
    exact ⟨of_decide_eq_true this.1, of_decide_eq_true this.2⟩
  rw [hT.all (fun q hq => (hi1 q hq).2) (fun q hq => hd _ (hi1 q hq).1)]
  exact hend L w' hs hd hW
end
end Go.Proofs.YtonndofbnhnkpaaGreat.Tab
namespace Go.Proofs.YtonndofbnhnkpaaGreat.Tab
open Go.Proofs.YtonndofbnhnkpaaGreat.Inv Go.RowKit
def upd (V : Nat → Value) (d : Nat) (x : Value) : Nat → Value := fun j => if j = d then x else V j
theorem upd_self (V : Nat → Value) (d : Nat) (x : Value) : upd V d x d = x := if_pos rfl
theorem upd_ne (V : Nat → Value) {d j : Nat} (x : Value) (h : j ≠ d) : upd V d x j = V j := if_neg h
theorem T.turn {a0 : Act} {idx : List (Nat × Nat)} {V : Nat → Value} {L : Array Bool} {a : Act} (h : T a0 idx V L a) (i d : Nat) (x : Value) (hf : L[i]? = some false) (hm : (i, d) ∈ idx) (hu : ∀ q ∈ idx, q = (i, d) ∨ (q.1 ≠ i ∧ q.2 ≠ d)) : T a0 idx (upd V d x) L a :=
  ⟨h.dfs, h.sz, h.out, fun q hq hL => by
    rcases hu q hq with rfl | ⟨g1, g2⟩
    · rw [hf] at hL; cases hL
    · rw [upd_ne V x g2]; exact h.tab q hq hL⟩
section
variable {P : Program} {ops : Array Oper} {Q : Exit → Act → World → Prop}
theorem region_tab3 {id : Nat} {a0 : Act} {w : World} (hm : P.follows .mixedOrders = true) (idx : List (Nat × Nat)) (n : Nat) (W : Array Bool → (Nat → Value) → World → Prop)
    (hB : fwdB ops = true) (hn : a0.tmps.size = n) (hf : fits ops idx [] n = true)
    (h0 : ∃ V, W (Array.replicate ops.size false) V w.drew)
    (hend : ∀ L V a w', T a0 idx V L a → L.size = ops.size → (∀ i, i < ops.size → L[i]? = some true) → W L V w' → Q .normal a w')
    (hstep : ∀ i o L V a w' (K : Act → World → Prop) (Q' : Exit → Act → World → Prop), T a0 idx V L a → L.size = ops.size → W L V w' → L[i]? = some false → ops[i]? = some o → (∀ e ∈ o.after.toList, Region.binds .any e = true → L[e.on]? = some true) →
      (∀ q ∈ idx, L[q.1]? = some false → a.tmps[q.2]? = a0.tmps[q.2]?) → (∀ (i : Nat) (o : Oper), ops[i]? = some o → L[i]? = some true → ∀ e ∈ o.after.toList, Region.binds .any e = true → L[e.on]? = some true) →
      (∀ x w'', W (L.setIfInBounds i true) (match o.dst with | some d => upd V d x | none => V) w'' → K (a.put o.dst x) w'') → o.wp P a w' K Q') :
    (Code.region id ops true).wp P Q a0 w := by
  unfold fits at hf
  rw [Bool.and_eq_true] at hf
  obtain ⟨hf1, hf2⟩ := hf
  rw [List.all_eq_true] at hf1 hf2
  have hi1 : ∀ q ∈ idx, q.1 < ops.size ∧ q.2 < a0.tmps.size := fun q hq => by
    have := hf2 q hq
    rw [Bool.and_eq_true] at this
    rw [hn]
    exact ⟨of_decide_eq_true this.1, of_decide_eq_true this.2⟩
  refine wp_region_inv hm (fun L a w' => ∃ V, T a0 idx V L a ∧ L.size = ops.size ∧ W L V w' ∧ (∀ q ∈ idx, L[q.1]? = some false → a.tmps[q.2]? = a0.tmps[q.2]?) ∧ (∀ (i : Nat) (o : Oper), ops[i]? = some o → L[i]? = some true → ∀ e ∈ o.after.toList, Region.binds .any e = true → L[e.on]? = some true)) ?_ ?_ ?_
  · obtain ⟨V, hV⟩ := h0
    exact ⟨V, T.start a0 idx V _, by simp, hV, fun _ _ _ => rfl, fun i o _ h => by simp [Array.getElem?_replicate] at h⟩
  · rintro L a w' ⟨V, hT, hs, hW, _, _⟩ hr
    exact hend L V a w' hT hs (fun i hi => all_done hB hs hr i hi) hW
  · rintro i o L a w' ⟨V, hT, hs, hW, hold, hcl⟩ hL ho hd
    have hi : i < ops.size := (Array.getElem?_eq_some_iff.1 ho).1
    have h1 := hf1 i (by simpa using hi)
    rw [ho] at h1
    simp only [Bool.and_eq_true] at h1
    obtain ⟨hg, h1⟩ := h1
    refine wpOp_want ho (wanted_of hT (G := []) (fun g hg => by cases hg) hg hd) (hstep i o L V a w' _ Q hT hs hW hL ho hd hold hcl ?_)
    intro x w'' hW'
    have hcl' : ∀ (i' : Nat) (o' : Oper), ops[i']? = some o' → (L.setIfInBounds i true)[i']? = some true → ∀ e ∈ o'.after.toList, Region.binds .any e = true → (L.setIfInBounds i true)[e.on]? = some true := fun i' o' ho' hL' e he hb => by
      have : L[e.on]? = some true := by
        rcases set_get hL' with rfl | h
        · rw [ho] at ho'; cases ho'; exact hd e he hb
        · exact hcl i' o' ho' h e he hb
      by_cases hh : e.on = i
      · rw [hh] at this; rw [hL] at this; cases this
      · rw [get_ne hh]; exact this
    have hof : ∀ q : Nat × Nat, (L.setIfInBounds i true)[q.1]? = some false → q.1 ≠ i ∧ L[q.1]? = some false := fun q h => by
      by_cases hh : q.1 = i
      · rw [hh, get_self hL] at h; cases h
      · rw [get_ne hh] at h; exact ⟨hh, h⟩
    refine ⟨_, ?_, by rw [Array.size_setIfInBounds]; exact hs, hW', ?_, hcl'⟩
    · cases hdst : o.dst with
      | none =>
        rw [hdst] at h1
        rw [List.all_eq_true] at h1
        exact hT.skip i (fun q hq => of_decide_eq_true (h1 q hq))
      | some d =>
        rw [hdst] at h1
        simp only [Bool.and_eq_true, List.all_eq_true] at h1
        obtain ⟨h2, h3⟩ := h1
        have hm : (i, d) ∈ idx := by simpa using h2
        have hu : ∀ q ∈ idx, q = (i, d) ∨ (q.1 ≠ i ∧ q.2 ≠ d) := fun q hq => by
          have := h3 q hq
          rw [Bool.or_eq_true, Bool.and_eq_true] at this
          rcases this with e | ⟨e1, e2⟩
          · exact Or.inl (of_decide_eq_true e)
          · exact Or.inr ⟨of_decide_eq_true e1, of_decide_eq_true e2⟩
        have := (hT.turn i d x hL hm hu).put i d hm (hi1 _ hm).2 hu
        rw [upd_self] at this
        exact this
    · intro q hq hf
      obtain ⟨g1, g2⟩ := hof q hf
      have h0 := hold q hq g2
      cases hdst : o.dst with
      | none => exact h0
      | some d =>
        rw [hdst] at h1
        simp only [Bool.and_eq_true, List.all_eq_true] at h1
        have := h1.2 q hq
        rw [Bool.or_eq_true, Bool.and_eq_true] at this
        rcases this with e | ⟨e1, e2⟩
        · have e := of_decide_eq_true e
          exact absurd (by rw [e]) g1
        · show (a.tmps.setIfInBounds d x)[q.2]? = _
          rw [Array.getElem?_setIfInBounds, if_neg (fun e => (of_decide_eq_true e2) e.symm)]
          exact h0
theorem region_tab4 {id : Nat} {a0 : Act} {w : World} (hm : P.follows .mixedOrders = true) (idx : List (Nat × Nat)) (n : Nat) (V : Nat → Value) (W : Array Bool → World → Prop)
    (hB : fwdB ops = true) (hn : a0.tmps.size = n) (hf : fits ops idx [] n = true)
    (h0 : W (Array.replicate ops.size false) w.drew)
    (hend : ∀ L a w', T a0 idx V L a → L.size = ops.size → (∀ i, i < ops.size → L[i]? = some true) → W L w' → Q .normal a w')
    (hstep : ∀ i o L a w' (K : Act → World → Prop) (Q' : Exit → Act → World → Prop), T a0 idx V L a → L.size = ops.size → W L w' → L[i]? = some false → ops[i]? = some o → (∀ e ∈ o.after.toList, Region.binds .any e = true → L[e.on]? = some true) →
      (∀ q ∈ idx, L[q.1]? = some false → a.tmps[q.2]? = a0.tmps[q.2]?) → (∀ (i : Nat) (o : Oper), ops[i]? = some o → L[i]? = some true → ∀ e ∈ o.after.toList, Region.binds .any e = true → L[e.on]? = some true) →
      (∀ w'', W (L.setIfInBounds i true) w'' → K (a.put o.dst (V (o.dst.getD 0))) w'') → o.wp P a w' K Q') :
    (Code.region id ops true).wp P Q a0 w := by
  unfold fits at hf
  rw [Bool.and_eq_true] at hf
  obtain ⟨hf1, hf2⟩ := hf
  rw [List.all_eq_true] at hf1 hf2
  have hi1 : ∀ q ∈ idx, q.1 < ops.size ∧ q.2 < a0.tmps.size := fun q hq => by
    have := hf2 q hq
    rw [Bool.and_eq_true] at this
    rw [hn]
    exact ⟨of_decide_eq_true this.1, of_decide_eq_true this.2⟩
  refine wp_region_inv hm (fun L a w' => T a0 idx V L a ∧ L.size = ops.size ∧ W L w' ∧ (∀ q ∈ idx, L[q.1]? = some false → a.tmps[q.2]? = a0.tmps[q.2]?) ∧ (∀ (i : Nat) (o : Oper), ops[i]? = some o → L[i]? = some true → ∀ e ∈ o.after.toList, Region.binds .any e = true → L[e.on]? = some true)) ?_ ?_ ?_
  · exact ⟨T.start a0 idx V _, by simp, h0, fun _ _ _ => rfl, fun i o _ h => by simp [Array.getElem?_replicate] at h⟩
  · rintro L a w' ⟨hT, hs, hW, _, _⟩ hr
    exact hend L a w' hT hs (fun i hi => all_done hB hs hr i hi) hW
  · rintro i o L a w' ⟨hT, hs, hW, hold, hcl⟩ hL ho hd
    have hi : i < ops.size := (Array.getElem?_eq_some_iff.1 ho).1
    have h1 := hf1 i (by simpa using hi)
    rw [ho] at h1
    simp only [Bool.and_eq_true] at h1
    obtain ⟨hg, h1⟩ := h1
    refine wpOp_want ho (wanted_of hT (G := []) (fun g hg => by cases hg) hg hd) (hstep i o L a w' _ Q hT hs hW hL ho hd hold hcl ?_)
    intro w'' hW'
    have hcl' : ∀ (i' : Nat) (o' : Oper), ops[i']? = some o' → (L.setIfInBounds i true)[i']? = some true → ∀ e ∈ o'.after.toList, Region.binds .any e = true → (L.setIfInBounds i true)[e.on]? = some true := fun i' o' ho' hL' e he hb => by
      have : L[e.on]? = some true := by
        rcases set_get hL' with rfl | h
        · rw [ho] at ho'; cases ho'; exact hd e he hb
        · exact hcl i' o' ho' h e he hb
      by_cases hh : e.on = i
      · rw [hh] at this; rw [hL] at this; cases this
      · rw [get_ne hh]; exact this
    have hof : ∀ q : Nat × Nat, (L.setIfInBounds i true)[q.1]? = some false → q.1 ≠ i ∧ L[q.1]? = some false := fun q h => by
      by_cases hh : q.1 = i
      · rw [hh, get_self hL] at h; cases h
      · rw [get_ne hh] at h; exact ⟨hh, h⟩
    refine ⟨?_, by rw [Array.size_setIfInBounds]; exact hs, hW', ?_, hcl'⟩
    · cases hdst : o.dst with
      | none =>
        rw [hdst] at h1
        rw [List.all_eq_true] at h1
        exact hT.skip i (fun q hq => of_decide_eq_true (h1 q hq))
      | some d =>
        rw [hdst] at h1
        simp only [Bool.and_eq_true, List.all_eq_true] at h1
        obtain ⟨h2, h3⟩ := h1
        have hm : (i, d) ∈ idx := by simpa using h2
        have hu : ∀ q ∈ idx, q = (i, d) ∨ (q.1 ≠ i ∧ q.2 ≠ d) := fun q hq => by
          have := h3 q hq
          rw [Bool.or_eq_true, Bool.and_eq_true] at this
          rcases this with e | ⟨e1, e2⟩
          · exact Or.inl (of_decide_eq_true e)
          · exact Or.inr ⟨of_decide_eq_true e1, of_decide_eq_true e2⟩
        exact hT.put i d hm (hi1 _ hm).2 hu
    · intro q hq hf
      obtain ⟨g1, g2⟩ := hof q hf
      have h0 := hold q hq g2
      cases hdst : o.dst with
      | none => exact h0
      | some d =>
        rw [hdst] at h1
        simp only [Bool.and_eq_true, List.all_eq_true] at h1
        have := h1.2 q hq
        rw [Bool.or_eq_true, Bool.and_eq_true] at this
        rcases this with e | ⟨e1, e2⟩
        · have e := of_decide_eq_true e
          exact absurd (by rw [e]) g1
        · show (a.tmps.setIfInBounds d (V d))[q.2]? = _
          rw [Array.getElem?_setIfInBounds, if_neg (fun e => (of_decide_eq_true e2) e.symm)]
          exact h0
theorem notyet {L : Array Bool} {o : Oper} {i : Nat} (hs : L.size = ops.size) (h : L[i]? = some true → ∀ e ∈ o.after.toList, Region.binds .any e = true → L[e.on]? = some true) (j : Nat) (hj : ∃ e ∈ o.after.toList, Region.binds .any e = true ∧ e.on = j) (hL : L[j]? = some false) (hi : i < ops.size := by decide) : L[i]? = some false := by
  obtain ⟨e, he, hb, rfl⟩ := hj
  cases hh : L[i]? with
  | none => rw [Array.getElem?_eq_none_iff] at hh; omega
  | some c =>
    cases c
    · rfl
    · have := h hh e he hb
      rw [hL] at this; cases this
end
end Go.Proofs.YtonndofbnhnkpaaGreat.Tab
namespace Go.Proofs.YtonndofbnhnkpaaGreat.Tab
open Go.Proofs.YtonndofbnhnkpaaGreat.Inv Go.RowKit
section
variable {P : Program} {ops : Array Oper} {Q : Exit → Act → World → Prop}
theorem region_rd {id : Nat} {a0 : Act} {w : World} (hm : P.follows .mixedOrders = true) (idx : List (Nat × Nat)) (n : Nat) (V : Nat → Value)
    (hB : fwdB ops = true) (hn : a0.tmps.size = n) (hf : fits ops idx [] n = true)
    (hend : ∀ a, T a0 idx V (Array.replicate ops.size true) a → Q .normal a w.drew)
    (hstep : ∀ (i : Nat) (o : Oper) (L : Array Bool) (a : Act) (K : Act → World → Prop) (Q' : Exit → Act → World → Prop), T a0 idx V L a → L[i]? = some false → ops[i]? = some o → (∀ e ∈ o.after.toList, Region.binds .any e = true → L[e.on]? = some true) →
      (∀ q ∈ idx, L[q.1]? = some false → a.tmps[q.2]? = a0.tmps[q.2]?) → (∀ (i : Nat) (o : Oper), ops[i]? = some o → L[i]? = some true → ∀ e ∈ o.after.toList, Region.binds .any e = true → L[e.on]? = some true) →
      K (a.put o.dst (V (o.dst.getD 0))) w.drew → o.wp P a w.drew K Q') :
    (Code.region id ops true).wp P Q a0 w := by
  refine region_tab4 hm idx n V (fun _ w' => w' = w.drew) hB hn hf rfl ?_ ?_
  · intro L a w' hT hs hd hW
    rw [hW]
    have : L = Array.replicate ops.size true := by
      refine Array.ext_getElem? fun j => ?_
      rcases Nat.lt_or_ge j ops.size with h | h
      · rw [hd j h]; simp [Array.getElem?_replicate, h]
      · rw [Array.getElem?_eq_none (by omega)]; simp [Array.getElem?_replicate, Nat.not_lt.2 h]
    rw [this] at hT
    exact hend a hT
  · intro i o L a w' K Q' hT hs hW hL ho hd hold hcl hK
    rw [hW]
    exact hstep i o L a K Q' hT hL ho hd hold hcl (hK _ rfl)
/-- The operation m comes behind i. -/
def dirB (ops : Array Oper) (m i : Nat) : Bool := ((ops[m]?).map (·.after.toList.any fun e => decide (e.on = i) && Region.binds .any e)).getD false
theorem dir_done {L : Array Bool} (hcl : ∀ (i : Nat) (o : Oper), ops[i]? = some o → L[i]? = some true → ∀ e ∈ o.after.toList, Region.binds .any e = true → L[e.on]? = some true) {m i : Nat} (h1 : dirB ops m i = true) (h : L[m]? = some true) : L[i]? = some true := by
  unfold dirB at h1
  cases hom : ops[m]? with
  | none => rw [hom] at h1; simp at h1
  | some om =>
    rw [hom] at h1
    simp only [Option.map_some, Option.getD_some, List.any_eq_true, Bool.and_eq_true, decide_eq_true_eq] at h1
    obtain ⟨e, he, h2, h3⟩ := h1
    have := hcl m om hom h e he h3
    rw [h2] at this; exact this
/-- The operation m comes behind all others: each other one has one behind it. -/
def lastB (ops : Array Oper) (m : Nat) : Bool := decide (ops.size = m + 1) && (List.range m).all (fun i => (List.range (m + 1)).any (fun k => decide (i < k) && dirB ops k i))
theorem last_done {L : Array Bool} {m : Nat} (hcl : ∀ (i : Nat) (o : Oper), ops[i]? = some o → L[i]? = some true → ∀ e ∈ o.after.toList, Region.binds .any e = true → L[e.on]? = some true)
    (hl : ∀ x ∈ List.range m, ((List.range (m + 1)).any (fun k => decide (x < k) && dirB ops k x)) = true) (h : L[m]? = some true) : ∀ j, j ≤ m → L[m - j]? = some true := by
  intro j
  induction j using Nat.strongRecOn with
  | ind j ih =>
    intro hj
    rcases Nat.eq_zero_or_pos j with rfl | hp
    · exact h
    · have h1 := hl (m - j) (by simp; omega)
      rw [List.any_eq_true] at h1
      obtain ⟨k, hk, h2⟩ := h1
      rw [Bool.and_eq_true] at h2
      have hk' : k < m + 1 := by simpa using hk
      have hlt := of_decide_eq_true h2.1
      have := ih (m - k) (by omega) (by omega)
      rw [show m - (m - k) = k by omega] at this
      exact dir_done hcl h2.2 this
theorem region_rs {id : Nat} {a0 : Act} {w : World} (hm : P.follows .mixedOrders = true) (idx : List (Nat × Nat)) (n : Nat) (V : Nat → Value) (m : Nat) (w1 : World)
    (hB : fwdB ops = true) (hn : a0.tmps.size = n) (hf : fits ops idx [] n = true) (hl : lastB ops m = true)
    (hend : ∀ a, T a0 idx V (Array.replicate ops.size true) a → Q .normal a w1)
    (hstep : ∀ (i : Nat) (o : Oper) (L : Array Bool) (a : Act) (K : Act → World → Prop) (Q' : Exit → Act → World → Prop), T a0 idx V L a → L[i]? = some false → ops[i]? = some o → (∀ e ∈ o.after.toList, Region.binds .any e = true → L[e.on]? = some true) →
      (∀ q ∈ idx, L[q.1]? = some false → a.tmps[q.2]? = a0.tmps[q.2]?) → (∀ (i : Nat) (o : Oper), ops[i]? = some o → L[i]? = some true → ∀ e ∈ o.after.toList, Region.binds .any e = true → L[e.on]? = some true) →
      K (a.put o.dst (V (o.dst.getD 0))) (if i = m then w1 else w.drew) → o.wp P a w.drew K Q') :
    (Code.region id ops true).wp P Q a0 w := by
  unfold lastB at hl
  rw [Bool.and_eq_true] at hl
  obtain ⟨hl1, hl2⟩ := hl
  have hl1 := of_decide_eq_true hl1
  rw [List.all_eq_true] at hl2
  refine region_tab4 hm idx n V (fun L w' => w' = if L[m]? = some true then w1 else w.drew) hB hn hf (by rw [if_neg (by simp [Array.getElem?_replicate])]) ?_ ?_
  · intro L a w' hT hs hd hW
    rw [hW, if_pos (hd m (by omega))]
    have : L = Array.replicate ops.size true := by
      refine Array.ext_getElem? fun j => ?_
      rcases Nat.lt_or_ge j ops.size with h | h
      · rw [hd j h]; simp [Array.getElem?_replicate, h]
      · rw [Array.getElem?_eq_none (by omega)]; simp [Array.getElem?_replicate, Nat.not_lt.2 h]
    rw [this] at hT
    exact hend a hT
  · intro i o L a w' K Q' hT hs hW hL ho hd hold hcl hK
    have hi : i < ops.size := (Array.getElem?_eq_some_iff.1 ho).1
    have hm' : ¬ L[m]? = some true := by
      intro h
      rcases Nat.lt_or_ge i m with hlt | hge
      · have h1 := last_done hcl hl2 h (m - i) (by omega)
        rw [show m - (m - i) = i by omega, hL] at h1; cases h1
      · have : i = m := by omega
        rw [this, h] at hL; cases hL
    rw [if_neg hm'] at hW
    rw [hW]
    refine hstep i o L a K Q' hT hL ho hd hold hcl (hK _ ?_)
    by_cases e : i = m
    · rw [if_pos e, e, if_pos (get_self (by rw [← e]; exact hL))]
    · rw [if_neg e, get_ne (fun h => e h.symm), if_neg hm']
theorem region_tab5 {id : Nat} {a0 : Act} {w : World} (hm : P.follows .mixedOrders = true) (idx : List (Nat × Nat)) (n : Nat) (V : Nat → Value) (W : Array Bool → World → Prop)
    (hB : fwdB ops = true) (hn : a0.tmps.size = n) (hf : fits ops idx [] n = true)
    (h0 : W (Array.replicate ops.size false) w.drew)
    (hend : ∀ L a w', T a0 idx V L a → L.size = ops.size → (∀ i, i < ops.size → L[i]? = some true) → W L w' → Q .normal a w')
    (hstep : ∀ i o L a w' (K : Act → World → Prop), T a0 idx V L a → L.size = ops.size → W L w' → L[i]? = some false → ops[i]? = some o → (∀ e ∈ o.after.toList, Region.binds .any e = true → L[e.on]? = some true) →
      (∀ q ∈ idx, L[q.1]? = some false → a.tmps[q.2]? = a0.tmps[q.2]?) → (∀ (i : Nat) (o : Oper), ops[i]? = some o → L[i]? = some true → ∀ e ∈ o.after.toList, Region.binds .any e = true → L[e.on]? = some true) →
      (∀ w'', W (L.setIfInBounds i true) w'' → K (a.put o.dst (V (o.dst.getD 0))) w'') → o.wp P a w' K Q) :
    (Code.region id ops true).wp P Q a0 w := by
  unfold fits at hf
  rw [Bool.and_eq_true] at hf
  obtain ⟨hf1, hf2⟩ := hf
  rw [List.all_eq_true] at hf1 hf2
  have hi1 : ∀ q ∈ idx, q.1 < ops.size ∧ q.2 < a0.tmps.size := fun q hq => by
    have := hf2 q hq
    rw [Bool.and_eq_true] at this
    rw [hn]
    exact ⟨of_decide_eq_true this.1, of_decide_eq_true this.2⟩
  refine wp_region_inv hm (fun L a w' => T a0 idx V L a ∧ L.size = ops.size ∧ W L w' ∧ (∀ q ∈ idx, L[q.1]? = some false → a.tmps[q.2]? = a0.tmps[q.2]?) ∧ (∀ (i : Nat) (o : Oper), ops[i]? = some o → L[i]? = some true → ∀ e ∈ o.after.toList, Region.binds .any e = true → L[e.on]? = some true)) ?_ ?_ ?_
  · exact ⟨T.start a0 idx V _, by simp, h0, fun _ _ _ => rfl, fun i o _ h => by simp [Array.getElem?_replicate] at h⟩
  · rintro L a w' ⟨hT, hs, hW, _, _⟩ hr
    exact hend L a w' hT hs (fun i hi => all_done hB hs hr i hi) hW
  · rintro i o L a w' ⟨hT, hs, hW, hold, hcl⟩ hL ho hd
    have hi : i < ops.size := (Array.getElem?_eq_some_iff.1 ho).1
    have h1 := hf1 i (by simpa using hi)
    rw [ho] at h1
    simp only [Bool.and_eq_true] at h1
    obtain ⟨hg, h1⟩ := h1
    refine wpOp_want ho (wanted_of hT (G := []) (fun g hg => by cases hg) hg hd) (hstep i o L a w' _ hT hs hW hL ho hd hold hcl ?_)
    intro w'' hW'
    have hcl' : ∀ (i' : Nat) (o' : Oper), ops[i']? = some o' → (L.setIfInBounds i true)[i']? = some true → ∀ e ∈ o'.after.toList, Region.binds .any e = true → (L.setIfInBounds i true)[e.on]? = some true := fun i' o' ho' hL' e he hb => by
      have : L[e.on]? = some true := by
        rcases set_get hL' with rfl | h
        · rw [ho] at ho'; cases ho'; exact hd e he hb
        · exact hcl i' o' ho' h e he hb
      by_cases hh : e.on = i
      · rw [hh] at this; rw [hL] at this; cases this
      · rw [get_ne hh]; exact this
    have hof : ∀ q : Nat × Nat, (L.setIfInBounds i true)[q.1]? = some false → q.1 ≠ i ∧ L[q.1]? = some false := fun q h => by
      by_cases hh : q.1 = i
      · rw [hh, get_self hL] at h; cases h
      · rw [get_ne hh] at h; exact ⟨hh, h⟩
    refine ⟨?_, by rw [Array.size_setIfInBounds]; exact hs, hW', ?_, hcl'⟩
    · cases hdst : o.dst with
      | none =>
        rw [hdst] at h1
        rw [List.all_eq_true] at h1
        exact hT.skip i (fun q hq => of_decide_eq_true (h1 q hq))
      | some d =>
        rw [hdst] at h1
        simp only [Bool.and_eq_true, List.all_eq_true] at h1
        obtain ⟨h2, h3⟩ := h1
        have hm : (i, d) ∈ idx := by simpa using h2
        have hu : ∀ q ∈ idx, q = (i, d) ∨ (q.1 ≠ i ∧ q.2 ≠ d) := fun q hq => by
          have := h3 q hq
          rw [Bool.or_eq_true, Bool.and_eq_true] at this
          rcases this with e | ⟨e1, e2⟩
          · exact Or.inl (of_decide_eq_true e)
          · exact Or.inr ⟨of_decide_eq_true e1, of_decide_eq_true e2⟩
        exact hT.put i d hm (hi1 _ hm).2 hu
    · intro q hq hf
      obtain ⟨g1, g2⟩ := hof q hf
      have h0 := hold q hq g2
      cases hdst : o.dst with
      | none => exact h0
      | some d =>
        rw [hdst] at h1
        simp only [Bool.and_eq_true, List.all_eq_true] at h1
        have := h1.2 q hq
        rw [Bool.or_eq_true, Bool.and_eq_true] at this
        rcases this with e | ⟨e1, e2⟩
        · have e := of_decide_eq_true e
          exact absurd (by rw [e]) g1
        · show (a.tmps.setIfInBounds d (V d))[q.2]? = _
          rw [Array.getElem?_setIfInBounds, if_neg (fun e => (of_decide_eq_true e2) e.symm)]
          exact h0
theorem region_rp {id : Nat} {a0 : Act} {w : World} (hm : P.follows .mixedOrders = true) (idx : List (Nat × Nat)) (n : Nat) (V : Nat → Value) (m : Nat)
    (hB : fwdB ops = true) (hn : a0.tmps.size = n) (hf : fits ops idx [] n = true) (hl : lastB ops m = true)
    (hlast : ∀ (o : Oper) (L : Array Bool) (a : Act), T a0 idx V L a → (∀ e ∈ o.after.toList, Region.binds .any e = true → L[e.on]? = some true) → ops[m]? = some o → o.wp P a w.drew (fun _ _ => False) Q)
    (hstep : ∀ (i : Nat) (o : Oper) (L : Array Bool) (a : Act) (K : Act → World → Prop) (Q' : Exit → Act → World → Prop), i < m → T a0 idx V L a → L[i]? = some false → ops[i]? = some o → (∀ e ∈ o.after.toList, Region.binds .any e = true → L[e.on]? = some true) →
      (∀ q ∈ idx, L[q.1]? = some false → a.tmps[q.2]? = a0.tmps[q.2]?) → (∀ (i : Nat) (o : Oper), ops[i]? = some o → L[i]? = some true → ∀ e ∈ o.after.toList, Region.binds .any e = true → L[e.on]? = some true) →
      K (a.put o.dst (V (o.dst.getD 0))) w.drew → o.wp P a w.drew K Q') :
    (Code.region id ops true).wp P Q a0 w := by
  unfold lastB at hl
  rw [Bool.and_eq_true] at hl
  have hl1 := of_decide_eq_true hl.1
  refine region_tab5 hm idx n V (fun L w' => w' = w.drew ∧ ¬ L[m]? = some true) hB hn hf ⟨rfl, by simp [Array.getElem?_replicate]⟩ ?_ ?_
  · intro L a w' hT hs hd hW
    exact absurd (hd m (by omega)) hW.2
  · intro i o L a w' K hT hs hW hL ho hd hold hcl hK
    obtain ⟨rfl, hWm⟩ := hW
    have hi : i < ops.size := (Array.getElem?_eq_some_iff.1 ho).1
    by_cases e : i = m
    · subst e
      exact Oper.wp_mono (fun _ _ h => h.elim) (hlast o L a hT hd ho)
    · exact hstep i o L a K Q (by omega) hT hL ho hd hold hcl (hK _ ⟨rfl, by rw [get_ne (fun h => e h.symm)]; exact hWm⟩)
end
end Go.Proofs.YtonndofbnhnkpaaGreat.Tab
namespace Go.Proofs.YtonndofbnhnkpaaGreat.Tab
open Go.Proofs.YtonndofbnhnkpaaGreat.Inv Go.RowKit
/-- A guard that must come first: it holds, or the operation's slot stays empty. -/
def okU (ops : Array Oper) (G : List (Nat × Nat × Bool)) (U : List Nat) (o : Oper) : Bool :=
  match o.guard with
  | none => true
  | some (j, b) => G.any (fun g => decide (g.1 = j) && (decide (g.2.2 = b) || (match o.dst with | some d => U.contains d | none => false)) && decide ((ops[j]?).bind (·.dst) = some g.2.1)) && o.after.toList.any (fun e => decide (e.on = j) && Region.binds .any e)
def fitsU (ops : Array Oper) (idx : List (Nat × Nat)) (G : List (Nat × Nat × Bool)) (U : List Nat) (n : Nat) : Bool :=
  (List.range ops.size).all (fun i => match ops[i]? with
    | some o => okU ops G U o && (match o.dst with
      | some d => idx.contains (i, d) && idx.all (fun q => decide (q = (i, d)) || (decide (q.1 ≠ i) && decide (q.2 ≠ d)))
      | none => idx.all (fun q => decide (q.1 ≠ i)))
    | none => true) && idx.all (fun q => decide (q.1 < ops.size) && decide (q.2 < n))
section
variable {P : Program} {ops : Array Oper} {Q : Exit → Act → World → Prop}
theorem empty_of {a0 : Act} {idx : List (Nat × Nat)} {V : Nat → Value} {L : Array Bool} {a : Act} (h : T a0 idx V L a) {G : List (Nat × Nat × Bool)} {U : List Nat} (hG : ∀ g ∈ G, (g.1, g.2.1) ∈ idx ∧ V g.2.1 = .bool g.2.2) {o : Oper} (ho : okU ops G U o = true)
    (hd : ∀ e ∈ o.after.toList, Region.binds .any e = true → L[e.on]? = some true) (hw : ¬ Region.wanted o (yielded ops a.tmps) = true) : ∃ d, o.dst = some d ∧ d ∈ U := by
  unfold okU at ho
  cases hg : o.guard with
  | none => exact absurd (by unfold Region.wanted; rw [hg]) hw
  | some jb =>
    obtain ⟨j, b⟩ := jb
    rw [hg] at ho
    simp only [Bool.and_eq_true, List.any_eq_true, decide_eq_true_eq, Bool.or_eq_true] at ho
    obtain ⟨⟨g, hgm, ⟨h1, h2⟩, h3⟩, e, he, h4, h5⟩ := ho
    rcases h2 with h2 | h2
    · exfalso
      apply hw
      refine wanted_of h (G := [g]) (fun g' hg' => ?_) (o := o) ?_ hd
      · simp at hg'; subst hg'; exact hG _ hgm
      · unfold okG
        rw [hg]
        simp only [List.any_cons, List.any_nil, Bool.or_false, Bool.and_eq_true, decide_eq_true_eq, List.any_eq_true]
        exact ⟨⟨⟨h1, h2⟩, h3⟩, e, he, h4, h5⟩
    · cases hd' : o.dst with
      | none => rw [hd'] at h2; simp at h2
      | some d => rw [hd'] at h2; exact ⟨d, rfl, by simpa using h2⟩
theorem region_rdG {id : Nat} {a0 : Act} {w : World} (hm : P.follows .mixedOrders = true) (idx : List (Nat × Nat)) (G : List (Nat × Nat × Bool)) (U : List Nat) (n : Nat) (V : Nat → Value)
    (hB : fwdB ops = true) (hn : a0.tmps.size = n) (hf : fitsU ops idx G U n = true) (hG : ∀ g ∈ G, (g.1, g.2.1) ∈ idx ∧ V g.2.1 = .bool g.2.2) (hU : ∀ d ∈ U, V d = undef)
    (hend : ∀ a, T a0 idx V (Array.replicate ops.size true) a → Q .normal a w.drew)
    (hstep : ∀ (i : Nat) (o : Oper) (L : Array Bool) (a : Act) (K : Act → World → Prop) (Q' : Exit → Act → World → Prop), T a0 idx V L a → L[i]? = some false → ops[i]? = some o → (∀ e ∈ o.after.toList, Region.binds .any e = true → L[e.on]? = some true) →
      Region.wanted o (yielded ops a.tmps) = true → K (a.put o.dst (V (o.dst.getD 0))) w.drew → o.wp P a w.drew K Q') :
    (Code.region id ops true).wp P Q a0 w := by
  unfold fitsU at hf
  rw [Bool.and_eq_true] at hf
  obtain ⟨hf1, hf2⟩ := hf
  rw [List.all_eq_true] at hf1 hf2
  have hi1 : ∀ q ∈ idx, q.1 < ops.size ∧ q.2 < a0.tmps.size := fun q hq => by
    have := hf2 q hq
    rw [Bool.and_eq_true] at this
    rw [hn]
    exact ⟨of_decide_eq_true this.1, of_decide_eq_true this.2⟩
  refine wp_region_inv hm (fun L a w' => T a0 idx V L a ∧ L.size = ops.size ∧ w' = w.drew) ⟨T.start a0 idx V _, by simp, rfl⟩ ?_ ?_
  · rintro L a w' ⟨hT, hs, rfl⟩ hr
    have hd := all_done hB hs hr
    have : L = Array.replicate ops.size true := by
      refine Array.ext_getElem? fun j => ?_
      rcases Nat.lt_or_ge j ops.size with h | h
      · rw [hd j h]; simp [Array.getElem?_replicate, h]
      · rw [Array.getElem?_eq_none (by omega)]; simp [Array.getElem?_replicate, Nat.not_lt.2 h]
    rw [this] at hT
    exact hend a hT
  · rintro i o L a w' ⟨hT, hs, rfl⟩ hL ho hd
    have hi : i < ops.size := (Array.getElem?_eq_some_iff.1 ho).1
    have h1 := hf1 i (by simpa using hi)
    rw [ho] at h1
    simp only [Bool.and_eq_true] at h1
    obtain ⟨hg, h1⟩ := h1
    have hTn : T a0 idx V (L.setIfInBounds i true) (a.put o.dst (V (o.dst.getD 0))) := by
      cases hdst : o.dst with
      | none =>
        rw [hdst] at h1
        rw [List.all_eq_true] at h1
        exact hT.skip i (fun q hq => of_decide_eq_true (h1 q hq))
      | some d =>
        rw [hdst] at h1
        simp only [Bool.and_eq_true, List.all_eq_true] at h1
        obtain ⟨h2, h3⟩ := h1
        have hm : (i, d) ∈ idx := by simpa using h2
        refine hT.put i d hm (hi1 _ hm).2 (fun q hq => ?_)
        have := h3 q hq
        rw [Bool.or_eq_true, Bool.and_eq_true] at this
        rcases this with e | ⟨e1, e2⟩
        · exact Or.inl (of_decide_eq_true e)
        · exact Or.inr ⟨of_decide_eq_true e1, of_decide_eq_true e2⟩
    by_cases hw : Region.wanted o (yielded ops a.tmps) = true
    · exact wpOp_want ho hw (hstep i o L a _ Q hT hL ho hd hw ⟨hTn, by rw [Array.size_setIfInBounds]; exact hs, by trivial⟩)
    · obtain ⟨d, hdd, hdU⟩ := empty_of hT hG hg hd hw
      unfold wpOp
      rw [ho]
      simp only [hw, Bool.false_eq_true, if_false]
      rw [hdd] at hTn
      rw [show V ((some d).getD 0) = undef from hU d hdU] at hTn
      rw [hdd]
      exact ⟨hTn, by rw [Array.size_setIfInBounds]; exact hs, by trivial⟩
theorem region_tab7 {id : Nat} {a0 : Act} {w : World} (hm : P.follows .mixedOrders = true) (idx : List (Nat × Nat)) (n : Nat) (W : Array Bool → (Nat → Value) → World → Prop)
    (hB : fwdB ops = true) (hn : a0.tmps.size = n) (hf : fits ops idx [] n = true)
    (h0 : ∃ V, W (Array.replicate ops.size false) V w.drew)
    (hend : ∀ L V a w', T a0 idx V L a → L.size = ops.size → (∀ i, i < ops.size → L[i]? = some true) → W L V w' → Q .normal a w')
    (hstep : ∀ i o L V a w' (K : Act → World → Prop), T a0 idx V L a → L.size = ops.size → W L V w' → L[i]? = some false → ops[i]? = some o → (∀ e ∈ o.after.toList, Region.binds .any e = true → L[e.on]? = some true) →
      (∀ q ∈ idx, L[q.1]? = some false → a.tmps[q.2]? = a0.tmps[q.2]?) → (∀ (i : Nat) (o : Oper), ops[i]? = some o → L[i]? = some true → ∀ e ∈ o.after.toList, Region.binds .any e = true → L[e.on]? = some true) →
      (∀ x w'', W (L.setIfInBounds i true) (match o.dst with | some d => upd V d x | none => V) w'' → K (a.put o.dst x) w'') → o.wp P a w' K Q) :
    (Code.region id ops true).wp P Q a0 w := by
  unfold fits at hf
  rw [Bool.and_eq_true] at hf
  obtain ⟨hf1, hf2⟩ := hf
  rw [List.all_eq_true] at hf1 hf2
  have hi1 : ∀ q ∈ idx, q.1 < ops.size ∧ q.2 < a0.tmps.size := fun q hq => by
    have := hf2 q hq
    rw [Bool.and_eq_true] at this
    rw [hn]
    exact ⟨of_decide_eq_true this.1, of_decide_eq_true this.2⟩
  refine wp_region_inv hm (fun L a w' => ∃ V, T a0 idx V L a ∧ L.size = ops.size ∧ W L V w' ∧ (∀ q ∈ idx, L[q.1]? = some false → a.tmps[q.2]? = a0.tmps[q.2]?) ∧ (∀ (i : Nat) (o : Oper), ops[i]? = some o → L[i]? = some true → ∀ e ∈ o.after.toList, Region.binds .any e = true → L[e.on]? = some true)) ?_ ?_ ?_
  · obtain ⟨V, hV⟩ := h0
    exact ⟨V, T.start a0 idx V _, by simp, hV, fun _ _ _ => rfl, fun i o _ h => by simp [Array.getElem?_replicate] at h⟩
  · rintro L a w' ⟨V, hT, hs, hW, _, _⟩ hr
    exact hend L V a w' hT hs (fun i hi => all_done hB hs hr i hi) hW
  · rintro i o L a w' ⟨V, hT, hs, hW, hold, hcl⟩ hL ho hd
    have hi : i < ops.size := (Array.getElem?_eq_some_iff.1 ho).1
    have h1 := hf1 i (by simpa using hi)
    rw [ho] at h1
    simp only [Bool.and_eq_true] at h1
    obtain ⟨hg, h1⟩ := h1
    refine wpOp_want ho (wanted_of hT (G := []) (fun g hg => by cases hg) hg hd) (hstep i o L V a w' _ hT hs hW hL ho hd hold hcl ?_)
    intro x w'' hW'
    have hcl' : ∀ (i' : Nat) (o' : Oper), ops[i']? = some o' → (L.setIfInBounds i true)[i']? = some true → ∀ e ∈ o'.after.toList, Region.binds .any e = true → (L.setIfInBounds i true)[e.on]? = some true := fun i' o' ho' hL' e he hb => by
      have : L[e.on]? = some true := by
        rcases set_get hL' with rfl | h
        · rw [ho] at ho'; cases ho'; exact hd e he hb
        · exact hcl i' o' ho' h e he hb
      by_cases hh : e.on = i
      · rw [hh] at this; rw [hL] at this; cases this
      · rw [get_ne hh]; exact this
    have hof : ∀ q : Nat × Nat, (L.setIfInBounds i true)[q.1]? = some false → q.1 ≠ i ∧ L[q.1]? = some false := fun q h => by
      by_cases hh : q.1 = i
      · rw [hh, get_self hL] at h; cases h
      · rw [get_ne hh] at h; exact ⟨hh, h⟩
    refine ⟨_, ?_, by rw [Array.size_setIfInBounds]; exact hs, hW', ?_, hcl'⟩
    · cases hdst : o.dst with
      | none =>
        rw [hdst] at h1
        rw [List.all_eq_true] at h1
        exact hT.skip i (fun q hq => of_decide_eq_true (h1 q hq))
      | some d =>
        rw [hdst] at h1
        simp only [Bool.and_eq_true, List.all_eq_true] at h1
        obtain ⟨h2, h3⟩ := h1
        have hm : (i, d) ∈ idx := by simpa using h2
        have hu : ∀ q ∈ idx, q = (i, d) ∨ (q.1 ≠ i ∧ q.2 ≠ d) := fun q hq => by
          have := h3 q hq
          rw [Bool.or_eq_true, Bool.and_eq_true] at this
          rcases this with e | ⟨e1, e2⟩
          · exact Or.inl (of_decide_eq_true e)
          · exact Or.inr ⟨of_decide_eq_true e1, of_decide_eq_true e2⟩
        have := (hT.turn i d x hL hm hu).put i d hm (hi1 _ hm).2 hu
        rw [upd_self] at this
        exact this
    · intro q hq hf
      obtain ⟨g1, g2⟩ := hof q hf
      have h0 := hold q hq g2
      cases hdst : o.dst with
      | none => exact h0
      | some d =>
        rw [hdst] at h1
        simp only [Bool.and_eq_true, List.all_eq_true] at h1
        have := h1.2 q hq
        rw [Bool.or_eq_true, Bool.and_eq_true] at this
        rcases this with e | ⟨e1, e2⟩
        · have e := of_decide_eq_true e
          exact absurd (by rw [e]) g1
        · show (a.tmps.setIfInBounds d x)[q.2]? = _
          rw [Array.getElem?_setIfInBounds, if_neg (fun e => (of_decide_eq_true e2) e.symm)]
          exact h0
end
end Go.Proofs.YtonndofbnhnkpaaGreat.Tab
