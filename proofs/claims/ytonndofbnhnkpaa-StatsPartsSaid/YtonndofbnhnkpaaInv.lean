/- A region that draws its order, by an invariant: each operation is met once. -/
import Derived.Orders
import Derived.Test.YtonndofbnhnkpaaBlk
namespace Go.Proofs.Ytonndofbnhnkpaa.Inv
/-- How many are not done yet. -/
def left : List Bool → Nat
  | [] => 0
  | b :: l => (if b then 0 else 1) + left l
theorem left_set : ∀ (l : List Bool) (i : Nat), l[i]? = some false → left (l.set i true) + 1 = left l
  | [], i, h => by simp at h
  | b :: l, 0, h => by
    simp at h; subst h
    show (0 + left l) + 1 = 1 + left l
    omega
  | b :: l, i + 1, h => by
    have := left_set l i (by simpa using h)
    show ((if b then 0 else 1) + left (l.set i true)) + 1 = (if b then 0 else 1) + left l
    omega
theorem left_zero : ∀ (l : List Bool) (i : Nat), left l = 0 → l[i]? ≠ some false
  | [], i, _ => by simp
  | b :: l, 0, h => by
    simp only [left] at h
    cases b
    · simp at h
    · simp
  | b :: l, i + 1, h => by
    simp only [left] at h
    have := left_zero l i (by omega)
    simpa using this
section
variable {P : Program} {ops : Array Oper} {Q : Exit → Act → World → Prop}
theorem ready_mem {L : Array Bool} {i : Nat} (h : i ∈ Region.ready .any ops L) : L[i]? = some false ∧ ∃ o, ops[i]? = some o ∧ ∀ e ∈ o.after.toList, Region.binds .any e = true → L[e.on]? = some true := by
  unfold Region.ready at h
  rw [List.mem_filter] at h
  obtain ⟨h1, h2⟩ := h
  rw [Bool.and_eq_true] at h2
  obtain ⟨h2, h3⟩ := h2
  have hi : i < ops.size := by simpa using h1
  refine ⟨?_, ops[i], Array.getElem?_eq_getElem hi, fun e he hb => ?_⟩
  · rw [Array.getD_eq_getD_getElem?] at h2
    cases hL : L[i]? with
    | none => rw [hL] at h2; simp at h2
    | some b => rw [hL] at h2; cases b <;> simp_all
  · rw [Array.getElem?_eq_getElem hi] at h3
    simp only [Option.map_some, Option.getD_some, Array.all_eq_true_iff_forall_mem] at h3
    have := h3 e (by simpa using he)
    rw [hb] at this
    simp only [Bool.not_true, Bool.false_or] at this
    rw [Array.getD_eq_getD_getElem?] at this
    cases hL : L[e.on]? with
    | none => rw [hL] at this; simp at this
    | some b => rw [hL] at this; simp at this; rw [this]
theorem wpAny_inv (I : Array Bool → Act → World → Prop)
    (hend : ∀ L a w, I L a w → Region.ready .any ops L = [] → Q .normal a w)
    (hstep : ∀ i o L a w, I L a w → L[i]? = some false → ops[i]? = some o → (∀ e ∈ o.after.toList, Region.binds .any e = true → L[e.on]? = some true) → wpOp P ops Q i (fun a' w' => I (L.setIfInBounds i true) a' w') a w) :
    ∀ (fuel : Nat) (L : Array Bool) (a : Act) (w : World), left L.toList ≤ fuel → I L a w → wpAny P .any ops Q fuel L a w := by
  intro fuel
  induction fuel with
  | zero =>
    intro L a w hf hI
    have hr : Region.ready .any ops L = [] := by
      cases hr : Region.ready .any ops L with
      | nil => rfl
      | cons i l =>
        have := (ready_mem (ops := ops) (L := L) (i := i) (by rw [hr]; simp)).1
        exact absurd (by simpa using this) (left_zero L.toList i (by omega))
    exact ⟨hr, hend L a w hI hr⟩
  | succ fuel ih =>
    intro L a w hf hI
    refine ⟨fun hr => hend L a w hI hr, fun i hi => ?_⟩
    obtain ⟨h1, o, h2, h3⟩ := ready_mem hi
    refine wpOp_mono (fun a' w' h => ih _ a' w' ?_ h) (hstep i o L a w hI h1 h2 h3)
    have := left_set L.toList i (by simpa using h1)
    rw [Array.toList_setIfInBounds]
    omega
theorem left_rep (n : Nat) : left (List.replicate n false) = n := by
  induction n with
  | zero => rfl
  | succ n ih => rw [List.replicate_succ]; show 1 + left _ = _; rw [ih]; omega
theorem wp_region_inv {id : Nat} {a : Act} {w : World} (hm : P.follows .mixedOrders = true) (I : Array Bool → Act → World → Prop)
    (h0 : I (Array.replicate ops.size false) a w.drew)
    (hend : ∀ L a w, I L a w → Region.ready .any ops L = [] → Q .normal a w)
    (hstep : ∀ i o L a w, I L a w → L[i]? = some false → ops[i]? = some o → (∀ e ∈ o.after.toList, Region.binds .any e = true → L[e.on]? = some true) → wpOp P ops Q i (fun a' w' => I (L.setIfInBounds i true) a' w') a w) :
    (Code.region id ops true).wp P Q a w :=
  wp_region_any hm (wpAny_inv I hend hstep _ _ _ _ (by rw [Array.toList_replicate, left_rep]; exact Nat.le_refl _) h0)
theorem wpOp_of {i : Nat} {o : Oper} {a : Act} {w : World} {K : Act → World → Prop} (ho : ops[i]? = some o) (hg : o.guard = none) (h : o.wp P a w K Q) : wpOp P ops Q i K a w := by
  unfold wpOp
  rw [ho]
  have hw : Region.wanted o (yielded ops a.tmps) = true := by simp [Region.wanted, hg]
  simp only [hw, if_true]
  exact Or.inl h
/-- What must come first stands ahead. -/
def fwdB (ops : Array Oper) : Bool := (List.range ops.size).all fun i => ((ops[i]?).map (·.after.all fun e => !Region.binds .any e || decide (e.on < i))).getD true
theorem all_done {L : Array Bool} (hB : fwdB ops = true) (hs : L.size = ops.size) (hr : Region.ready .any ops L = []) : ∀ i, i < ops.size → L[i]? = some true := by
  intro i
  induction i using Nat.strongRecOn with
  | ind i ih =>
    intro hi
    cases hL : L[i]? with
    | none => rw [Array.getElem?_eq_none_iff] at hL; omega
    | some b =>
      cases b
      · exfalso
        have hm : i ∈ Region.ready .any ops L := by
          unfold Region.ready
          rw [List.mem_filter]
          refine ⟨by simpa using hi, ?_⟩
          rw [Array.getD_eq_getD_getElem?, hL, Array.getElem?_eq_getElem hi]
          simp only [Option.getD_some, Bool.not_false, Bool.true_and, Option.map_some, Array.all_eq_true_iff_forall_mem]
          intro e he
          have h1 := List.all_eq_true.1 hB i (by simpa using hi)
          rw [Array.getElem?_eq_getElem hi] at h1
          simp only [Option.map_some, Option.getD_some, Array.all_eq_true_iff_forall_mem] at h1
          have h2 := h1 e he
          cases hb : Region.binds .any e
          · rfl
          · rw [hb] at h2
            have h3 : e.on < i := by simpa using h2
            rw [Array.getD_eq_getD_getElem?, ih e.on h3 (by omega)]
            rfl
        rw [hr] at hm
        simp at hm
      · rfl
end
end Go.Proofs.Ytonndofbnhnkpaa.Inv
