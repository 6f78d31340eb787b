/- How tasks ended, key by key: the plain side of StatsEnds. -/
import Derived.Test.YtonndofbnhnkpaaStatM
namespace Go.Proofs.Ytonndofbnhnkpaa.StatP
open StatM
def grp (c : Int) (es : List Ev) : List Ev := es.filter fun e => decide (e.kind = 2 ∧ e.key = c)
def flat (cs : List Int) (es : List Ev) : List Ran := cs.flatMap fun c => (grp c es).map ran
theorem grp_snoc (c : Int) (es : List Ev) (e : Ev) : grp c (es ++ [e]) = if e.kind = 2 ∧ e.key = c then grp c es ++ [e] else grp c es := by
  unfold grp; rw [List.filter_append]
  by_cases h : e.kind = 2 ∧ e.key = c
  · rw [if_pos h]; simp [h]
  · rw [if_neg h]; simp [h]
theorem grp_key {c : Int} {es : List Ev} {y : Ran} (h : y ∈ (grp c es).map ran) : y.key = c := by
  unfold grp at h
  simp only [List.mem_map, List.mem_filter, decide_eq_true_iff] at h
  obtain ⟨e, ⟨_, _, h2⟩, rfl⟩ := h
  exact h2
theorem flat_key {cs : List Int} {es : List Ev} {y : Ran} (h : y ∈ flat cs es) : y.key ∈ cs := by
  unfold flat at h
  rw [List.mem_flatMap] at h
  obtain ⟨c, hc, hy⟩ := h
  rw [grp_key hy]; exact hc
theorem ins_app (x : Ran) (G F : List Ran) (h : ∀ y ∈ G, ¬ x.key < y.key) : ins x (G ++ F) = G ++ ins x F := by
  induction G with
  | nil => rfl
  | cons g G ih =>
    have h1 := h g (by simp)
    have h2 := ih (fun y hy => h y (by simp [hy]))
    show ins x (g :: (G ++ F)) = g :: (G ++ ins x F)
    rw [← h2]
    show (if x.key < g.key then x :: g :: (G ++ F) else g :: ins x (G ++ F)) = _
    rw [if_neg h1]
theorem ins_lt (x : Ran) (F : List Ran) (h : ∀ y ∈ F, x.key < y.key) : ins x F = x :: F := by
  cases F with
  | nil => rfl
  | cons y F => unfold ins; rw [if_pos (h y (by simp))]
theorem flat_same {cs : List Int} {es : List Ev} {e : Ev} (h : ∀ c ∈ cs, ¬ (e.kind = 2 ∧ e.key = c)) : flat cs (es ++ [e]) = flat cs es := by
  unfold flat
  induction cs with
  | nil => rfl
  | cons c cs ih =>
    rw [List.flatMap_cons, List.flatMap_cons, ih (fun d hd => h d (by simp [hd])), grp_snoc, if_neg (h c (by simp))]
theorem ins_flat {cs : List Int} (hs : cs.Pairwise (· < ·)) {es : List Ev} {e : Ev} (h2 : e.kind = 2) (hk : e.key ∈ cs) : ins (ran e) (flat cs es) = flat cs (es ++ [e]) := by
  induction cs with
  | nil => simp at hk
  | cons c cs ih =>
    rw [List.pairwise_cons] at hs
    obtain ⟨hc, hs⟩ := hs
    have e1 : ∀ es, flat (c :: cs) es = (grp c es).map ran ++ flat cs es := fun es => by unfold flat; rw [List.flatMap_cons]
    rw [e1, e1]
    by_cases hkc : e.key = c
    · rw [ins_app _ _ _ (fun y hy => by rw [grp_key hy]; show ¬ e.key < c; omega),
        ins_lt _ _ (fun y hy => by have := hc _ (flat_key hy); show e.key < y.key; omega),
        flat_same (fun d hd hh => by have := hc d hd; omega), grp_snoc, if_pos ⟨h2, hkc⟩]
      simp
    · have hk' : e.key ∈ cs := by
        rcases List.mem_cons.1 hk with h | h
        · exact absurd h hkc
        · exact h
      rw [ins_app _ _ _ (fun y hy => by rw [grp_key hy]; have := hc _ hk'; show ¬ e.key < c; omega), ih hs hk', grp_snoc, if_neg (fun h => hkc h.2)]
theorem ends_snoc_ind {p : List Ev → Prop} (h0 : p []) (h1 : ∀ es e, p es → p (es ++ [e])) (es : List Ev) : p es := by
  have : ∀ n, ∀ es : List Ev, es.length = n → p es := by
    intro n
    induction n with
    | zero => intro es h; rw [List.length_eq_zero_iff.1 h]; exact h0
    | succ n ih =>
      intro es h
      have hne : es ≠ [] := by intro hh; subst hh; simp at h
      rw [← List.dropLast_concat_getLast hne]
      exact h1 _ _ (ih _ (by rw [List.length_dropLast]; omega))
  exact this _ es rfl
theorem ends_flat {cs : List Int} (hs : cs.Pairwise (· < ·)) (es : List Ev) (hk : ∀ e ∈ es, e.key ∈ cs) : endsM es = flat cs es := by
  revert hk
  refine ends_snoc_ind (p := fun es => (∀ e ∈ es, e.key ∈ cs) → endsM es = flat cs es) ?_ ?_ es
  · intro _
    show [] = _
    unfold flat
    induction cs with
    | nil => rfl
    | cons c cs ih => rw [List.flatMap_cons, ← ih (List.pairwise_cons.1 hs).2 (fun e he => by simp at he)]; rfl
  · intro es e ih hk
    rw [endsM_snoc, ih (fun d hd => hk d (by simp [hd]))]
    unfold stepE
    by_cases h2 : e.kind = 2
    · rw [if_pos h2]; exact ins_flat hs h2 (hk e (by simp))
    · rw [if_neg h2, flat_same (fun c _ hh => h2 hh.1)]
theorem grp_take (c : Int) (es : List Ev) (i : Nat) : ∃ l, grp c es = grp c (es.take i) ++ l :=
  ⟨grp c (es.drop i), by unfold grp; rw [← List.filter_append, List.take_append_drop]⟩
theorem flat_at {cs : List Int} {es : List Ev} {q i : Nat} {c : Int} {e : Ev} (hq : cs[q]? = some c) (he : es[i]? = some e) (h : e.kind = 2 ∧ e.key = c) :
    (flat cs es)[(flat (cs.take q) es).length + (grp c (es.take i)).length]? = some (ran e) := by
  obtain ⟨hql, hqe⟩ := List.getElem?_eq_some_iff.1 hq
  have e1 : cs = cs.take q ++ c :: cs.drop (q + 1) := by
    conv => lhs; rw [← List.take_append_drop q cs, List.drop_eq_getElem_cons hql, hqe]
  have e2 : flat cs es = flat (cs.take q) es ++ ((grp c es).map ran ++ flat (cs.drop (q + 1)) es) := by
    conv => lhs; rw [e1]
    unfold flat; rw [List.flatMap_append, List.flatMap_cons]
  obtain ⟨l, hl⟩ := grp_take c es (i + 1)
  have hT : es.take (i + 1) = es.take i ++ [e] := by rw [List.take_add_one, he]; rfl
  rw [hT, grp_snoc, if_pos h] at hl
  rw [e2, List.getElem?_append_right (by omega), Nat.add_sub_cancel_left, hl]
  simp
theorem flat_next {cs : List Int} {es : List Ev} {q : Nat} {c : Int} (hq : cs[q]? = some c) : (flat (cs.take (q + 1)) es).length = (flat (cs.take q) es).length + (grp c es).length := by
  rw [List.take_add_one, hq]
  unfold flat; rw [List.flatMap_append, List.length_append]
  simp
theorem grp_step {c : Int} {es : List Ev} {i : Nat} {e : Ev} (he : es[i]? = some e) : (grp c (es.take (i + 1))).length = (grp c (es.take i)).length + if e.kind = 2 ∧ e.key = c then 1 else 0 := by
  have hT : es.take (i + 1) = es.take i ++ [e] := by rw [List.take_add_one, he]; rfl
  rw [hT, grp_snoc]
  split <;> simp
end Go.Proofs.Ytonndofbnhnkpaa.StatP
