/- StatsOrders: keys picked one by one, each the first of what is left. -/
import Derived.Test.YtonndofbnhnkpaaStatN
namespace Go.Proofs.Ytonndofbnhnkpaa.OrdP
open KeyM StatM StatN StatE
def fe (k : Int) : Ev := ⟨2, k, 1, 0⟩
theorem fins_fe (m : List Int) : fins (m.map fe) = m := by
  unfold fins
  induction m with
  | nil => rfl
  | cons k m ih => simp only [List.map_cons]; rw [List.filter_cons_of_pos (by rfl), List.map_cons, ih]; rfl
theorem cnt_go (m : List Int) : ∀ s : St, ((m.map fe).foldl StatM.step s).fi = s.fi + m.length ∧ ((m.map fe).foldl StatM.step s).va = s.va + m.length := by
  induction m with
  | nil => intro s; exact ⟨by simp, by simp⟩
  | cons k m ih =>
    intro s
    rw [List.map_cons, List.foldl_cons]
    obtain ⟨h1, h2⟩ := ih (StatM.step s (fe k))
    rw [h1, h2]
    have e : StatM.step s (fe k) = { s with fi := s.fi + 1, op := s.op - 1, va := s.va + 1 } := rfl
    rw [e, List.length_cons]
    exact ⟨by show s.fi + 1 + _ = _; omega, by show s.va + 1 + _ = _; omega⟩
theorem cnt_fe (m : List Int) : (ofM (m.map fe)).fi = m.length ∧ (ofM (m.map fe)).va = m.length := by
  have h := cnt_go m St.zero
  have e1 : St.zero.fi = 0 := rfl
  have e2 : St.zero.va = 0 := rfl
  rw [e1, e2] at h
  unfold ofM
  exact ⟨by omega, by omega⟩
theorem ends_fe (m : List Int) : (endsM (m.map fe)).length = m.length := by
  have := endsM_len (m.map fe); rw [(cnt_fe m).1] at this; omega
/-- Keys told one by one: so many, of forks by number. -/
structure L1 (j : Nat) (ls : List Int) (k : Int) : Prop where
  len : ls.length = j
  all : ∀ y ∈ ls, chk y = true ∧ dep y ≠ 0 ∧ num y ≤ j
  nod : ls.Nodup
  key : chk k = true
theorem l1_nil : L1 0 [] 1125899906842624 := ⟨rfl, fun y h => by simp at h, List.nodup_nil, by decide +kernel⟩
theorem l1_step {j : Nat} {ls : List Int} {k : Int} (h : L1 j ls k) (hd : dep k < 5) (hj : j < 999) :
    L1 (j + 1) (ls ++ [child k (1 + j)]) k ∧ L1 (j + 1) (ls ++ [child k (1 + j)]) (child k (1 + j)) := by
  have hb := born (n := 1 + j) h.key (by omega) (by omega) hd
  have hl := dep_lo k
  have hall : ∀ y ∈ ls ++ [child k (1 + j)], chk y = true ∧ dep y ≠ 0 ∧ num y ≤ ((j + 1 : Nat) : Int) := by
    intro y hy
    rw [List.mem_append] at hy
    rcases hy with hy | hy
    · obtain ⟨h1, h2, h3⟩ := h.all y hy
      exact ⟨h1, h2, by omega⟩
    · simp at hy; subst hy
      exact ⟨hb.1, by rw [hb.dep]; omega, by rw [hb.num]; omega⟩
  have hnod : (ls ++ [child k (1 + j)]).Nodup := by
    rw [List.nodup_append]
    refine ⟨h.nod, by simp, fun a ha b hb' => ?_⟩
    simp at hb'; subst hb'
    intro e
    have := (h.all a ha).2.2
    rw [e, hb.num] at this
    omega
  exact ⟨⟨by simp [h.len], hall, hnod, h.key⟩, ⟨by simp [h.len], hall, hnod, hb.1⟩⟩
/-- What was picked stands ahead of what is left. -/
structure L2 (ms rs : List Int) : Prop where
  all : ∀ y ∈ ms ++ rs, chk y = true
  nod : (ms ++ rs).Nodup
  ord : ms.Pairwise fun a b => rank a < rank b
  bef : ∀ a ∈ ms, ∀ b ∈ rs, rank a < rank b
theorem l2_start {j : Nat} {ls : List Int} {k : Int} (h : L1 j ls k) : L2 [] (ls ++ [1125899906842624]) := by
  refine ⟨fun y hy => ?_, ?_, List.Pairwise.nil, fun a ha => by simp at ha⟩
  · rw [List.nil_append, List.mem_append] at hy
    rcases hy with hy | hy
    · exact (h.all y hy).1
    · simp at hy; subst hy; decide +kernel
  · rw [List.nil_append, List.nodup_append]
    refine ⟨h.nod, by simp, fun a ha b hb => ?_⟩
    simp at hb; subst hb
    intro e
    subst e
    exact (h.all _ ha).2.1 (by decide +kernel)
/-- The place of the first, of so many. -/
def Fst (rs : List Int) (f i : Nat) : Prop := f < i ∧ ∃ y, rs[f]? = some y ∧ ∀ j z, j < i → rs[j]? = some z → rank y ≤ rank z
theorem fst_one {rs : List Int} (h : 0 < rs.length) : Fst rs 0 1 := by
  refine ⟨by omega, rs[0], List.getElem?_eq_getElem h, fun j z hj hz => ?_⟩
  obtain rfl : j = 0 := by omega
  rw [List.getElem?_eq_getElem h] at hz
  cases hz; exact Int.le_refl _
theorem fst_new {rs : List Int} {f i : Nat} {y x : Int} (h : Fst rs f i) (hy : rs[f]? = some y) (hx : rs[i]? = some x) (hr : rank x < rank y) : Fst rs i (i + 1) := by
  obtain ⟨h1, y', hy', h2⟩ := h
  rw [hy] at hy'; cases hy'
  refine ⟨by omega, x, hx, fun j z hj hz => ?_⟩
  by_cases e : j = i
  · subst e; rw [hx] at hz; cases hz; exact Int.le_refl _
  · have := h2 j z (by omega) hz; omega
theorem fst_old {rs : List Int} {f i : Nat} {y x : Int} (h : Fst rs f i) (hy : rs[f]? = some y) (hx : rs[i]? = some x) (hr : ¬ rank x < rank y) : Fst rs f (i + 1) := by
  obtain ⟨h1, y', hy', h2⟩ := h
  rw [hy] at hy'; cases hy'
  refine ⟨by omega, y, hy, fun j z hj hz => ?_⟩
  by_cases e : j = i
  · subst e; rw [hx] at hz; cases hz; omega
  · exact h2 j z (by omega) hz
theorem l2_step {ms rs : List Int} {f : Nat} {y : Int} (h : L2 ms rs) (hf : Fst rs f rs.length) (hy : rs[f]? = some y) : L2 (ms ++ [y]) (rs.take f ++ rs.drop (f + 1)) := by
  obtain ⟨hfl, y', hy', h2⟩ := hf
  rw [hy] at hy'; cases hy'
  have hcut : rs = rs.take f ++ y :: rs.drop (f + 1) := by
    have := List.getElem?_eq_some_iff.1 hy
    obtain ⟨hl, hy⟩ := this
    rw [← hy, ← List.drop_eq_getElem_cons hl, List.take_append_drop]
  have hperm : (ms ++ [y] ++ (rs.take f ++ rs.drop (f + 1))).Perm (ms ++ rs) := by
    have h3 : (y :: (rs.take f ++ rs.drop (f + 1))).Perm rs := by
      conv => rhs; rw [hcut]
      exact List.perm_middle.symm
    rw [List.append_assoc]
    exact List.Perm.append_left ms h3
  have hmem : ∀ z ∈ rs.take f ++ rs.drop (f + 1), z ∈ rs := by
    intro z hz
    rw [List.mem_append] at hz
    rcases hz with hz | hz
    · exact List.mem_of_mem_take hz
    · exact List.mem_of_mem_drop hz
  have hyr : y ∈ rs := List.mem_of_getElem? hy
  have hnod : (ms ++ [y] ++ (rs.take f ++ rs.drop (f + 1))).Nodup := hperm.nodup_iff.2 h.nod
  have hall : ∀ z ∈ ms ++ [y] ++ (rs.take f ++ rs.drop (f + 1)), chk z = true := fun z hz => h.all z (hperm.mem_iff.1 hz)
  refine ⟨hall, hnod, ?_, ?_⟩
  · rw [List.pairwise_append]
    exact ⟨h.ord, List.pairwise_singleton _ _, fun a ha b hb => by simp at hb; subst hb; exact h.bef a ha _ hyr⟩
  · intro a ha b hb
    rw [List.mem_append] at ha
    rcases ha with ha | ha
    · exact h.bef a ha b (hmem b hb)
    · simp at ha; subst ha
      obtain ⟨i, hi, hbi⟩ := List.getElem_of_mem (hmem b hb)
      have h5 := h2 i b hi (by rw [List.getElem?_eq_getElem hi, hbi])
      have h6 : rank a ≠ rank b := by
        intro e
        have e2 := rank_inj (hall a (by simp)) (hall b (List.mem_append_right _ hb)) e
        subst e2
        rw [List.append_assoc, List.nodup_append] at hnod
        have := hnod.2.1
        rw [List.singleton_append, List.nodup_cons] at this
        exact this.1 hb
      omega
theorem l2_end {ms : List Int} (h : L2 ms []) : ordM (ms.map fe) = true := by
  rw [ordM_true, fins_fe]
  refine List.Pairwise.imp_of_mem (fun {a b} ha hb hab => ?_) h.ord
  rw [ahead_of (h.all b (by simpa using hb)) (h.all a (by simpa using ha))]
  exact decide_eq_false (by omega)
/-- Two of them turned. -/
def turned (es : List Ev) (i : Nat) (x y : Ev) : List Ev := (es.set i y).set (i + 1) x
theorem turned_map (ms : List Int) (i : Nat) (x y : Int) : turned (ms.map fe) i (fe x) (fe y) = ((ms.set i y).set (i + 1) x).map fe := by
  unfold turned; rw [List.map_set, List.map_set]
theorem turned_no {ms : List Int} {i : Nat} {x y : Int} (h : L2 ms []) (hx : ms[i]? = some x) (hy : ms[i + 1]? = some y) : ordM (((ms.set i y).set (i + 1) x).map fe) = false := by
  obtain ⟨hi, hx'⟩ := List.getElem?_eq_some_iff.1 hx
  obtain ⟨hi1, hy'⟩ := List.getElem?_eq_some_iff.1 hy
  have hlt : rank x < rank y := by
    have := List.pairwise_iff_getElem.1 h.ord i (i + 1) hi hi1 (by omega)
    rw [hx', hy'] at this; exact this
  refine StatR.ord_no (j := i + 1) (e := fe x) (k := y) ?_ rfl ?_ ?_
  · rw [List.getElem?_map, List.getElem?_set_self (by simpa using hi1)]; rfl
  · rw [← List.map_take, fins_fe]
    refine List.mem_of_getElem? (i := i) ?_
    rw [List.getElem?_take_of_lt (by omega), List.getElem?_set_ne (by omega), List.getElem?_set_self hi]
  · show KeyM.ahead x y = true
    rw [ahead_of (h.all x (by simpa using List.mem_of_getElem? hx)) (h.all y (by simpa using List.mem_of_getElem? hy))]
    exact decide_eq_true hlt
end Go.Proofs.Ytonndofbnhnkpaa.OrdP
