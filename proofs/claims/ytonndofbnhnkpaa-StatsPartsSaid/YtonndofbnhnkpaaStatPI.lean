/- StatsParts: three counts of parts, in whatever order they are made. -/
import Derived.Test.YtonndofbnhnkpaaStatAW
import Derived.Test.YtonndofbnhnkpaaInv
namespace Go.Proofs.Ytonndofbnhnkpaa.StatPI
open Go.RowKit Num KeyM KeyW StatM StatW StatO KeyT StatE StatP StatN R27 SmR App StatAW
def upd {α : Type} (f : Nat → α) (i : Nat) (v : α) : Nat → α := fun j => if j = i then v else f j
/-- What stands in slots once so many operations are done. -/
def Tab (L : Array Bool) (v : Nat → Value) (tab : List (Nat × Nat × Value)) : Prop := ∀ q ∈ tab, L[q.1]? = some true → v q.2.1 = q.2.2
theorem set_get {L : Array Bool} {i j : Nat} (h : (L.setIfInBounds i true)[j]? = some true) : j = i ∨ L[j]? = some true := by
  rw [Array.getElem?_setIfInBounds] at h
  split at h
  · rename_i e; exact Or.inl e.symm
  · exact Or.inr h
theorem get_set {L : Array Bool} {i j : Nat} (h : L[j]? = some true) : (L.setIfInBounds i true)[j]? = some true := by
  rw [Array.getElem?_setIfInBounds]
  split
  · rename_i e; subst e
    obtain ⟨h1, _⟩ := Array.getElem?_eq_some_iff.1 h
    rw [if_pos h1]
  · exact h
theorem get_set_ne {L : Array Bool} {i j : Nat} (h : j ≠ i) : (L.setIfInBounds i true)[j]? = L[j]? := by
  rw [Array.getElem?_setIfInBounds, if_neg (fun e => h e.symm)]
theorem get_self {L : Array Bool} {i : Nat} (h : L[i]? = some false) : (L.setIfInBounds i true)[i]? = some true := by
  obtain ⟨h1, _⟩ := Array.getElem?_eq_some_iff.1 h
  rw [Array.getElem?_setIfInBounds, if_pos rfl, if_pos h1]
theorem Tab.put {L : Array Bool} {v : Nat → Value} {tab : List (Nat × Nat × Value)} (h : Tab L v tab) (i d : Nat) (x : Value) (hu : ∀ q ∈ tab, (q.1 = i ∧ q.2.1 = d ∧ q.2.2 = x) ∨ (q.1 ≠ i ∧ q.2.1 ≠ d)) :
    Tab (L.setIfInBounds i true) (upd v d x) tab := by
  intro q hq hL
  rcases hu q hq with ⟨h1, h2, h3⟩ | ⟨h1, h2⟩
  · rw [h2, h3]; unfold upd; rw [if_pos rfl]
  · rcases set_get hL with e | e
    · exact absurd e h1
    · unfold upd; rw [if_neg h2]; exact h q hq e
theorem Tab.skip {L : Array Bool} {v : Nat → Value} {tab : List (Nat × Nat × Value)} (h : Tab L v tab) (i : Nat) (hu : ∀ q ∈ tab, q.1 ≠ i) : Tab (L.setIfInBounds i true) v tab := by
  intro q hq hL
  rcases set_get hL with e | e
  · exact absurd e (hu q hq)
  · exact h q hq e
/-- Three blocks of counts. -/
structure Rws (b0 : Nat) (L : Array Bool) (v : Nat → Value) (S : Nat → St) (B : Nat → Nat) (w : World) : Prop where
  row : ∀ j, j < 3 → L[10 + j]? = some true → v (6 + j) = .pointer (some ⟨B j, 0, none⟩) ∧ b0 ≤ B j ∧ w.rowIs (B j) 25 7 (stF (if L[13 + j]? = some true then S j else St.zero))
  ne : ∀ i j, i < 3 → j < 3 → i ≠ j → L[10 + i]? = some true → L[10 + j]? = some true → B i ≠ B j
  sa : ∀ j, j < 3 → L[13 + j]? = some true → L[10 + j]? = some true
theorem Rws.skip {b0 : Nat} {L : Array Bool} {v : Nat → Value} {S : Nat → St} {B : Nat → Nat} {w w' : World} (h : Rws b0 L v S B w) (i d : Nat) (x : Value) (hi : i < 10) (hd : 8 < d) (hb : Bl w w') : Rws b0 (L.setIfInBounds i true) (upd v d x) S B w' := by
  obtain ⟨h1, h2, h3⟩ := h
  refine ⟨fun j hj hL => ?_, fun a b ha hb hab h4 h5 => ?_, fun j hj hL => ?_⟩
  · rw [get_set_ne (by omega)] at hL ⊢
    obtain ⟨g1, g2, g3⟩ := h1 j hj hL
    exact ⟨by unfold upd; rw [if_neg (by omega)]; exact g1, g2, row_bl g3 hb⟩
  · rw [get_set_ne (by omega)] at h4 h5
    exact h2 a b ha hb hab h4 h5
  · rw [get_set_ne (by omega)] at hL ⊢
    exact h3 j hj hL
theorem stF_zero (j : Nat) : stF St.zero j = .int .i64 0 := by
  unfold stF St.zero
  simp only
  repeat' split
  all_goals rfl
theorem Rws.alloc {b0 : Nat} {L : Array Bool} {v : Nat → Value} {S : Nat → St} {B : Nat → Nat} {w : World} (h : Rws b0 L v S B w) (j : Nat) (hj : j < 3) (hL : L[10 + j]? = some false) (hb : b0 ≤ w.heap.size) :
    Rws b0 (L.setIfInBounds (10 + j) true) (upd v (6 + j) (.pointer (some ⟨w.heap.size, 0, none⟩))) S (upd B j w.heap.size)
      (w.alloc (.cells #[.int .i64 0, .int .i64 0, .int .i64 0, .int .i64 0, .int .i64 0, .int .i64 0, .int .i64 0] 25)) := by
  obtain ⟨h1, h2, h3⟩ := h
  have hn : ¬ L[13 + j]? = some true := fun e => by have := h3 j hj e; rw [hL] at this; cases this
  refine ⟨fun k hk hLk => ?_, fun a b ha hb' hab h4 h5 => ?_, fun k hk hLk => ?_⟩
  · by_cases e : k = j
    · subst e
      rw [get_set_ne (by omega), if_neg hn]
      refine ⟨by unfold upd; rw [if_pos rfl, if_pos rfl], by unfold upd; rw [if_pos rfl]; exact hb, ?_⟩
      unfold upd
      rw [if_pos rfl]
      refine World.rowIs_alloc w _ 25 _ (fun i hi => ?_)
      rw [stF_zero]
      have hi : i < 7 := hi
      obtain rfl | rfl | rfl | rfl | rfl | rfl | rfl : i = 0 ∨ i = 1 ∨ i = 2 ∨ i = 3 ∨ i = 4 ∨ i = 5 ∨ i = 6 := by omega
      all_goals rfl
    · rcases set_get hLk with q | q
      · omega
      · obtain ⟨g1, g2, g3⟩ := h1 k hk q
        rw [get_set_ne (by omega)]
        unfold upd
        rw [if_neg (by omega), if_neg e]
        exact ⟨g1, g2, g3.alloc _⟩
  · have lt : ∀ k, k < 3 → k ≠ j → (L.setIfInBounds (10 + j) true)[10 + k]? = some true → B k < w.heap.size := fun k hk hne hq => by
      rcases set_get hq with q | q
      · omega
      · exact (h1 k hk q).2.2.lt
    unfold upd
    by_cases ea : a = j
    · subst ea
      rw [if_pos rfl, if_neg (fun e => hab e.symm)]
      have := lt b hb' (fun e => hab e.symm) h5
      omega
    · rw [if_neg ea]
      by_cases eb : b = j
      · subst eb
        rw [if_pos rfl]
        have := lt a ha hab h4
        omega
      · rw [if_neg eb]
        rcases set_get h4 with q | q
        · omega
        · rcases set_get h5 with q' | q'
          · omega
          · exact h2 a b ha hb' hab q q'
  · rw [get_set_ne (by omega)] at hLk
    exact get_set (h3 k hk hLk)
/-- Seven stores. -/
def put7 (w : World) (b : Nat) (s : St) : World := ((((((w.setCell ⟨b, 0, none⟩ (.int .i64 s.st)).setCell ⟨b, 1, none⟩ (.int .i64 s.fi)).setCell ⟨b, 2, none⟩ (.int .i64 s.va)).setCell ⟨b, 3, none⟩ (.int .i64 s.er)).setCell ⟨b, 4, none⟩ (.int .i64 s.se)).setCell ⟨b, 5, none⟩ (.int .i64 s.de)).setCell ⟨b, 6, none⟩ (.int .i64 s.op)
theorem put7_row {w : World} {b : Nat} {f : Nat → Value} (h : w.rowIs b 25 7 f) (s : St) : (put7 w b s).rowIs b 25 7 (stF s) := by
  unfold put7
  refine World.rowIs.congr (((((((h.set 0 _).set 1 _).set 2 _).set 3 _).set 4 _).set 5 _).set 6 _) (fun i hi => ?_)
  obtain rfl | rfl | rfl | rfl | rfl | rfl | rfl : i = 0 ∨ i = 1 ∨ i = 2 ∨ i = 3 ∨ i = 4 ∨ i = 5 ∨ i = 6 := by omega
  all_goals rfl
theorem put7_other {w : World} {b b' : Nat} {f : Nat → Value} (h : w.rowIs b 25 7 f) (hne : b ≠ b') (s : St) : (put7 w b' s).rowIs b 25 7 f := by
  unfold put7
  exact ((((((h.setOther hne _).setOther hne _).setOther hne _).setOther hne _).setOther hne _).setOther hne _).setOther hne _
theorem put7_below {b0 b : Nat} {a w : World} (h : Below b0 a w) (hb : b0 ≤ b) (s : St) : Below b0 a (put7 w b s) := by
  unfold put7
  exact ((((((h.setCell hb _).setCell hb _).setCell hb _).setCell hb _).setCell hb _).setCell hb _).setCell hb _
theorem Rws.store {b0 : Nat} {L : Array Bool} {v : Nat → Value} {S : Nat → St} {B : Nat → Nat} {w : World} (h : Rws b0 L v S B w) (j : Nat) (hj : j < 3) (hf : L[13 + j]? = some false) (hL : L[10 + j]? = some true) :
    Rws b0 (L.setIfInBounds (13 + j) true) v S B (put7 w (B j) (S j)) := by
  obtain ⟨h1, h2, h3⟩ := h
  refine ⟨fun k hk hLk => ?_, fun a b ha hb hab h4 h5 => ?_, fun k hk hLk => ?_⟩
  · rw [get_set_ne (by omega)] at hLk
    obtain ⟨g1, g2, g3⟩ := h1 k hk hLk
    refine ⟨g1, g2, ?_⟩
    by_cases e : k = j
    · subst e
      rw [get_self hf, if_pos rfl]
      exact put7_row g3 _
    · rw [get_set_ne (by omega)]
      exact put7_other g3 (h2 k j hk hj e hLk hL) _
  · rw [get_set_ne (by omega)] at h4 h5
    exact h2 a b ha hb hab h4 h5
  · rw [get_set_ne (by omega)]
    rcases set_get hLk with q | q
    · obtain rfl : k = j := by omega
      exact hL
    · exact h3 k hk q
theorem slice_to (A : Option Addr) (n cap k : Nat) (hk : k ≤ cap) (w : World) : (Instr.slice 22 (.slice A n cap) none (some (.int .i64 k)) none).run Try.prog w = .ok (.slice A k cap) w := by
  have h1 : (0 : Int) ≤ (k : Int) := by omega
  have h2 : (k : Int) ≤ (cap : Int) := by omega
  go_simp
theorem slice_from (A : Option Addr) (es : List Ev) (n cap k : Nat) (hn : es.length = n) (hk : k ≤ n) (hnc : n ≤ cap) (hA : A = none → n = 0 ∧ cap = 0) :
    ∃ A2, (∀ w, (Instr.slice 22 (.slice A n cap) (some (.int .i64 k)) none none).run Try.prog w = .ok (.slice A2 (n - k) (cap - k)) w) ∧ ∀ w, RdEv w A es → RdEv w A2 (es.drop k) := by
  have h1 : (0 : Int) ≤ (k : Int) := by omega
  have h2 : (k : Int) ≤ (n : Int) := by omega
  refine ⟨if cap = k then A else A.map (·.add (k * 4)), fun w => ?_, fun w h h0 => ?_⟩
  · go_simp
  · rw [List.length_drop] at h0
    obtain ⟨b, off, rfl, hc⟩ := h (by omega)
    rw [if_neg (by omega)]
    refine ⟨b, off + k * 4, by rw [Option.map_some, Go.WideShapes.add_plain], fun i e he => ?_⟩
    rw [List.getElem?_drop] at he
    have g := hc (k + i) e he
    rw [show off + (k + i) * 4 = off + k * 4 + i * 4 by omega] at g
    exact g
end Go.Proofs.Ytonndofbnhnkpaa.StatPI
