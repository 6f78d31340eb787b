/- The program's package code: what holds while the head of a program's bytes is written. -/
import Derived.Test.YtonndofbnhnkpaaGreatCodD
set_option linter.unusedVariables false
set_option linter.unusedSimpArgs false
set_option linter.unusedSectionVars false
namespace Go.Proofs.YtonndofbnhnkpaaGreat.CodA
open Go.RowKit Num KeyM KeyW StatW Blk VmA Prg PutA App
theorem own8_bl {base m : Nat} {v : Value} {w w' : World} (h : Own8 base w v m) (hb : Bl w w') : Own8 base w' v m := by
  obtain ⟨xs, h, hz⟩ := h
  exact ⟨xs, own_ch (S := fun _ => False) h (Ch.of_bl hb) (fun _ _ h => h), hz⟩
theorem below_ch {base : Nat} {S : Nat → Prop} {w w' : World} (hc : Ch S w w') (hs : ∀ i, i < base → ¬ S i) (hb : base ≤ w.heap.size) : Below base w w' := by
  obtain ⟨h1, h2, h3, h4, h5⟩ := hc
  exact ⟨h1, h2, h3, h4, fun i hi => h5 i (by omega) (hs i hi)⟩
def S5 (P0 nf : Nat) (v fsv : Value) (x y : Int) : Nat → Value := fun d => match d with
  | 25 => v
  | 26 => .pointer (some ⟨P0, 3, none⟩)
  | 27 => .int .i64 x
  | 29 => .pointer (some ⟨P0, 0, none⟩)
  | 30 => fsv
  | 31 => .int .i64 nf
  | 32 => .int .u8 y
  | _ => undef
def idx5 : List (Nat × Nat) := [(0, 25), (1, 26), (2, 27), (3, 28), (4, 29), (5, 30), (6, 31), (7, 32), (8, 33), (9, 34), (10, 5)]
def st5 : List (Nat × Nat) := [(0, 25), (1, 26), (2, 27), (4, 29), (5, 30), (6, 31), (7, 32)]
def cur (v : Value) (L : Array Bool) (V : Nat → Value) : Value := if L[3]? = some true then V 28 else v
structure W5 (base : Nat) (W1 : World) (v fsv : Value) (m P0 nf : Nat) (x y : Int) (L : Array Bool) (V : Nat → Value) (w' : World) : Prop where
  bl : Below base W1 w'
  sz : base ≤ w'.heap.size
  stat : ∀ q ∈ st5, L[q.1]? = some true → V q.2 = S5 P0 nf v fsv x y q.2
  row : ¬ L[9]? = some true → Own8 base w' (cur v L V) (if L[3]? = some true then m + 2 else m)
  lit : L[8]? = some true → ¬ L[9]? = some true → ∃ C, V 33 = .slice (some ⟨C, 0, none⟩) 1 1 ∧ base ≤ C ∧ C < w'.heap.size ∧ w'.cell? ⟨C, 0, none⟩ = some (.int .u8 y) ∧ (cur v L V).ownBlock ≠ some C
  fin : L[9]? = some true → Own8 base w' (V 34) (m + 3)
  out : L[10]? = some true → V 5 = V 34
variable {base : Nat} {W1 w' w'' : World} {v fsv : Value} {m P0 nf : Nat} {x y : Int} {L : Array Bool} {V : Nat → Value}
theorem W5.start (hown : Own8 base W1 v m) (hb : base ≤ W1.heap.size) : W5 base W1 v fsv m P0 nf x y (Array.replicate 11 false) (fun _ => undef) W1.drew := by
  have no : ∀ i : Nat, ¬ (Array.replicate 11 false)[i]? = some true := fun i h => by simp [Array.getElem?_replicate] at h
  exact ⟨Below.drew (Below.refl _ _), hb, fun q _ h => absurd h (no _), fun _ => by unfold cur; rw [if_neg (no _), if_neg (no _)]; exact own8_bl hown (Bl.drew (Bl.refl _)), fun h => absurd h (no _), fun h => absurd h (no _), fun h => absurd h (no _)⟩
theorem W5.step (h : W5 base W1 v fsv m P0 nf x y L V w') (i d : Nat) (hq : (i, d) ∈ st5) (hu : ∀ q ∈ st5, q = (i, d) ∨ (q.1 ≠ i ∧ q.2 ≠ d)) (h3 : i ≠ 3 ∧ i ≠ 8 ∧ i ≠ 9 ∧ i ≠ 10) (hd : d ≠ 28 ∧ d ≠ 33 ∧ d ≠ 34 ∧ d ≠ 5) :
    W5 base W1 v fsv m P0 nf x y (L.setIfInBounds i true) (Tab.upd V d (S5 P0 nf v fsv x y d)) w' := by
  obtain ⟨a1, a2, a3, a4, a5, a6, a7⟩ := h
  have hc : cur v (L.setIfInBounds i true) (Tab.upd V d (S5 P0 nf v fsv x y d)) = cur v L V := by
    unfold cur; rw [Tab.get_ne (by omega), Tab.upd_ne _ _ (by omega)]
  refine ⟨a1, a2, fun q hq' hL => ?_, fun hL => ?_, fun hL hL' => ?_, fun hL => ?_, fun hL => ?_⟩
  · rcases hu q hq' with rfl | ⟨g1, g2⟩
    · exact Tab.upd_self _ _ _
    · rw [Tab.upd_ne _ _ g2]
      rw [Tab.get_ne g1] at hL
      exact a3 q hq' hL
  · rw [hc, Tab.get_ne (by omega)]
    rw [Tab.get_ne (by omega)] at hL
    exact a4 hL
  · rw [hc, Tab.upd_ne _ _ (by omega)]
    rw [Tab.get_ne (by omega)] at hL hL'
    exact a5 hL hL'
  · rw [Tab.upd_ne _ _ (by omega)]
    rw [Tab.get_ne (by omega)] at hL
    exact a6 hL
  · rw [Tab.upd_ne _ _ (by omega), Tab.upd_ne _ _ (by omega)]
    rw [Tab.get_ne (by omega)] at hL
    exact a7 hL
theorem st_no : ∀ q ∈ st5, q.1 ≠ 3 ∧ q.1 ≠ 8 ∧ q.1 ≠ 9 ∧ q.1 ≠ 10 ∧ q.2 ≠ 28 ∧ q.2 ≠ 33 ∧ q.2 ≠ 34 ∧ q.2 ≠ 5 := by decide
theorem W5.call (h : W5 base W1 v fsv m P0 nf x y L V w') (hL3 : L[3]? = some false) (hL9 : L[9]? = some false) (hL10 : L[10]? = some false) (v' : Value) (ho : Own8 base w'' v' (m + 2)) (hc : Ch (fun k => v.ownBlock = some k) w' w'') (hat : v'.ownBlock = v.ownBlock ∨ ∃ k, v'.ownBlock = some k ∧ w'.heap.size ≤ k) :
    W5 base W1 v fsv m P0 nf x y (L.setIfInBounds 3 true) (Tab.upd V 28 v') w'' := by
  obtain ⟨a1, a2, a3, a4, a5, a6, a7⟩ := h
  have n9 : ¬ L[9]? = some true := by rw [hL9]; decide
  have n3 : ¬ L[3]? = some true := by rw [hL3]; decide
  have hcur : cur v (L.setIfInBounds 3 true) (Tab.upd V 28 v') = v' := by unfold cur; rw [if_pos (Tab.get_self hL3), Tab.upd_self]
  have hcur0 : cur v L V = v := by unfold cur; rw [if_neg n3]
  have hrow := a4 n9
  rw [hcur0, if_neg n3] at hrow
  obtain ⟨xs, hx, _⟩ := hrow
  have hbl := World.ownsRow.lt hx
  refine ⟨a1.trans (below_ch hc (fun i hi e => by have := (hbl i e).1; omega) a2), Nat.le_trans a2 hc.size, fun q hq' hL => ?_, fun hL => ?_, fun hL hL' => ?_, fun hL => ?_, fun hL => ?_⟩
  · obtain ⟨g1, g2, g3, g4, g5, g6, g7, g8⟩ := st_no q hq'
    rw [Tab.upd_ne _ _ g5]
    rw [Tab.get_ne g1] at hL
    exact a3 q hq' hL
  · rw [hcur, if_pos (Tab.get_self hL3)]; exact ho
  · rw [Tab.get_ne (by decide)] at hL
    obtain ⟨C, c1, c2, c3, c4, c5⟩ := a5 hL n9
    rw [hcur0] at c5
    refine ⟨C, by rw [Tab.upd_ne _ _ (by decide)]; exact c1, c2, Nat.lt_of_lt_of_le c3 hc.size, hc.cell c4 c5, ?_⟩
    rw [hcur]
    rcases hat with e | ⟨k, e, hk⟩
    · rw [e]; exact c5
    · rw [e]; intro hh; injection hh with hh; omega
  · rw [Tab.get_ne (by decide)] at hL; exact absurd hL n9
  · rw [Tab.get_ne (by decide), hL10] at hL; cases hL
theorem W5.alloc (h : W5 base W1 v fsv m P0 nf x y L V w') (hL8 : L[8]? = some false) (hL9 : L[9]? = some false) (hL10 : L[10]? = some false) :
    W5 base W1 v fsv m P0 nf x y (L.setIfInBounds 8 true) (Tab.upd V 33 (.slice (some ⟨w'.heap.size, 0, none⟩) 1 1)) (w'.alloc (.cells #[.int .u8 y] 5)) := by
  obtain ⟨a1, a2, a3, a4, a5, a6, a7⟩ := h
  have n9 : ¬ L[9]? = some true := by rw [hL9]; decide
  have hb := (Bl.refl w').alloc (.cells #[.int .u8 y] 5)
  have hcur : cur v (L.setIfInBounds 8 true) (Tab.upd V 33 (.slice (some ⟨w'.heap.size, 0, none⟩) 1 1)) = cur v L V := by unfold cur; rw [Tab.get_ne (by decide), Tab.upd_ne _ _ (by decide)]
  have hrow := a4 n9
  refine ⟨a1.alloc a2 _, Nat.le_trans a2 hb.size, fun q hq' hL => ?_, fun hL => ?_, fun hL hL' => ?_, fun hL => ?_, fun hL => ?_⟩
  · obtain ⟨g1, g2, g3, g4, g5, g6, g7, g8⟩ := st_no q hq'
    rw [Tab.upd_ne _ _ g6]
    rw [Tab.get_ne g2] at hL
    exact a3 q hq' hL
  · rw [hcur, Tab.get_ne (by decide)]; exact own8_bl hrow hb
  · refine ⟨w'.heap.size, Tab.upd_self _ _ _, a2, by simp, (World.rowIs_alloc w' #[.int .u8 y] 5 (fun _ => .int .u8 y) (fun i hi => by have hi : i < 1 := hi; (obtain rfl : i = 0 := (by omega)); rfl)).cell (i := 0) (by show 0 < 1; decide), ?_⟩
    rw [hcur]
    obtain ⟨xs, hx, _⟩ := hrow
    intro e
    have := (World.ownsRow.lt hx _ e).2
    omega
  · rw [Tab.get_ne (by decide)] at hL; exact absurd hL n9
  · rw [Tab.get_ne (by decide), hL10] at hL; cases hL
theorem W5.app (h : W5 base W1 v fsv m P0 nf x y L V w') (hL3 : L[3]? = some true) (hL9 : L[9]? = some false) (hL10 : L[10]? = some false) (v' : Value) (ho : Own8 base w'' v' (m + 2 + 1)) (hg : w'.grownBy w'' (V 28).ownBlock) :
    W5 base W1 v fsv m P0 nf x y (L.setIfInBounds 9 true) (Tab.upd V 34 v') w'' := by
  obtain ⟨a1, a2, a3, a4, a5, a6, a7⟩ := h
  have n9 : ¬ L[9]? = some true := by rw [hL9]; decide
  have hrow := a4 n9
  unfold cur at hrow
  rw [if_pos hL3] at hrow
  obtain ⟨ys, hy, _⟩ := hrow
  have hc := ch_of_grown hg
  refine ⟨a1.trans (below_ch hc (fun i hi e => by have := (World.ownsRow.lt hy i e).1; omega) a2), Nat.le_trans a2 hc.size, fun q hq' hL => ?_, fun hL => absurd (Tab.get_self hL9) hL, fun hL hL' => absurd (Tab.get_self hL9) hL', fun hL => ?_, fun hL => ?_⟩
  · obtain ⟨g1, g2, g3, g4, g5, g6, g7, g8⟩ := st_no q hq'
    rw [Tab.upd_ne _ _ g7]
    rw [Tab.get_ne g3] at hL
    exact a3 q hq' hL
  · rw [Tab.upd_self]; exact ho
  · rw [Tab.get_ne (by decide), hL10] at hL; cases hL
theorem W5.asg (h : W5 base W1 v fsv m P0 nf x y L V w') (hL9 : L[9]? = some true) : W5 base W1 v fsv m P0 nf x y (L.setIfInBounds 10 true) (Tab.upd V 5 (V 34)) w' := by
  obtain ⟨a1, a2, a3, a4, a5, a6, a7⟩ := h
  have k9 : (L.setIfInBounds 10 true)[9]? = some true := by rw [Tab.get_ne (by decide)]; exact hL9
  refine ⟨a1, a2, fun q hq' hL => ?_, fun hL => absurd k9 hL, fun hL hL' => absurd k9 hL', fun hL => ?_, fun hL => ?_⟩
  · obtain ⟨g1, g2, g3, g4, g5, g6, g7, g8⟩ := st_no q hq'
    rw [Tab.upd_ne _ _ g8]
    rw [Tab.get_ne g4] at hL
    exact a3 q hq' hL
  · rw [Tab.upd_ne _ _ (by decide)]; exact a6 hL9
  · rw [Tab.upd_self, Tab.upd_ne _ _ (by decide)]
end Go.Proofs.YtonndofbnhnkpaaGreat.CodA
