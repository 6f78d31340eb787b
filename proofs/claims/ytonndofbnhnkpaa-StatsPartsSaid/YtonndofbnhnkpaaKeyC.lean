/- Keys, in plain Lean: a fork's key, its parent, who is under whom. -/
import Derived.Test.YtonndofbnhnkpaaKeyR
namespace Go.Proofs.Ytonndofbnhnkpaa.KeyM

theorem parent_up {k a b c d e : Int} (h : Ok k a b c d e) :
    (dp a b c d e = 1 → num k = a ∧ parent k = 1125899906842624) ∧
    (dp a b c d e = 2 → num k = b ∧ parent k = 1125899906842624 + a * 1099511627776) ∧
    (dp a b c d e = 3 → num k = c ∧ parent k = 1125899906842624 + a * 1099511627776 + b * 1073741824) ∧
    (dp a b c d e = 4 → num k = d ∧ parent k = 1125899906842624 + a * 1099511627776 + b * 1073741824 + c * 1048576) ∧
    (dp a b c d e = 5 → num k = e ∧ parent k = 1125899906842624 + a * 1099511627776 + b * 1073741824 + c * 1048576 + d * 1024) := by
  obtain ⟨e0, e1, e2, e3, e4, _⟩ := digits_of_ok h
  have hd := dep_ok h
  have sh := h.shapes
  refine ⟨fun g => ?_, fun g => ?_, fun g => ?_, fun g => ?_, fun g => ?_⟩ <;> rw [g] at hd
  · have hn : num k = a := by unfold num; rw [hd]; exact e0
    refine ⟨hn, ?_⟩
    unfold parent; rw [hn, hd]; show k - a * 1099511627776 = _
    rcases sh with ⟨p1, p2, p3, p4, p5⟩ | ⟨p1, p2, p3, p4, p5⟩ | ⟨p1, p2, p3, p4, p5⟩ | ⟨p1, p2, p3, p4, p5⟩ | ⟨p1, p2, p3, p4, p5⟩ | ⟨p1, p2, p3, p4, p5⟩ <;>
    (simp only [p1, p2, p3, p4, p5, dp0, dp1, dp2, dp3, dp4, dp5] at g; have := h.eq; omega)
  · have hn : num k = b := by unfold num; rw [hd]; exact e1
    refine ⟨hn, ?_⟩
    unfold parent; rw [hn, hd]; show k - b * 1073741824 = _
    rcases sh with ⟨p1, p2, p3, p4, p5⟩ | ⟨p1, p2, p3, p4, p5⟩ | ⟨p1, p2, p3, p4, p5⟩ | ⟨p1, p2, p3, p4, p5⟩ | ⟨p1, p2, p3, p4, p5⟩ | ⟨p1, p2, p3, p4, p5⟩ <;>
    (simp only [p1, p2, p3, p4, p5, dp0, dp1, dp2, dp3, dp4, dp5] at g; have := h.eq; omega)
  · have hn : num k = c := by unfold num; rw [hd]; exact e2
    refine ⟨hn, ?_⟩
    unfold parent; rw [hn, hd]; show k - c * 1048576 = _
    rcases sh with ⟨p1, p2, p3, p4, p5⟩ | ⟨p1, p2, p3, p4, p5⟩ | ⟨p1, p2, p3, p4, p5⟩ | ⟨p1, p2, p3, p4, p5⟩ | ⟨p1, p2, p3, p4, p5⟩ | ⟨p1, p2, p3, p4, p5⟩ <;>
    (simp only [p1, p2, p3, p4, p5, dp0, dp1, dp2, dp3, dp4, dp5] at g; have := h.eq; omega)
  · have hn : num k = d := by unfold num; rw [hd]; exact e3
    refine ⟨hn, ?_⟩
    unfold parent; rw [hn, hd]; show k - d * 1024 = _
    rcases sh with ⟨p1, p2, p3, p4, p5⟩ | ⟨p1, p2, p3, p4, p5⟩ | ⟨p1, p2, p3, p4, p5⟩ | ⟨p1, p2, p3, p4, p5⟩ | ⟨p1, p2, p3, p4, p5⟩ | ⟨p1, p2, p3, p4, p5⟩ <;>
    (simp only [p1, p2, p3, p4, p5, dp0, dp1, dp2, dp3, dp4, dp5] at g; have := h.eq; omega)
  · have hn : num k = e := by unfold num; rw [hd]; show k / 1 % 1024 = e; rw [Int.ediv_one]; exact e4
    refine ⟨hn, ?_⟩
    unfold parent; rw [hn, hd]; show k - e * 1 = _
    have := h.eq; omega

/-- The six shapes, with the depth. -/
theorem Ok.by_dep {k a b c d e : Int} (h : Ok k a b c d e) :
    (dp a b c d e = 0 ∧ a = 0 ∧ b = 0 ∧ c = 0 ∧ d = 0 ∧ e = 0) ∨ (dp a b c d e = 1 ∧ 0 < a ∧ b = 0 ∧ c = 0 ∧ d = 0 ∧ e = 0) ∨ (dp a b c d e = 2 ∧ 0 < a ∧ 0 < b ∧ c = 0 ∧ d = 0 ∧ e = 0) ∨
    (dp a b c d e = 3 ∧ 0 < a ∧ 0 < b ∧ 0 < c ∧ d = 0 ∧ e = 0) ∨ (dp a b c d e = 4 ∧ 0 < a ∧ 0 < b ∧ 0 < c ∧ 0 < d ∧ e = 0) ∨ (dp a b c d e = 5 ∧ 0 < a ∧ 0 < b ∧ 0 < c ∧ 0 < d ∧ 0 < e) := by
  rcases h.shapes with ⟨p1, p2, p3, p4, p5⟩ | ⟨p1, p2, p3, p4, p5⟩ | ⟨p1, p2, p3, p4, p5⟩ | ⟨p1, p2, p3, p4, p5⟩ | ⟨p1, p2, p3, p4, p5⟩ | ⟨p1, p2, p3, p4, p5⟩ <;>
  simp [p1, p2, p3, p4, p5, dp0, dp1, dp2, dp3, dp4, dp5]

theorem child_ok {k a b c d e n : Int} (h : Ok k a b c d e) (h0 : 1 ≤ n) (h1 : n ≤ 1000) (h5 : dep k < 5) :
    (dep k = 0 ∧ a = 0 ∧ b = 0 ∧ c = 0 ∧ d = 0 ∧ e = 0 ∧ Ok (child k n) n 0 0 0 0) ∨ (dep k = 1 ∧ 0 < a ∧ b = 0 ∧ c = 0 ∧ d = 0 ∧ e = 0 ∧ Ok (child k n) a n 0 0 0) ∨
    (dep k = 2 ∧ 0 < a ∧ 0 < b ∧ c = 0 ∧ d = 0 ∧ e = 0 ∧ Ok (child k n) a b n 0 0) ∨ (dep k = 3 ∧ 0 < a ∧ 0 < b ∧ 0 < c ∧ d = 0 ∧ e = 0 ∧ Ok (child k n) a b c n 0) ∨
    (dep k = 4 ∧ 0 < a ∧ 0 < b ∧ 0 < c ∧ 0 < d ∧ e = 0 ∧ Ok (child k n) a b c d n) := by
  have hd := dep_ok h
  have hq := h.eq
  rcases h.by_dep with ⟨g, p1, p2, p3, p4, p5⟩ | ⟨g, p1, p2, p3, p4, p5⟩ | ⟨g, p1, p2, p3, p4, p5⟩ | ⟨g, p1, p2, p3, p4, p5⟩ | ⟨g, p1, p2, p3, p4, p5⟩ | ⟨g, p1, p2, p3, p4, p5⟩ <;> rw [g] at hd
  · refine Or.inl ⟨hd, p1, p2, p3, p4, p5, ?_⟩
    have hc : child k n = k + n * 1099511627776 := by unfold child; rw [hd]; rfl
    rw [hc]; constructor <;> omega
  · refine Or.inr (Or.inl ⟨hd, p1, p2, p3, p4, p5, ?_⟩)
    have hc : child k n = k + n * 1073741824 := by unfold child; rw [hd]; rfl
    have := h.a1
    rw [hc]; constructor <;> omega
  · refine Or.inr (Or.inr (Or.inl ⟨hd, p1, p2, p3, p4, p5, ?_⟩))
    have hc : child k n = k + n * 1048576 := by unfold child; rw [hd]; rfl
    have := h.a1
    have := h.b1
    rw [hc]; constructor <;> omega
  · refine Or.inr (Or.inr (Or.inr (Or.inl ⟨hd, p1, p2, p3, p4, p5, ?_⟩)))
    have hc : child k n = k + n * 1024 := by unfold child; rw [hd]; rfl
    have := h.a1
    have := h.b1
    have := h.c1
    rw [hc]; constructor <;> omega
  · refine Or.inr (Or.inr (Or.inr (Or.inr ⟨hd, p1, p2, p3, p4, p5, ?_⟩)))
    have hc : child k n = k + n * 1 := by unfold child; rw [hd]; rfl
    have := h.a1
    have := h.b1
    have := h.c1
    have := h.d1
    rw [hc]; constructor <;> omega
  · omega

/-- What a fork's key is: a key, one deeper, its parent and number, greater, ahead, under; a later fork is behind it. -/
structure Born (k n : Int) : Prop where
  chk : chk (child k n) = true
  dep : dep (child k n) = dep k + 1
  par : parent (child k n) = k
  num : num (child k n) = n
  lt : k < child k n
  rank : rank (child k n) < rank k
  und : under (child k n) k = true
  nund : under k (child k n) = false

theorem born {k n : Int} (hk : KeyM.chk k = true) (h0 : 1 ≤ n) (h1 : n ≤ 1000) (h5 : KeyM.dep k < 5) : Born k n := by
  have h := ok_of_chk hk
  generalize d0 k = a at h
  generalize d1 k = b at h
  generalize d2 k = c at h
  generalize d3 k = d at h
  generalize d4 k = e at h
  have hq := h.eq
  have hdk := dep_ok h
  have hrk := rank_ok h
  obtain ⟨v0, v1, v2, v3, v4, v5⟩ := up_ok h
  have b1 := h.a1
  have b2 := h.b1
  have b3 := h.c1
  have b4 := h.d1
  have b5 := h.e1
  rcases child_ok h h0 h1 h5 with ⟨g, p1, p2, p3, p4, p5, o⟩ | ⟨g, p1, p2, p3, p4, p5, o⟩ | ⟨g, p1, p2, p3, p4, p5, o⟩ | ⟨g, p1, p2, p3, p4, p5, o⟩ | ⟨g, p1, p2, p3, p4, p5, o⟩
  all_goals
    have hn : 0 < n := by omega
    have hdc := dep_ok o
    have hrc := rank_ok o
    have hoq := o.eq
    obtain ⟨u0, u1, u2, u3, u4, u5⟩ := up_ok o
    have hun := under_ok o h
    have hun' := under_ok h o
    obtain ⟨m1, m2, m3, m4, m5⟩ := parent_up o
    simp only [p1, p2, p3, p4, p5, hn, dp0, dp1, dp2, dp3, dp4, dp5, rd0, rdp, u0, u1, u2, u3, u4, v0, v1, v2, v3, v4, true_implies, and_true] at hdk hdc hrk hrc hun hun' m1 m2 m3 m4 m5
    simp only [p1, p2, p3, p4, p5] at hq hoq
    constructor
    · exact chk_of_ok o
    · omega
    · omega
    · omega
    · omega
    · omega
    · rw [hun]; exact decide_eq_true (by omega)
    · rw [hun']; exact decide_eq_false (by omega)

theorem rank_later {k n m : Int} (hk : KeyM.chk k = true) (h0 : 1 ≤ n) (hm : n < m) (h1 : m ≤ 1000) (h5 : dep k < 5) : rank (child k n) < rank (child k m) := by
  have h := ok_of_chk hk
  generalize d0 k = a at h
  generalize d1 k = b at h
  generalize d2 k = c at h
  generalize d3 k = d at h
  generalize d4 k = e at h
  have hn : 0 < n := by omega
  have hm' : 0 < m := by omega
  rcases child_ok h h0 (by omega) h5 with ⟨g, p1, p2, p3, p4, p5, o⟩ | ⟨g, p1, p2, p3, p4, p5, o⟩ | ⟨g, p1, p2, p3, p4, p5, o⟩ | ⟨g, p1, p2, p3, p4, p5, o⟩ | ⟨g, p1, p2, p3, p4, p5, o⟩ <;>
  rcases child_ok (n := m) h (by omega) h1 h5 with ⟨g', _, _, _, _, _, o'⟩ | ⟨g', _, _, _, _, _, o'⟩ | ⟨g', _, _, _, _, _, o'⟩ | ⟨g', _, _, _, _, _, o'⟩ | ⟨g', _, _, _, _, _, o'⟩ <;>
  first
    | omega
    | (rw [rank_ok o, rank_ok o']; simp only [p1, p2, p3, p4, hn, hm', rd0, rdp]; omega)

theorem rank_inj {x y : Int} (hx : KeyM.chk x = true) (hy : KeyM.chk y = true) (h : rank x = rank y) : x = y := by
  have ox := ok_of_chk hx
  have oy := ok_of_chk hy
  have hq := ox.eq
  have hq' := oy.eq
  have l1 := ox.a0; have l2 := ox.b0; have l3 := ox.c0; have l4 := ox.d0; have l5 := ox.e0
  have l1' := ox.a1; have l2' := ox.b1; have l3' := ox.c1; have l4' := ox.d1; have l5' := ox.e1
  have m1 := oy.a0; have m2 := oy.b0; have m3 := oy.c0; have m4 := oy.d0; have m5 := oy.e0
  have m1' := oy.a1; have m2' := oy.b1; have m3' := oy.c1; have m4' := oy.d1; have m5' := oy.e1
  have key : ∀ u v : Int, 0 ≤ u → u ≤ 1000 → 0 ≤ v → v ≤ 1000 → rd u = rd v → u = v := by
    intro u v _ _ _ _ e; unfold rd at e; split at e <;> split at e <;> omega
  have rb : ∀ u : Int, 0 ≤ u → u ≤ 1000 → 1 ≤ rd u ∧ rd u ≤ 1024 := by
    intro u _ _; unfold rd; split <;> omega
  unfold rank at h
  have r1 := rb _ l1 l1'; have r2 := rb _ l2 l2'; have r3 := rb _ l3 l3'; have r4 := rb _ l4 l4'; have r5 := rb _ l5 l5'
  have s1 := rb _ m1 m1'; have s2 := rb _ m2 m2'; have s3 := rb _ m3 m3'; have s4 := rb _ m4 m4'; have s5 := rb _ m5 m5'
  have e1 := key _ _ l1 l1' m1 m1' (by omega)
  have e2 := key _ _ l2 l2' m2 m2' (by omega)
  have e3 := key _ _ l3 l3' m3 m3' (by omega)
  have e4 := key _ _ l4 l4' m4 m4' (by omega)
  have e5 := key _ _ l5 l5' m5 m5' (by omega)
  omega

theorem ahead_of {x y : Int} (hx : KeyM.chk x = true) (hy : KeyM.chk y = true) : ahead x y = decide (rank x < rank y) := ahead_rank (ok_of_chk hx) (ok_of_chk hy)
theorem ahead_none_l {x y : Int} (hx : KeyM.chk x = false) : ahead x y = false := by unfold ahead; rw [hx]; rfl
theorem ahead_none_r {x y : Int} (hy : KeyM.chk y = false) : ahead x y = false := by unfold ahead; rw [hy]; simp
end Go.Proofs.Ytonndofbnhnkpaa.KeyM
