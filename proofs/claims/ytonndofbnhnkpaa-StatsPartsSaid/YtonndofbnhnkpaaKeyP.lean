/- Keys, in plain Lean: parents up to the root: under is a chain of parents. -/
import Derived.Test.YtonndofbnhnkpaaKeyC
namespace Go.Proofs.Ytonndofbnhnkpaa.KeyM

/-- A key that is a fork: of whom. -/
theorem parent_ok {k a b c d e : Int} (h : Ok k a b c d e) (h0 : dep k ≠ 0) :
    (dep k = 1 ∧ 0 < a ∧ b = 0 ∧ c = 0 ∧ d = 0 ∧ e = 0 ∧ Ok (parent k) 0 0 0 0 0 ∧ num k = a) ∨ (dep k = 2 ∧ 0 < a ∧ 0 < b ∧ c = 0 ∧ d = 0 ∧ e = 0 ∧ Ok (parent k) a 0 0 0 0 ∧ num k = b) ∨
    (dep k = 3 ∧ 0 < a ∧ 0 < b ∧ 0 < c ∧ d = 0 ∧ e = 0 ∧ Ok (parent k) a b 0 0 0 ∧ num k = c) ∨ (dep k = 4 ∧ 0 < a ∧ 0 < b ∧ 0 < c ∧ 0 < d ∧ e = 0 ∧ Ok (parent k) a b c 0 0 ∧ num k = d) ∨
    (dep k = 5 ∧ 0 < a ∧ 0 < b ∧ 0 < c ∧ 0 < d ∧ 0 < e ∧ Ok (parent k) a b c d 0 ∧ num k = e) := by
  have hd := dep_ok h
  have b1 := h.a1
  have b2 := h.b1
  have b3 := h.c1
  have b4 := h.d1
  have b5 := h.e1
  obtain ⟨m1, m2, m3, m4, m5⟩ := parent_up h
  rcases h.by_dep with ⟨g, p1, p2, p3, p4, p5⟩ | ⟨g, p1, p2, p3, p4, p5⟩ | ⟨g, p1, p2, p3, p4, p5⟩ | ⟨g, p1, p2, p3, p4, p5⟩ | ⟨g, p1, p2, p3, p4, p5⟩ | ⟨g, p1, p2, p3, p4, p5⟩ <;> rw [g] at hd
  · exact absurd hd h0
  · obtain ⟨n1, n2⟩ := m1 g
    exact Or.inl ⟨hd, p1, p2, p3, p4, p5, by rw [n2]; constructor <;> omega, n1⟩
  · obtain ⟨n1, n2⟩ := m2 g
    exact Or.inr (Or.inl ⟨hd, p1, p2, p3, p4, p5, by rw [n2]; constructor <;> omega, n1⟩)
  · obtain ⟨n1, n2⟩ := m3 g
    exact Or.inr (Or.inr (Or.inl ⟨hd, p1, p2, p3, p4, p5, by rw [n2]; constructor <;> omega, n1⟩))
  · obtain ⟨n1, n2⟩ := m4 g
    exact Or.inr (Or.inr (Or.inr (Or.inl ⟨hd, p1, p2, p3, p4, p5, by rw [n2]; constructor <;> omega, n1⟩)))
  · obtain ⟨n1, n2⟩ := m5 g
    exact Or.inr (Or.inr (Or.inr (Or.inr ⟨hd, p1, p2, p3, p4, p5, by rw [n2]; constructor <;> omega, n1⟩)))

theorem chk_of_dep {k : Int} (h : dep k ≠ 0) : chk k = true := by
  cases hc : chk k
  · exact absurd (dep_none hc) h
  · rfl

theorem parent_dep {k : Int} (h : dep k ≠ 0) : chk (parent k) = true ∧ dep (parent k) = dep k - 1 := by
  have o := ok_of_chk (chk_of_dep h)
  rcases parent_ok o h with ⟨g, p1, p2, p3, p4, p5, q, _⟩ | ⟨g, p1, p2, p3, p4, p5, q, _⟩ | ⟨g, p1, p2, p3, p4, p5, q, _⟩ | ⟨g, p1, p2, p3, p4, p5, q, _⟩ | ⟨g, p1, p2, p3, p4, p5, q, _⟩
  all_goals
    refine ⟨chk_of_ok q, ?_⟩
    rw [dep_ok q]
    simp only [p1, p2, p3, p4, dp0, dp1, dp2, dp3, dp4]
    omega

theorem under_root {y b : Int} (h : dep y = 0) : under y b = false := by
  unfold under; rw [h]; have := dep_lo b; cases chk y <;> cases chk b <;> simp; omega

theorem under_parent {y b : Int} (h : dep y ≠ 0) : under y b = (parent y == b || under (parent y) b) := by
  have hy := chk_of_dep h
  obtain ⟨hp, _⟩ := parent_dep h
  cases hb : chk b
  · have h1 : under y b = false := by unfold under; rw [hb]; simp
    have h2 : under (parent y) b = false := by unfold under; rw [hb]; simp
    have h3 : (parent y == b) = false := by
      cases g : parent y == b
      · rfl
      · rw [beq_iff_eq] at g; rw [← g, hp] at hb; exact absurd hb (by simp)
    rw [h1, h2, h3]; rfl
  · have oy := ok_of_chk hy
    have ob := ok_of_chk hb
    generalize d0 y = a at oy
    generalize d1 y = a2 at oy
    generalize d2 y = a3 at oy
    generalize d3 y = a4 at oy
    generalize d4 y = a5 at oy
    generalize d0 b = c at ob
    generalize d1 b = c2 at ob
    generalize d2 b = c3 at ob
    generalize d3 b = c4 at ob
    generalize d4 b = c5 at ob
    obtain ⟨u0, u1, u2, u3, u4, u5⟩ := up_ok oy
    obtain ⟨v0, v1, v2, v3, v4, v5⟩ := up_ok ob
    have sb := ob.shapes
    have q1 := ob.eq
    have y1 := oy.a1; have y2 := oy.b1; have y3 := oy.c1; have y4 := oy.d1; have y5 := oy.e1
    have z1 := ob.a1; have z2 := ob.b1; have z3 := ob.c1; have z4 := ob.d1; have z5 := ob.e1
    rw [Bool.eq_iff_iff]
    rcases parent_ok oy h with ⟨g, p1, p2, p3, p4, p5, q, _⟩ | ⟨g, p1, p2, p3, p4, p5, q, _⟩ | ⟨g, p1, p2, p3, p4, p5, q, _⟩ | ⟨g, p1, p2, p3, p4, p5, q, _⟩ | ⟨g, p1, p2, p3, p4, p5, q, _⟩ <;>
    rw [under_ok oy ob, under_ok q ob] <;>
    have q2 := q.eq <;>
    obtain ⟨w0, w1, w2, w3, w4, w5⟩ := up_ok q <;>
    rcases sb with ⟨r1, r2, r3, r4, r5⟩ | ⟨r1, r2, r3, r4, r5⟩ | ⟨r1, r2, r3, r4, r5⟩ | ⟨r1, r2, r3, r4, r5⟩ | ⟨r1, r2, r3, r4, r5⟩ | ⟨r1, r2, r3, r4, r5⟩ <;>
    (simp only [p1, p2, p3, p4, p5, r1, r2, r3, r4, r5, dp0, dp1, dp2, dp3, dp4, dp5, u0, u1, u2, u3, u4, u5, v0, v1, v2, v3, v4, v5, w0, w1, w2, w3, w4, w5, Bool.or_eq_true, beq_iff_eq, decide_eq_true_iff, and_true]; (try simp only [r1, r2, r3, r4, r5] at q1); omega)
end Go.Proofs.Ytonndofbnhnkpaa.KeyM
