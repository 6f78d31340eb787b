/- Keys, in plain Lean: whose prefix is less is ahead; a fork has its parent's prefix. -/
import Derived.Test.YtdngmceoicjadaaKeyMk
set_option linter.unusedSimpArgs false
namespace Go.Proofs.Ytdngmceoicjadaa.KeyM
theorem prefix_lt {p q D : Int} (hp : chk p = true) (hq : chk q = true) (h1 : 1 ≤ D) (hDp : D ≤ dep p) (hDq : D ≤ dep q) (h : p / up D < q / up D) : rank p < rank q := by
  have op := ok_of_chk hp
  have oq := ok_of_chk hq
  rw [dep_ok op] at hDp
  rw [dep_ok oq] at hDq
  rw [rank_ok op, rank_ok oq]
  obtain ⟨u0, u1, u2, u3, u4, u5⟩ := up_ok op
  obtain ⟨v0, v1, v2, v3, v4, v5⟩ := up_ok oq
  have eq1 := op.eq
  have eq2 := oq.eq
  generalize d0 p = a at *
  generalize d1 p = b at *
  generalize d2 p = c at *
  generalize d3 p = d at *
  generalize d4 p = e at *
  generalize d0 q = a' at *
  generalize d1 q = b' at *
  generalize d2 q = c' at *
  generalize d3 q = d' at *
  generalize d4 q = e' at *
  have x1 := op.a1; have x2 := op.b1; have x3 := op.c1; have x4 := op.d1; have x5 := op.e1
  have y1 := oq.a1; have y2 := oq.b1; have y3 := oq.c1; have y4 := oq.d1; have y5 := oq.e1
  have hD5 : D ≤ 5 := Int.le_trans hDp (dp_hi _ _ _ _ _)
  obtain rfl | rfl | rfl | rfl | rfl : D = 1 ∨ D = 2 ∨ D = 3 ∨ D = 4 ∨ D = 5 := by omega
  all_goals
    rcases op.by_dep with ⟨g, p1, p2, p3, p4, p5⟩ | ⟨g, p1, p2, p3, p4, p5⟩ | ⟨g, p1, p2, p3, p4, p5⟩ | ⟨g, p1, p2, p3, p4, p5⟩ | ⟨g, p1, p2, p3, p4, p5⟩ | ⟨g, p1, p2, p3, p4, p5⟩ <;>
    rcases oq.by_dep with ⟨g', q1, q2, q3, q4, q5⟩ | ⟨g', q1, q2, q3, q4, q5⟩ | ⟨g', q1, q2, q3, q4, q5⟩ | ⟨g', q1, q2, q3, q4, q5⟩ | ⟨g', q1, q2, q3, q4, q5⟩ | ⟨g', q1, q2, q3, q4, q5⟩ <;>
    rw [g] at hDp <;> rw [g'] at hDq <;>
    first
      | (exfalso; omega)
      | (simp only [p1, p2, p3, p4, p5, q1, q2, q3, q4, q5, rd0, rdp]
         simp only [p1, p2, p3, p4, p5, q1, q2, q3, q4, q5, u1, u2, u3, u4, u5, v1, v2, v3, v4, v5] at h
         (try simp only [p1, p2, p3, p4, p5, q1, q2, q3, q4, q5] at eq1 eq2)
         omega)
theorem child_pre {k n D : Int} (hk : chk k = true) (h0 : 1 ≤ n) (h1 : n ≤ 1000) (h5 : dep k < 5) (hD0 : 0 ≤ D) (hD : D ≤ dep k) : child k n / up D = k / up D := by
  have h := ok_of_chk hk
  generalize d0 k = a at h
  generalize d1 k = b at h
  generalize d2 k = c at h
  generalize d3 k = d at h
  generalize d4 k = e at h
  obtain ⟨v0, v1, v2, v3, v4, v5⟩ := up_ok h
  rcases child_ok h h0 h1 h5 with ⟨g, p1, p2, p3, p4, p5, o⟩ | ⟨g, p1, p2, p3, p4, p5, o⟩ | ⟨g, p1, p2, p3, p4, p5, o⟩ | ⟨g, p1, p2, p3, p4, p5, o⟩ | ⟨g, p1, p2, p3, p4, p5, o⟩
  all_goals
    obtain ⟨u0, u1, u2, u3, u4, u5⟩ := up_ok o
    rw [g] at hD
    obtain rfl | rfl | rfl | rfl | rfl : D = 0 ∨ D = 1 ∨ D = 2 ∨ D = 3 ∨ D = 4 := by omega
    all_goals first | (exfalso; omega) | (simp only [u0, u1, u2, u3, u4, v0, v1, v2, v3, v4])
theorem child_top {k n m : Int} (hk : chk k = true) (h0 : 1 ≤ n) (h1 : n < m) (h2 : m ≤ 1000) (h5 : dep k < 5) : child k n / up (dep k + 1) < child k m / up (dep k + 1) := by
  have h := ok_of_chk hk
  generalize d0 k = a at h
  generalize d1 k = b at h
  generalize d2 k = c at h
  generalize d3 k = d at h
  generalize d4 k = e at h
  rcases child_ok h h0 (by omega) h5 with ⟨g, p1, p2, p3, p4, p5, o⟩ | ⟨g, p1, p2, p3, p4, p5, o⟩ | ⟨g, p1, p2, p3, p4, p5, o⟩ | ⟨g, p1, p2, p3, p4, p5, o⟩ | ⟨g, p1, p2, p3, p4, p5, o⟩ <;>
  rcases child_ok (n := m) h (by omega) h2 h5 with ⟨g', _, _, _, _, _, o'⟩ | ⟨g', _, _, _, _, _, o'⟩ | ⟨g', _, _, _, _, _, o'⟩ | ⟨g', _, _, _, _, _, o'⟩ | ⟨g', _, _, _, _, _, o'⟩ <;>
  first
    | (exfalso; omega)
    | (obtain ⟨u0, u1, u2, u3, u4, u5⟩ := up_ok o
       obtain ⟨v0, v1, v2, v3, v4, v5⟩ := up_ok o'
       rw [g]
       have z1 : (0 : Int) + 1 = 1 := rfl
       have z2 : (1 : Int) + 1 = 2 := rfl
       have z3 : (2 : Int) + 1 = 3 := rfl
       have z4 : (3 : Int) + 1 = 4 := rfl
       have z5 : (4 : Int) + 1 = 5 := rfl
       have eq1 := o.eq
       have eq2 := o'.eq
       simp only [z1, z2, z3, z4, z5, u1, u2, u3, u4, u5, v1, v2, v3, v4, v5]
       omega)
end Go.Proofs.Ytdngmceoicjadaa.KeyM
