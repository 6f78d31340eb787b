/- Keys, in plain Lean: who is ahead is an order by rank; children, parents. -/
import Derived.Test.YtonndofbnhnkpaaKeyM
namespace Go.Proofs.Ytonndofbnhnkpaa.KeyM

/-- The six shapes of a key. -/
theorem Ok.shapes {k a b c d e : Int} (h : Ok k a b c d e) :
    (a = 0 ∧ b = 0 ∧ c = 0 ∧ d = 0 ∧ e = 0) ∨ (0 < a ∧ b = 0 ∧ c = 0 ∧ d = 0 ∧ e = 0) ∨ (0 < a ∧ 0 < b ∧ c = 0 ∧ d = 0 ∧ e = 0) ∨
    (0 < a ∧ 0 < b ∧ 0 < c ∧ d = 0 ∧ e = 0) ∨ (0 < a ∧ 0 < b ∧ 0 < c ∧ 0 < d ∧ e = 0) ∨ (0 < a ∧ 0 < b ∧ 0 < c ∧ 0 < d ∧ 0 < e) := by
  have a0 := h.a0
  have b0 := h.b0
  have c0 := h.c0
  have d0 := h.d0
  have e0 := h.e0
  by_cases ha : a = 0
  · have hb := h.ab ha
    have hc := h.bc hb
    have hd := h.cd hc
    exact Or.inl ⟨ha, hb, hc, hd, h.de hd⟩
  by_cases hb : b = 0
  · have hc := h.bc hb
    have hd := h.cd hc
    exact Or.inr (Or.inl ⟨by omega, hb, hc, hd, h.de hd⟩)
  by_cases hc : c = 0
  · have hd := h.cd hc
    exact Or.inr (Or.inr (Or.inl ⟨by omega, by omega, hc, hd, h.de hd⟩))
  by_cases hd : d = 0
  · exact Or.inr (Or.inr (Or.inr (Or.inl ⟨by omega, by omega, by omega, hd, h.de hd⟩)))
  by_cases he : e = 0
  · exact Or.inr (Or.inr (Or.inr (Or.inr (Or.inl ⟨by omega, by omega, by omega, by omega, he⟩))))
  · exact Or.inr (Or.inr (Or.inr (Or.inr (Or.inr ⟨by omega, by omega, by omega, by omega, by omega⟩))))

theorem dp0 : dp 0 0 0 0 0 = 0 := rfl
theorem dp1 {a : Int} (h : 0 < a) : dp a 0 0 0 0 = 1 := by unfold dp; rw [if_neg (by omega), if_pos rfl]
theorem dp2 {a b : Int} (h : 0 < a) (h2 : 0 < b) : dp a b 0 0 0 = 2 := by unfold dp; rw [if_neg (by omega), if_neg (by omega), if_pos rfl]
theorem dp3 {a b c : Int} (h : 0 < a) (h2 : 0 < b) (h3 : 0 < c) : dp a b c 0 0 = 3 := by unfold dp; rw [if_neg (by omega), if_neg (by omega), if_neg (by omega), if_pos rfl]
theorem dp4 {a b c d : Int} (h : 0 < a) (h2 : 0 < b) (h3 : 0 < c) (h4 : 0 < d) : dp a b c d 0 = 4 := by
  unfold dp; rw [if_neg (by omega), if_neg (by omega), if_neg (by omega), if_neg (by omega), if_pos rfl]
theorem dp5 {a b c d e : Int} (h : 0 < a) (h2 : 0 < b) (h3 : 0 < c) (h4 : 0 < d) (h5 : 0 < e) : dp a b c d e = 5 := by
  unfold dp; rw [if_neg (by omega), if_neg (by omega), if_neg (by omega), if_neg (by omega), if_neg (by omega)]

theorem rd0 : rd 0 = 1024 := rfl
theorem rdp {x : Int} (h : 0 < x) : rd x = x := by unfold rd; rw [if_neg (by omega)]

/-- What is above the digits of a depth, of a key. -/
theorem up_ok {k a b c d e : Int} (h : Ok k a b c d e) :
    k / up 0 = 1 ∧ k / up 1 = 1024 + a ∧ k / up 2 = 1048576 + a * 1024 + b ∧ k / up 3 = 1073741824 + a * 1048576 + b * 1024 + c ∧
    k / up 4 = 1099511627776 + a * 1073741824 + b * 1048576 + c * 1024 + d ∧ k / up 5 = k := by
  obtain ⟨h1, h2, h3, h4, h5, h6, h7, h8, h9, h10, h11, h12, h13, h14, h15⟩ := h
  refine ⟨?_, ?_, ?_, ?_, ?_, ?_⟩
  · show k / 1125899906842624 = _; omega
  · show k / 1099511627776 = _; omega
  · show k / 1073741824 = _; omega
  · show k / 1048576 = _; omega
  · show k / 1024 = _; omega
  · show k / 1 = _; exact Int.ediv_one _

theorem rank_ok {k a b c d e : Int} (h : Ok k a b c d e) : rank k = rd a * 17592186044416 + rd b * 8589934592 + rd c * 4194304 + rd d * 2048 + rd e := by
  obtain ⟨e0, e1, e2, e3, e4, _⟩ := digits_of_ok h
  unfold rank; rw [e0, e1, e2, e3, e4]

theorem under_ok {x y a b c d e a' b' c' d' e' : Int} (hx : Ok x a b c d e) (hy : Ok y a' b' c' d' e') :
    under x y = decide (dp a' b' c' d' e' < dp a b c d e ∧ x / up (dp a' b' c' d' e') = y / up (dp a' b' c' d' e')) := by
  unfold under; rw [chk_of_ok hx, chk_of_ok hy, dep_ok hx, dep_ok hy]; rfl

set_option maxHeartbeats 4000000 in
theorem ahead_rank {x y a b c d e a' b' c' d' e' : Int} (hx : Ok x a b c d e) (hy : Ok y a' b' c' d' e') : ahead x y = decide (rank x < rank y) := by
  have hax : ahead x y = (!under y x && (under x y || decide (x < y))) := by unfold ahead; rw [chk_of_ok hx, chk_of_ok hy]; rfl
  rw [hax, under_ok hx hy, under_ok hy hx, rank_ok hx, rank_ok hy]
  obtain ⟨u0, u1, u2, u3, u4, u5⟩ := up_ok hx
  obtain ⟨v0, v1, v2, v3, v4, v5⟩ := up_ok hy
  rw [Bool.eq_iff_iff]
  have sx := hx.shapes
  have sy := hy.shapes
  obtain ⟨h1, h2, h3, h4, h5, h6, h7, h8, h9, h10, h11, _, _, _, _⟩ := hx
  obtain ⟨g1, g2, g3, g4, g5, g6, g7, g8, g9, g10, g11, _, _, _, _⟩ := hy
  rcases sx with ⟨p1, p2, p3, p4, p5⟩ | ⟨p1, p2, p3, p4, p5⟩ | ⟨p1, p2, p3, p4, p5⟩ | ⟨p1, p2, p3, p4, p5⟩ | ⟨p1, p2, p3, p4, p5⟩ | ⟨p1, p2, p3, p4, p5⟩ <;>
  rcases sy with ⟨q1, q2, q3, q4, q5⟩ | ⟨q1, q2, q3, q4, q5⟩ | ⟨q1, q2, q3, q4, q5⟩ | ⟨q1, q2, q3, q4, q5⟩ | ⟨q1, q2, q3, q4, q5⟩ | ⟨q1, q2, q3, q4, q5⟩ <;>
  (simp only [p1, p2, p3, p4, p5, q1, q2, q3, q4, q5, dp0, dp1, dp2, dp3, dp4, dp5, rd0, rdp, u0, u1, u2, u3, u4, u5, v0, v1, v2, v3, v4, v5, Bool.and_eq_true, Bool.or_eq_true, Bool.not_eq_true', decide_eq_true_iff, decide_eq_false_iff_not, and_true]; (try simp only [p1, p2, p3, p4, p5, q1, q2, q3, q4, q5] at h1 g1); omega)
end Go.Proofs.Ytonndofbnhnkpaa.KeyM
