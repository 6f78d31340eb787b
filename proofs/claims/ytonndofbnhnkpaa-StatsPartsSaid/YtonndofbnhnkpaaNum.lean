/- Numbers of 32 bits, in plain Lean: sums, differences and products by the lowest 32 bits are a ring; a mask is a remainder. -/
import Derived.RowKit
import Derived.Laws.Entries
import Derived.Laws.BitsLemmas
namespace Go.Proofs.Ytonndofbnhnkpaa.Num
open Go.RowKit

theorem w32_lo (a : Int) : -2147483648 ≤ wrap32 a := by unfold wrap32; omega
theorem w32_hi (a : Int) : wrap32 a ≤ 2147483647 := by unfold wrap32; omega
theorem w64_32 (a : Int) : wrap64 (wrap32 a) = wrap32 a := by
  have := w32_lo a; have := w32_hi a; unfold wrap64; omega
theorem w32_64 (a : Int) : wrap32 (wrap64 a) = wrap32 a := by unfold wrap32 wrap64; omega
theorem w32_32 (a : Int) : wrap32 (wrap32 a) = wrap32 a := by unfold wrap32; omega
theorem w32_in (a : Int) (h0 : -2147483648 ≤ a) (h1 : a ≤ 2147483647) : wrap32 a = a := by unfold wrap32; omega
theorem w32_bmod (a : Int) : wrap32 a = Int.bmod a 4294967296 := by
  unfold wrap32 Int.bmod
  show _ = if a % 4294967296 < (4294967296 + 1) / 2 then a % 4294967296 else a % 4294967296 - 4294967296
  split <;> omega

def add (a b : Int) : Int := wrap32 (wrap32 a + wrap32 b)
def sub (a b : Int) : Int := wrap32 (wrap32 a - wrap32 b)
def mul (a b : Int) : Int := wrap32 (wrap32 a * wrap32 b)

theorem add_eq (a b : Int) : add a b = wrap32 (a + b) := by unfold add wrap32; omega
theorem sub_eq (a b : Int) : sub a b = wrap32 (a - b) := by unfold sub wrap32; omega
theorem mul_eq (a b : Int) : mul a b = wrap32 (a * b) := by
  unfold mul; simp only [w32_bmod, Int.bmod_mul_bmod, Int.mul_bmod_bmod]
theorem w_add_l (a b : Int) : wrap32 (wrap32 a + b) = wrap32 (a + b) := by unfold wrap32; omega
theorem w_add_r (a b : Int) : wrap32 (a + wrap32 b) = wrap32 (a + b) := by unfold wrap32; omega
theorem w_sub_l (a b : Int) : wrap32 (wrap32 a - b) = wrap32 (a - b) := by unfold wrap32; omega
theorem w_sub_r (a b : Int) : wrap32 (a - wrap32 b) = wrap32 (a - b) := by unfold wrap32; omega
theorem w_mul_l (a b : Int) : wrap32 (wrap32 a * b) = wrap32 (a * b) := by simp only [w32_bmod, Int.bmod_mul_bmod]
theorem w_mul_r (a b : Int) : wrap32 (a * wrap32 b) = wrap32 (a * b) := by simp only [w32_bmod, Int.mul_bmod_bmod]

def divq (a b : Int) : Int := wrap32 ((wrap32 a).tdiv (wrap32 b))
theorem divq_lo (a b : Int) : -2147483648 ≤ divq a b := w32_lo _
theorem divq_hi (a b : Int) : divq a b ≤ 2147483647 := w32_hi _
theorem tdiv_facts (x y : Int) (hy : y ≠ 0) : ∃ r, x.tdiv y * y + r = x ∧ (r = 0 ∨ (r < 0 ∧ x < 0) ∨ (0 < r ∧ 0 < x)) ∧ r < max y (-y) ∧ -r < max y (-y) := by
  refine ⟨x.tmod y, ?_, ?_, ?_, ?_⟩
  · have := Int.mul_tdiv_add_tmod x y; rw [Int.mul_comm]; exact this
  · rcases Int.lt_trichotomy (x.tmod y) 0 with h | h | h
    · refine Or.inr (Or.inl ⟨h, ?_⟩)
      rcases Int.lt_or_le x 0 with h1 | h1
      · exact h1
      · have := Int.tmod_nonneg y h1; omega
    · exact Or.inl h
    · refine Or.inr (Or.inr ⟨h, ?_⟩)
      rcases Int.lt_or_le 0 x with h1 | h1
      · exact h1
      · have := Int.tmod_nonneg y (a := -x) (by omega); rw [Int.neg_tmod] at this; omega
  · have h1 : (x.tmod y).natAbs < y.natAbs := by
      rw [Int.natAbs_tmod]; exact Nat.mod_lt _ (by omega)
    omega
  · have h1 : (x.tmod y).natAbs < y.natAbs := by
      rw [Int.natAbs_tmod]; exact Nat.mod_lt _ (by omega)
    omega
theorem tdiv_abs (x y : Int) : (x.tdiv y).natAbs ≤ x.natAbs := by rw [Int.natAbs_tdiv]; exact Nat.div_le_self _ _
theorem divq_eq (a b : Int) (h : ¬ (wrap32 a = -2147483648 ∧ wrap32 b = -1)) : divq a b = (wrap32 a).tdiv (wrap32 b) := by
  unfold divq
  have h0 := w32_lo a
  have h1 := w32_hi a
  have h2 := tdiv_abs (wrap32 a) (wrap32 b)
  apply w32_in
  · omega
  · by_cases e : (wrap32 a).tdiv (wrap32 b) = 2147483648
    · exfalso
      by_cases hb : wrap32 b = 0
      · rw [hb, Int.tdiv_zero] at e; omega
      obtain ⟨r, h3, h4, h5, h6⟩ := tdiv_facts (wrap32 a) (wrap32 b) hb
      rw [e] at h3
      omega
    · omega

def lessv (a b : Int) : Int := if wrap32 a < wrap32 b then 1 else 0
theorem lessv_self (a : Int) : lessv a a = 0 := by unfold lessv; rw [if_neg (by omega)]
theorem lessv_or (a b : Int) : lessv a b = 0 ∨ lessv a b = 1 := by unfold lessv; split <;> simp
theorem lessv_one (a b : Int) : lessv a b = 1 ↔ wrap32 a < wrap32 b := by unfold lessv; split <;> simp_all
theorem lessv_sum (a b : Int) : lessv a b + lessv b a ≤ 1 := by
  unfold lessv
  by_cases h : wrap32 a < wrap32 b
  · rw [if_pos h, if_neg (by omega)]; omega
  · rw [if_neg h]; split <;> omega
theorem lessv_trans (a b c : Int) (h : lessv a b = 1) (h' : lessv b c = 1) : lessv a c = 1 := by
  rw [lessv_one] at *; omega
theorem lessv_small (x y : Int) (h1 : -2147483648 ≤ x) (h2 : x ≤ 2147483647) (h3 : -2147483648 ≤ y) (h4 : y ≤ 2147483647) : lessv x y = 1 ↔ x < y := by
  rw [lessv_one, w32_in x h1 h2, w32_in y h3 h4]
theorem place_eq (v n : Int) (hn : 0 < n) : (if v.tmod n < 0 then v.tmod n + n else v.tmod n) = v % n := by
  by_cases h : 0 ≤ v
  · rw [Int.tmod_eq_emod_of_nonneg h, if_neg (by have := Int.emod_nonneg v (b := n) (by omega); omega)]
  · have h1 : v.tmod n = -((-v) % n) := by
      have := Int.neg_tmod (-v) n
      rw [Int.neg_neg] at this
      rw [this, Int.tmod_eq_emod_of_nonneg (by omega)]
    have h2 := Int.emod_nonneg (-v) (b := n) (by omega)
    have h3 := Int.emod_lt_of_pos (-v) hn
    have h4 := Int.emod_nonneg v (b := n) (by omega)
    have h5 := Int.emod_lt_of_pos v hn
    have h6 := Int.mul_ediv_add_emod v n
    have h7 := Int.mul_ediv_add_emod (-v) n
    have h8 : ∃ k, v % n + (-v) % n = n * k := ⟨-(v / n) - (-v) / n, by rw [Int.mul_sub, Int.mul_neg]; omega⟩
    obtain ⟨k, hk⟩ := h8
    have hk0 : k = 0 ∨ k = 1 := by
      have : 0 ≤ n * k := by omega
      have : n * k < n * 2 := by omega
      have a1 : k < 2 := Int.lt_of_mul_lt_mul_left this (by omega)
      have a2 : -1 < k := Int.lt_of_mul_lt_mul_left (a := n) (by omega) (by omega)
      omega
    rcases hk0 with rfl | rfl
    · rw [h1, if_neg (by omega)]; omega
    · rw [h1]; split <;> omega

theorem and_mask (x : Int) (j : Nat) (hj : j ≤ 62) : bits .and .i64 x (2 ^ j - 1) = x % 2 ^ j := by
  have hp : (2 : Nat) ^ j ≤ 2 ^ 62 := Nat.pow_le_pow_right (by omega) hj
  have hpos : 0 < (2 : Nat) ^ j := Nat.pow_pos (by omega)
  have hcast : ((2 : Int) ^ j) = ((2 ^ j : Nat) : Int) := by simp
  have h1 : (BitVec.ofInt 64 ((2 : Int) ^ j - 1)).toNat = 2 ^ j - 1 := by
    rw [BitVec.toNat_ofInt, hcast]
    have : (((2 ^ j : Nat) : Int) - 1) % ((2 ^ 64 : Nat) : Int) = ((2 ^ j - 1 : Nat) : Int) := by
      rw [Int.emod_eq_of_lt (by omega) (by omega)]; omega
    rw [this]; rfl
  have h2 : (BitVec.ofInt 64 x).toNat = (x % 18446744073709551616).toNat := by
    rw [BitVec.toNat_ofInt]; rfl
  unfold bits
  show IntKind.i64.wrap ((BitVec.ofInt 64 x &&& BitVec.ofInt 64 ((2 : Int) ^ j - 1)).toNat : Int) = _
  rw [BitVec.toNat_and, h1, h2, Nat.and_two_pow_sub_one_eq_mod]
  have hlt : (x % 18446744073709551616).toNat % 2 ^ j < 2 ^ j := Nat.mod_lt _ hpos
  have hd : ((2 ^ j : Nat) : Int) ∣ 18446744073709551616 := by
    have : (2 : Nat) ^ j ∣ 2 ^ 64 := Nat.pow_dvd_pow 2 (by omega)
    exact Int.natCast_dvd_natCast.2 this
  have hv : (((x % 18446744073709551616).toNat % 2 ^ j : Nat) : Int) = x % 2 ^ j := by
    rw [Int.natCast_emod, Int.toNat_of_nonneg (by omega), hcast, Int.emod_emod_of_dvd _ hd]
  rw [IntKind.wrap_i64, hv]
  have h3 : 0 ≤ x % (2 : Int) ^ j := by rw [hcast]; exact Int.emod_nonneg _ (by omega)
  have h4 : x % (2 : Int) ^ j < 2 ^ j := by rw [hcast]; exact Int.emod_lt_of_pos _ (by omega)
  have h5 : (2 : Int) ^ j ≤ 4611686018427387904 := by rw [hcast]; omega
  omega
theorem and_two32 (x : Int) : bits .and .i64 x 4294967295 = x % 4294967296 := and_mask x 32 (by decide)
theorem and_1023 (x : Int) : bits .and .i64 x 1023 = x % 1024 := and_mask x 10 (by decide)
end Go.Proofs.Ytonndofbnhnkpaa.Num
