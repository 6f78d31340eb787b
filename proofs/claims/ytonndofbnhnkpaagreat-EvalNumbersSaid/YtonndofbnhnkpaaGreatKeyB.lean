/- Numbers of 32 bits, in plain Lean: sums, differences and products by the lowest 32 bits are a ring; a mask is a remainder. Keys, in plain Lean: a key is 2^50 and five digits of ten bits; which numbers are keys, how deep, who is under whom, who is ahead: an order by rank. Keys, in plain Lean: who is ahead is an order by rank; children, parents. Keys, in plain Lean: a fork's key, its parent, who is under whom. The contracts of package key's functions, at any integers. The contracts of package key's Child, Parent, Under, Ahead, at any integers. -/
import Derived.RowKit
import Derived.Laws.Entries
import Derived.Laws.BitsLemmas
import Derived.Test.YtonndofbnhnkpaaGreatRows
import Derived.WalkKit
import Derived.ProofKit
import Derived.Lib.Hide
import Derived.Below
import Derived.Deep.QuietTactic
import Derived.BigQuiet
import Derived.WalkSmall
set_option linter.unusedVariables false
set_option linter.unusedSimpArgs false
set_option linter.unusedSectionVars false
namespace Go.Proofs.YtonndofbnhnkpaaGreat.Num
open Go.RowKit

theorem w32_lo (a : Int) : -2147483648 ≤ wrap32 a := by unfold wrap32; omega
theorem w32_hi (a : Int) : wrap32 a ≤ 2147483647 := by unfold wrap32; omega
theorem w64_32 (a : Int) : wrap64 (wrap32 a) = wrap32 a := by
  have := w32_lo a; have := w32_hi a; unfold wrap64; omega
theorem w32_64 (a : Int) : wrap32 (wrap64 a) = wrap32 a := by unfold wrap32 wrap64; omega
theorem w32_32 (a : Int) : wrap32 (wrap32 a) = wrap32 a := by unfold wrap32; omega
theorem w32_in (a : Int) (h0 : -2147483648 ≤ a) (h1 : a ≤ 2147483647) : wrap32 a = a := by unfold wrap32; omega
theorem w32_bmod (a : Int) : wrap32 a = Int.bmod a 4294967296 := by
  unfold wrap32 Int.bmod
  show _ = if a % 4294967296 < (4294967296 + 1) / 2 then a % 4294967296 else a % 4294967296 - 4294967296
  split <;> omega

def add (a b : Int) : Int := wrap32 (wrap32 a + wrap32 b)
def sub (a b : Int) : Int := wrap32 (wrap32 a - wrap32 b)
def mul (a b : Int) : Int := wrap32 (wrap32 a * wrap32 b)

theorem add_eq (a b : Int) : add a b = wrap32 (a + b) := by unfold add wrap32; omega
theorem sub_eq (a b : Int) : sub a b = wrap32 (a - b) := by unfold sub wrap32; omega
theorem mul_eq (a b : Int) : mul a b = wrap32 (a * b) := by
  unfold mul; simp only [w32_bmod, Int.bmod_mul_bmod, Int.mul_bmod_bmod]
theorem w_add_l (a b : Int) : wrap32 (wrap32 a + b) = wrap32 (a + b) := by unfold wrap32; omega
theorem w_add_r (a b : Int) : wrap32 (a + wrap32 b) = wrap32 (a + b) := by unfold wrap32; omega
theorem w_sub_l (a b : Int) : wrap32 (wrap32 a - b) = wrap32 (a - b) := by unfold wrap32; omega
theorem w_sub_r (a b : Int) : wrap32 (a - wrap32 b) = wrap32 (a - b) := by unfold wrap32; omega
theorem w_mul_l (a b : Int) : wrap32 (wrap32 a * b) = wrap32 (a * b) := by simp only [w32_bmod, Int.bmod_mul_bmod]
theorem w_mul_r (a b : Int) : wrap32 (a * wrap32 b) = wrap32 (a * b) := by simp only [w32_bmod, Int.mul_bmod_bmod]

def divq (a b : Int) : Int := wrap32 ((wrap32 a).tdiv (wrap32 b))
theorem divq_lo (a b : Int) : -2147483648 ≤ divq a b := w32_lo _
theorem divq_hi (a b : Int) : divq a b ≤ 2147483647 := w32_hi _
theorem tdiv_facts (x y : Int) (hy : y ≠ 0) : ∃ r, x.tdiv y * y + r = x ∧ (r = 0 ∨ (r < 0 ∧ x < 0) ∨ (0 < r ∧ 0 < x)) ∧ r < max y (-y) ∧ -r < max y (-y) := by
  refine ⟨x.tmod y, ?_, ?_, ?_, ?_⟩
  · have := Int.mul_tdiv_add_tmod x y; rw [Int.mul_comm]; exact this
  · rcases Int.lt_trichotomy (x.tmod y) 0 with h | h | h
    · refine Or.inr (Or.inl ⟨h, ?_⟩)
      rcases Int.lt_or_le x 0 with h1 | h1
      · exact h1
      · have := Int.tmod_nonneg y h1; omega
    · exact Or.inl h
    · refine Or.inr (Or.inr ⟨h, ?_⟩)
      rcases Int.lt_or_le 0 x with h1 | h1
      · exact h1
      · have := Int.tmod_nonneg y (a := -x) (by omega); rw [Int.neg_tmod] at this; omega
  · have h1 : (x.tmod y).natAbs < y.natAbs := by
      rw [Int.natAbs_tmod]; exact Nat.mod_lt _ (by omega)
    omega
  · have h1 : (x.tmod y).natAbs < y.natAbs := by
      rw [Int.natAbs_tmod]; exact Nat.mod_lt _ (by omega)
    omega
theorem tdiv_abs (x y : Int) : (x.tdiv y).natAbs ≤ x.natAbs := by rw [Int.natAbs_tdiv]; exact Nat.div_le_self _ _
theorem divq_eq (a b : Int) (h : ¬ (wrap32 a = -2147483648 ∧ wrap32 b = -1)) : divq a b = (wrap32 a).tdiv (wrap32 b) := by
  unfold divq
  have h0 := w32_lo a
  have h1 := w32_hi a
  have h2 := tdiv_abs (wrap32 a) (wrap32 b)
  apply w32_in
  · omega
  · by_cases e : (wrap32 a).tdiv (wrap32 b) = 2147483648
    · exfalso
      by_cases hb : wrap32 b = 0
      · rw [hb, Int.tdiv_zero] at e; omega
      obtain ⟨r, h3, h4, h5, h6⟩ := tdiv_facts (wrap32 a) (wrap32 b) hb
      rw [e] at h3
      omega
    · omega

def lessv (a b : Int) : Int := if wrap32 a < wrap32 b then 1 else 0
theorem lessv_self (a : Int) : lessv a a = 0 := by unfold lessv; rw [if_neg (by omega)]
theorem lessv_or (a b : Int) : lessv a b = 0 ∨ lessv a b = 1 := by unfold lessv; split <;> simp
theorem lessv_one (a b : Int) : lessv a b = 1 ↔ wrap32 a < wrap32 b := by unfold lessv; split <;> simp_all
theorem lessv_sum (a b : Int) : lessv a b + lessv b a ≤ 1 := by
  unfold lessv
  by_cases h : wrap32 a < wrap32 b
  · rw [if_pos h, if_neg (by omega)]; omega
  · rw [if_neg h]; split <;> omega
theorem lessv_trans (a b c : Int) (h : lessv a b = 1) (h' : lessv b c = 1) : lessv a c = 1 := by
  rw [lessv_one] at *; omega
theorem lessv_small (x y : Int) (h1 : -2147483648 ≤ x) (h2 : x ≤ 2147483647) (h3 : -2147483648 ≤ y) (h4 : y ≤ 2147483647) : lessv x y = 1 ↔ x < y := by
  rw [lessv_one, w32_in x h1 h2, w32_in y h3 h4]
theorem place_eq (v n : Int) (hn : 0 < n) : (if v.tmod n < 0 then v.tmod n + n else v.tmod n) = v % n := by
  by_cases h : 0 ≤ v
  · rw [Int.tmod_eq_emod_of_nonneg h, if_neg (by have := Int.emod_nonneg v (b := n) (by omega); omega)]
  · have h1 : v.tmod n = -((-v) % n) := by
      have := Int.neg_tmod (-v) n
      rw [Int.neg_neg] at this
      rw [this, Int.tmod_eq_emod_of_nonneg (by omega)]
    have h2 := Int.emod_nonneg (-v) (b := n) (by omega)
    have h3 := Int.emod_lt_of_pos (-v) hn
    have h4 := Int.emod_nonneg v (b := n) (by omega)
    have h5 := Int.emod_lt_of_pos v hn
    have h6 := Int.mul_ediv_add_emod v n
    have h7 := Int.mul_ediv_add_emod (-v) n
    have h8 : ∃ k, v % n + (-v) % n = n * k := ⟨-(v / n) - (-v) / n, by rw [Int.mul_sub, Int.mul_neg]; omega⟩
    obtain ⟨k, hk⟩ := h8
    have hk0 : k = 0 ∨ k = 1 := by
      have : 0 ≤ n * k := by omega
      have : n * k < n * 2 := by omega
      have a1 : k < 2 := Int.lt_of_mul_lt_mul_left this (by omega)
      have a2 : -1 < k := Int.lt_of_mul_lt_mul_left (a := n) (by omega) (by omega)
      omega
    rcases hk0 with rfl | rfl
    · rw [h1, if_neg (by omega)]; omega
    · rw [h1]; split <;> omega

theorem and_mask (x : Int) (j : Nat) (hj : j ≤ 62) : bits .and .i64 x (2 ^ j - 1) = x % 2 ^ j := by
  have hp : (2 : Nat) ^ j ≤ 2 ^ 62 := Nat.pow_le_pow_right (by omega) hj
  have hpos : 0 < (2 : Nat) ^ j := Nat.pow_pos (by omega)
  have hcast : ((2 : Int) ^ j) = ((2 ^ j : Nat) : Int) := by simp
  have h1 : (BitVec.ofInt 64 ((2 : Int) ^ j - 1)).toNat = 2 ^ j - 1 := by
    rw [BitVec.toNat_ofInt, hcast]
    have : (((2 ^ j : Nat) : Int) - 1) % ((2 ^ 64 : Nat) : Int) = ((2 ^ j - 1 : Nat) : Int) := by
      rw [Int.emod_eq_of_lt (by omega) (by omega)]; omega
    rw [this]; rfl
  have h2 : (BitVec.ofInt 64 x).toNat = (x % 18446744073709551616).toNat := by
    rw [BitVec.toNat_ofInt]; rfl
  unfold bits
  show IntKind.i64.wrap ((BitVec.ofInt 64 x &&& BitVec.ofInt 64 ((2 : Int) ^ j - 1)).toNat : Int) = _
  rw [BitVec.toNat_and, h1, h2, Nat.and_two_pow_sub_one_eq_mod]
  have hlt : (x % 18446744073709551616).toNat % 2 ^ j < 2 ^ j := Nat.mod_lt _ hpos
  have hd : ((2 ^ j : Nat) : Int) ∣ 18446744073709551616 := by
    have : (2 : Nat) ^ j ∣ 2 ^ 64 := Nat.pow_dvd_pow 2 (by omega)
    exact Int.natCast_dvd_natCast.2 this
  have hv : (((x % 18446744073709551616).toNat % 2 ^ j : Nat) : Int) = x % 2 ^ j := by
    rw [Int.natCast_emod, Int.toNat_of_nonneg (by omega), hcast, Int.emod_emod_of_dvd _ hd]
  rw [IntKind.wrap_i64, hv]
  have h3 : 0 ≤ x % (2 : Int) ^ j := by rw [hcast]; exact Int.emod_nonneg _ (by omega)
  have h4 : x % (2 : Int) ^ j < 2 ^ j := by rw [hcast]; exact Int.emod_lt_of_pos _ (by omega)
  have h5 : (2 : Int) ^ j ≤ 4611686018427387904 := by rw [hcast]; omega
  omega
theorem and_two32 (x : Int) : bits .and .i64 x 4294967295 = x % 4294967296 := and_mask x 32 (by decide)
theorem and_1023 (x : Int) : bits .and .i64 x 1023 = x % 1024 := and_mask x 10 (by decide)
end Go.Proofs.YtonndofbnhnkpaaGreat.Num
namespace Go.Proofs.YtonndofbnhnkpaaGreat.KeyM

def dg (k : Int) (i : Nat) : Int := k / 2 ^ (40 - 10 * i) % 1024
def d0 (k : Int) : Int := k / 1099511627776 % 1024
def d1 (k : Int) : Int := k / 1073741824 % 1024
def d2 (k : Int) : Int := k / 1048576 % 1024
def d3 (k : Int) : Int := k / 1024 % 1024
def d4 (k : Int) : Int := k % 1024
theorem dg_0 (k : Int) : dg k 0 = d0 k := rfl
theorem dg_1 (k : Int) : dg k 1 = d1 k := rfl
theorem dg_2 (k : Int) : dg k 2 = d2 k := rfl
theorem dg_3 (k : Int) : dg k 3 = d3 k := rfl
theorem dg_4 (k : Int) : dg k 4 = d4 k := by show k / 1 % 1024 = _; rw [Int.ediv_one]; rfl
theorem dg_lo (k : Int) (i : Nat) : 0 ≤ dg k i := Int.emod_nonneg _ (by decide)
theorem dg_hi (k : Int) (i : Nat) : dg k i ≤ 1023 := by have := Int.emod_lt_of_pos (k / 2 ^ (40 - 10 * i)) (b := 1024) (by decide); unfold dg; omega

/-- A key: its digits. -/
structure Ok (k a b c d e : Int) : Prop where
  eq : k = 1125899906842624 + a * 1099511627776 + b * 1073741824 + c * 1048576 + d * 1024 + e
  a0 : 0 ≤ a
  b0 : 0 ≤ b
  c0 : 0 ≤ c
  d0 : 0 ≤ d
  e0 : 0 ≤ e
  a1 : a ≤ 1000
  b1 : b ≤ 1000
  c1 : c ≤ 1000
  d1 : d ≤ 1000
  e1 : e ≤ 1000
  ab : a = 0 → b = 0
  bc : b = 0 → c = 0
  cd : c = 0 → d = 0
  de : d = 0 → e = 0

def chk (k : Int) : Bool := decide (k / 1125899906842624 = 1 ∧ d0 k ≤ 1000 ∧ d1 k ≤ 1000 ∧ d2 k ≤ 1000 ∧ d3 k ≤ 1000 ∧ d4 k ≤ 1000 ∧
  (d0 k = 0 → d1 k = 0) ∧ (d1 k = 0 → d2 k = 0) ∧ (d2 k = 0 → d3 k = 0) ∧ (d3 k = 0 → d4 k = 0))

theorem ok_of_chk {k : Int} (h : chk k = true) : Ok k (d0 k) (d1 k) (d2 k) (d3 k) (d4 k) := by
  unfold chk at h
  have h := of_decide_eq_true h
  obtain ⟨h1, h2, h3, h4, h5, h6, h7, h8, h9, h10⟩ := h
  exact ⟨by unfold d0 d1 d2 d3 d4; omega, by unfold d0; omega, by unfold d1; omega, by unfold d2; omega, by unfold d3; omega, by unfold d4; omega, h2, h3, h4, h5, h6, h7, h8, h9, h10⟩
theorem digits_of_ok {k a b c d e : Int} (h : Ok k a b c d e) : KeyM.d0 k = a ∧ KeyM.d1 k = b ∧ KeyM.d2 k = c ∧ KeyM.d3 k = d ∧ d4 k = e ∧ k / 1125899906842624 = 1 := by
  obtain ⟨h1, h2, h3, h4, h5, h6, h7, h8, h9, h10, h11, h12, h13, h14, h15⟩ := h
  refine ⟨?_, ?_, ?_, ?_, ?_, ?_⟩
  · unfold KeyM.d0; omega
  · unfold KeyM.d1; omega
  · unfold KeyM.d2; omega
  · unfold KeyM.d3; omega
  · unfold d4; omega
  · omega
theorem chk_of_ok {k a b c d e : Int} (h : Ok k a b c d e) : chk k = true := by
  obtain ⟨e0, e1, e2, e3, e4, e5⟩ := digits_of_ok h
  unfold chk
  rw [e0, e1, e2, e3, e4]
  exact decide_eq_true ⟨e5, h.a1, h.b1, h.c1, h.d1, h.e1, h.ab, h.bc, h.cd, h.de⟩

/-- How deep, by the digits. -/
def dp (a b c d e : Int) : Int := if a = 0 then 0 else if b = 0 then 1 else if c = 0 then 2 else if d = 0 then 3 else if e = 0 then 4 else 5
def dep (k : Int) : Int := if chk k = true then dp (d0 k) (d1 k) (d2 k) (d3 k) (d4 k) else 0
theorem dp_lo (a b c d e : Int) : 0 ≤ dp a b c d e := by unfold dp; repeat' split
                                                         all_goals omega
theorem dp_hi (a b c d e : Int) : dp a b c d e ≤ 5 := by unfold dp; repeat' split
                                                         all_goals omega
theorem dep_lo (k : Int) : 0 ≤ dep k := by unfold dep; split; exact dp_lo _ _ _ _ _; omega
theorem dep_hi (k : Int) : dep k ≤ 5 := by unfold dep; split; exact dp_hi _ _ _ _ _; omega
theorem dep_ok {k a b c d e : Int} (h : Ok k a b c d e) : dep k = dp a b c d e := by
  obtain ⟨e0, e1, e2, e3, e4, _⟩ := digits_of_ok h
  unfold dep; rw [if_pos (chk_of_ok h), e0, e1, e2, e3, e4]
theorem dep_none {k : Int} (h : chk k = false) : dep k = 0 := by unfold dep; rw [if_neg (by simp [h])]

/-- The unit of the digit at a depth (from 0 on). -/
def un (j : Int) : Int := if j = 0 then 1099511627776 else if j = 1 then 1073741824 else if j = 2 then 1048576 else if j = 3 then 1024 else 1
theorem un_pow (j : Nat) (hj : j ≤ 4) : (2 : Int) ^ (40 - 10 * j) = un j := by
  rcases j with _ | _ | _ | _ | _ | j
  · decide
  · decide
  · decide
  · decide
  · decide
  · omega
/-- What is above the digits of a depth. -/
def up (j : Int) : Int := if j = 0 then 1125899906842624 else un (j - 1)

def child (k n : Int) : Int := k + n * un (dep k)
def can (k n : Int) : Bool := chk k && decide (dep k ≠ 5 ∧ 1 ≤ n ∧ n ≤ 1000)
/-- The number of the fork that a key is. -/
def num (k : Int) : Int := k / un (dep k - 1) % 1024
def parent (k : Int) : Int := k - num k * un (dep k - 1)

def under (a b : Int) : Bool := chk a && chk b && decide (dep b < dep a ∧ a / up (dep b) = b / up (dep b))
def ahead (a b : Int) : Bool := chk a && chk b && !under b a && (under a b || decide (a < b))

/-- A digit's place in the order: none is behind all. -/
def rd (x : Int) : Int := if x = 0 then 1024 else x
def rank (k : Int) : Int := rd (d0 k) * 17592186044416 + rd (d1 k) * 8589934592 + rd (d2 k) * 4194304 + rd (d3 k) * 2048 + rd (d4 k)
end Go.Proofs.YtonndofbnhnkpaaGreat.KeyM
namespace Go.Proofs.YtonndofbnhnkpaaGreat.KeyM

/-- The six shapes of a key. -/
theorem Ok.shapes {k a b c d e : Int} (h : Ok k a b c d e) :
    (a = 0 ∧ b = 0 ∧ c = 0 ∧ d = 0 ∧ e = 0) ∨ (0 < a ∧ b = 0 ∧ c = 0 ∧ d = 0 ∧ e = 0) ∨ (0 < a ∧ 0 < b ∧ c = 0 ∧ d = 0 ∧ e = 0) ∨
    (0 < a ∧ 0 < b ∧ 0 < c ∧ d = 0 ∧ e = 0) ∨ (0 < a ∧ 0 < b ∧ 0 < c ∧ 0 < d ∧ e = 0) ∨ (0 < a ∧ 0 < b ∧ 0 < c ∧ 0 < d ∧ 0 < e) := by
  have a0 := h.a0
  have b0 := h.b0
  have c0 := h.c0
  have d0 := h.d0
  have e0 := h.e0
  by_cases ha : a = 0
  · have hb := h.ab ha
    have hc := h.bc hb
    have hd := h.cd hc
    exact Or.inl ⟨ha, hb, hc, hd, h.de hd⟩
  by_cases hb : b = 0
  · have hc := h.bc hb
    have hd := h.cd hc
    exact Or.inr (Or.inl ⟨by omega, hb, hc, hd, h.de hd⟩)
  by_cases hc : c = 0
  · have hd := h.cd hc
    exact Or.inr (Or.inr (Or.inl ⟨by omega, by omega, hc, hd, h.de hd⟩))
  by_cases hd : d = 0
  · exact Or.inr (Or.inr (Or.inr (Or.inl ⟨by omega, by omega, by omega, hd, h.de hd⟩)))
  by_cases he : e = 0
  · exact Or.inr (Or.inr (Or.inr (Or.inr (Or.inl ⟨by omega, by omega, by omega, by omega, he⟩))))
  · exact Or.inr (Or.inr (Or.inr (Or.inr (Or.inr ⟨by omega, by omega, by omega, by omega, by omega⟩))))

theorem dp0 : dp 0 0 0 0 0 = 0 := rfl
theorem dp1 {a : Int} (h : 0 < a) : dp a 0 0 0 0 = 1 := by unfold dp; rw [if_neg (by omega), if_pos rfl]
theorem dp2 {a b : Int} (h : 0 < a) (h2 : 0 < b) : dp a b 0 0 0 = 2 := by unfold dp; rw [if_neg (by omega), if_neg (by omega), if_pos rfl]
theorem dp3 {a b c : Int} (h : 0 < a) (h2 : 0 < b) (h3 : 0 < c) : dp a b c 0 0 = 3 := by unfold dp; rw [if_neg (by omega), if_neg (by omega), if_neg (by omega), if_pos rfl]
theorem dp4 {a b c d : Int} (h : 0 < a) (h2 : 0 < b) (h3 : 0 < c) (h4 : 0 < d) : dp a b c d 0 = 4 := by
  unfold dp; rw [if_neg (by omega), if_neg (by omega), if_neg (by omega), if_neg (by omega), if_pos rfl]
theorem dp5 {a b c d e : Int} (h : 0 < a) (h2 : 0 < b) (h3 : 0 < c) (h4 : 0 < d) (h5 : 0 < e) : dp a b c d e = 5 := by
  unfold dp; rw [if_neg (by omega), if_neg (by omega), if_neg (by omega), if_neg (by omega), if_neg (by omega)]

theorem rd0 : rd 0 = 1024 := rfl
theorem rdp {x : Int} (h : 0 < x) : rd x = x := by unfold rd; rw [if_neg (by omega)]

/-- What is above the digits of a depth, of a key. -/
theorem up_ok {k a b c d e : Int} (h : Ok k a b c d e) :
    k / up 0 = 1 ∧ k / up 1 = 1024 + a ∧ k / up 2 = 1048576 + a * 1024 + b ∧ k / up 3 = 1073741824 + a * 1048576 + b * 1024 + c ∧
    k / up 4 = 1099511627776 + a * 1073741824 + b * 1048576 + c * 1024 + d ∧ k / up 5 = k := by
  obtain ⟨h1, h2, h3, h4, h5, h6, h7, h8, h9, h10, h11, h12, h13, h14, h15⟩ := h
  refine ⟨?_, ?_, ?_, ?_, ?_, ?_⟩
  · show k / 1125899906842624 = _; omega
  · show k / 1099511627776 = _; omega
  · show k / 1073741824 = _; omega
  · show k / 1048576 = _; omega
  · show k / 1024 = _; omega
  · show k / 1 = _; exact Int.ediv_one _

theorem rank_ok {k a b c d e : Int} (h : Ok k a b c d e) : rank k = rd a * 17592186044416 + rd b * 8589934592 + rd c * 4194304 + rd d * 2048 + rd e := by
  obtain ⟨e0, e1, e2, e3, e4, _⟩ := digits_of_ok h
  unfold rank; rw [e0, e1, e2, e3, e4]

theorem under_ok {x y a b c d e a' b' c' d' e' : Int} (hx : Ok x a b c d e) (hy : Ok y a' b' c' d' e') :
    under x y = decide (dp a' b' c' d' e' < dp a b c d e ∧ x / up (dp a' b' c' d' e') = y / up (dp a' b' c' d' e')) := by
  unfold under; rw [chk_of_ok hx, chk_of_ok hy, dep_ok hx, dep_ok hy]; rfl

set_option maxHeartbeats 4000000 in
theorem ahead_rank {x y a b c d e a' b' c' d' e' : Int} (hx : Ok x a b c d e) (hy : Ok y a' b' c' d' e') : ahead x y = decide (rank x < rank y) := by
  have hax : ahead x y = (!under y x && (under x y || decide (x < y))) := by unfold ahead; rw [chk_of_ok hx, chk_of_ok hy]; rfl
  rw [hax, under_ok hx hy, under_ok hy hx, rank_ok hx, rank_ok hy]
  obtain ⟨u0, u1, u2, u3, u4, u5⟩ := up_ok hx
  obtain ⟨v0, v1, v2, v3, v4, v5⟩ := up_ok hy
  rw [Bool.eq_iff_iff]
  have sx := hx.shapes
  have sy := hy.shapes
  obtain ⟨h1, h2, h3, h4, h5, h6, h7, h8, h9, h10, h11, _, _, _, _⟩ := hx
  obtain ⟨g1, g2, g3, g4, g5, g6, g7, g8, g9, g10, g11, _, _, _, _⟩ := hy
  rcases sx with ⟨p1, p2, p3, p4, p5⟩ | ⟨p1, p2, p3, p4, p5⟩ | ⟨p1, p2, p3, p4, p5⟩ | ⟨p1, p2, p3, p4, p5⟩ | ⟨p1, p2, p3, p4, p5⟩ | ⟨p1, p2, p3, p4, p5⟩ <;>
  rcases sy with ⟨q1, q2, q3, q4, q5⟩ | ⟨q1, q2, q3, q4, q5⟩ | ⟨q1, q2, q3, q4, q5⟩ | ⟨q1, q2, q3, q4, q5⟩ | ⟨q1, q2, q3, q4, q5⟩ | ⟨q1, q2, q3, q4, q5⟩ <;>
  (simp only [p1, p2, p3, p4, p5, q1, q2, q3, q4, q5, dp0, dp1, dp2, dp3, dp4, dp5, rd0, rdp, u0, u1, u2, u3, u4, u5, v0, v1, v2, v3, v4, v5, Bool.and_eq_true, Bool.or_eq_true, Bool.not_eq_true', decide_eq_true_iff, decide_eq_false_iff_not, and_true]; (try simp only [p1, p2, p3, p4, p5, q1, q2, q3, q4, q5] at h1 g1); omega)
end Go.Proofs.YtonndofbnhnkpaaGreat.KeyM
namespace Go.Proofs.YtonndofbnhnkpaaGreat.KeyM

theorem parent_up {k a b c d e : Int} (h : Ok k a b c d e) :
    (dp a b c d e = 1 → num k = a ∧ parent k = 1125899906842624) ∧
    (dp a b c d e = 2 → num k = b ∧ parent k = 1125899906842624 + a * 1099511627776) ∧
    (dp a b c d e = 3 → num k = c ∧ parent k = 1125899906842624 + a * 1099511627776 + b * 1073741824) ∧
    (dp a b c d e = 4 → num k = d ∧ parent k = 1125899906842624 + a * 1099511627776 + b * 1073741824 + c * 1048576) ∧
    (dp a b c d e = 5 → num k = e ∧ parent k = 1125899906842624 + a * 1099511627776 + b * 1073741824 + c * 1048576 + d * 1024) := by
  obtain ⟨e0, e1, e2, e3, e4, _⟩ := digits_of_ok h
  have hd := dep_ok h
  have sh := h.shapes
  refine ⟨fun g => ?_, fun g => ?_, fun g => ?_, fun g => ?_, fun g => ?_⟩ <;> rw [g] at hd
  · have hn : num k = a := by unfold num; rw [hd]; exact e0
    refine ⟨hn, ?_⟩
    unfold parent; rw [hn, hd]; show k - a * 1099511627776 = _
    rcases sh with ⟨p1, p2, p3, p4, p5⟩ | ⟨p1, p2, p3, p4, p5⟩ | ⟨p1, p2, p3, p4, p5⟩ | ⟨p1, p2, p3, p4, p5⟩ | ⟨p1, p2, p3, p4, p5⟩ | ⟨p1, p2, p3, p4, p5⟩ <;>
    (simp only [p1, p2, p3, p4, p5, dp0, dp1, dp2, dp3, dp4, dp5] at g; have := h.eq; omega)
  · have hn : num k = b := by unfold num; rw [hd]; exact e1
    refine ⟨hn, ?_⟩
    unfold parent; rw [hn, hd]; show k - b * 1073741824 = _
    rcases sh with ⟨p1, p2, p3, p4, p5⟩ | ⟨p1, p2, p3, p4, p5⟩ | ⟨p1, p2, p3, p4, p5⟩ | ⟨p1, p2, p3, p4, p5⟩ | ⟨p1, p2, p3, p4, p5⟩ | ⟨p1, p2, p3, p4, p5⟩ <;>
    (simp only [p1, p2, p3, p4, p5, dp0, dp1, dp2, dp3, dp4, dp5] at g; have := h.eq; omega)
  · have hn : num k = c := by unfold num; rw [hd]; exact e2
    refine ⟨hn, ?_⟩
    unfold parent; rw [hn, hd]; show k - c * 1048576 = _
    rcases sh with ⟨p1, p2, p3, p4, p5⟩ | ⟨p1, p2, p3, p4, p5⟩ | ⟨p1, p2, p3, p4, p5⟩ | ⟨p1, p2, p3, p4, p5⟩ | ⟨p1, p2, p3, p4, p5⟩ | ⟨p1, p2, p3, p4, p5⟩ <;>
    (simp only [p1, p2, p3, p4, p5, dp0, dp1, dp2, dp3, dp4, dp5] at g; have := h.eq; omega)
  · have hn : num k = d := by unfold num; rw [hd]; exact e3
    refine ⟨hn, ?_⟩
    unfold parent; rw [hn, hd]; show k - d * 1024 = _
    rcases sh with ⟨p1, p2, p3, p4, p5⟩ | ⟨p1, p2, p3, p4, p5⟩ | ⟨p1, p2, p3, p4, p5⟩ | ⟨p1, p2, p3, p4, p5⟩ | ⟨p1, p2, p3, p4, p5⟩ | ⟨p1, p2, p3, p4, p5⟩ <;>
    (simp only [p1, p2, p3, p4, p5, dp0, dp1, dp2, dp3, dp4, dp5] at g; have := h.eq; omega)
  · have hn : num k = e := by unfold num; rw [hd]; show k / 1 % 1024 = e; rw [Int.ediv_one]; exact e4
    refine ⟨hn, ?_⟩
    unfold parent; rw [hn, hd]; show k - e * 1 = _
    have := h.eq; omega

/-- The six shapes, with the depth. -/
theorem Ok.by_dep {k a b c d e : Int} (h : Ok k a b c d e) :
    (dp a b c d e = 0 ∧ a = 0 ∧ b = 0 ∧ c = 0 ∧ d = 0 ∧ e = 0) ∨ (dp a b c d e = 1 ∧ 0 < a ∧ b = 0 ∧ c = 0 ∧ d = 0 ∧ e = 0) ∨ (dp a b c d e = 2 ∧ 0 < a ∧ 0 < b ∧ c = 0 ∧ d = 0 ∧ e = 0) ∨
    (dp a b c d e = 3 ∧ 0 < a ∧ 0 < b ∧ 0 < c ∧ d = 0 ∧ e = 0) ∨ (dp a b c d e = 4 ∧ 0 < a ∧ 0 < b ∧ 0 < c ∧ 0 < d ∧ e = 0) ∨ (dp a b c d e = 5 ∧ 0 < a ∧ 0 < b ∧ 0 < c ∧ 0 < d ∧ 0 < e) := by
  rcases h.shapes with ⟨p1, p2, p3, p4, p5⟩ | ⟨p1, p2, p3, p4, p5⟩ | ⟨p1, p2, p3, p4, p5⟩ | ⟨p1, p2, p3, p4, p5⟩ | ⟨p1, p2, p3, p4, p5⟩ | ⟨p1, p2, p3, p4, p5⟩ <;>
  simp [p1, p2, p3, p4, p5, dp0, dp1, dp2, dp3, dp4, dp5]

theorem child_ok {k a b c d e n : Int} (h : Ok k a b c d e) (h0 : 1 ≤ n) (h1 : n ≤ 1000) (h5 : dep k < 5) :
    (dep k = 0 ∧ a = 0 ∧ b = 0 ∧ c = 0 ∧ d = 0 ∧ e = 0 ∧ Ok (child k n) n 0 0 0 0) ∨ (dep k = 1 ∧ 0 < a ∧ b = 0 ∧ c = 0 ∧ d = 0 ∧ e = 0 ∧ Ok (child k n) a n 0 0 0) ∨
    (dep k = 2 ∧ 0 < a ∧ 0 < b ∧ c = 0 ∧ d = 0 ∧ e = 0 ∧ Ok (child k n) a b n 0 0) ∨ (dep k = 3 ∧ 0 < a ∧ 0 < b ∧ 0 < c ∧ d = 0 ∧ e = 0 ∧ Ok (child k n) a b c n 0) ∨
    (dep k = 4 ∧ 0 < a ∧ 0 < b ∧ 0 < c ∧ 0 < d ∧ e = 0 ∧ Ok (child k n) a b c d n) := by
  have hd := dep_ok h
  have hq := h.eq
  rcases h.by_dep with ⟨g, p1, p2, p3, p4, p5⟩ | ⟨g, p1, p2, p3, p4, p5⟩ | ⟨g, p1, p2, p3, p4, p5⟩ | ⟨g, p1, p2, p3, p4, p5⟩ | ⟨g, p1, p2, p3, p4, p5⟩ | ⟨g, p1, p2, p3, p4, p5⟩ <;> rw [g] at hd
  · refine Or.inl ⟨hd, p1, p2, p3, p4, p5, ?_⟩
    have hc : child k n = k + n * 1099511627776 := by unfold child; rw [hd]; rfl
    rw [hc]; constructor <;> omega
  · refine Or.inr (Or.inl ⟨hd, p1, p2, p3, p4, p5, ?_⟩)
    have hc : child k n = k + n * 1073741824 := by unfold child; rw [hd]; rfl
    have := h.a1
    rw [hc]; constructor <;> omega
  · refine Or.inr (Or.inr (Or.inl ⟨hd, p1, p2, p3, p4, p5, ?_⟩))
    have hc : child k n = k + n * 1048576 := by unfold child; rw [hd]; rfl
    have := h.a1
    have := h.b1
    rw [hc]; constructor <;> omega
  · refine Or.inr (Or.inr (Or.inr (Or.inl ⟨hd, p1, p2, p3, p4, p5, ?_⟩)))
    have hc : child k n = k + n * 1024 := by unfold child; rw [hd]; rfl
    have := h.a1
    have := h.b1
    have := h.c1
    rw [hc]; constructor <;> omega
  · refine Or.inr (Or.inr (Or.inr (Or.inr ⟨hd, p1, p2, p3, p4, p5, ?_⟩)))
    have hc : child k n = k + n * 1 := by unfold child; rw [hd]; rfl
    have := h.a1
    have := h.b1
    have := h.c1
    have := h.d1
    rw [hc]; constructor <;> omega
  · omega

/-- What a fork's key is: a key, one deeper, its parent and number, greater, ahead, under; a later fork is behind it. -/
structure Born (k n : Int) : Prop where
  chk : chk (child k n) = true
  dep : dep (child k n) = dep k + 1
  par : parent (child k n) = k
  num : num (child k n) = n
  lt : k < child k n
  rank : rank (child k n) < rank k
  und : under (child k n) k = true
  nund : under k (child k n) = false

theorem born {k n : Int} (hk : KeyM.chk k = true) (h0 : 1 ≤ n) (h1 : n ≤ 1000) (h5 : KeyM.dep k < 5) : Born k n := by
  have h := ok_of_chk hk
  generalize d0 k = a at h
  generalize d1 k = b at h
  generalize d2 k = c at h
  generalize d3 k = d at h
  generalize d4 k = e at h
  have hq := h.eq
  have hdk := dep_ok h
  have hrk := rank_ok h
  obtain ⟨v0, v1, v2, v3, v4, v5⟩ := up_ok h
  have b1 := h.a1
  have b2 := h.b1
  have b3 := h.c1
  have b4 := h.d1
  have b5 := h.e1
  rcases child_ok h h0 h1 h5 with ⟨g, p1, p2, p3, p4, p5, o⟩ | ⟨g, p1, p2, p3, p4, p5, o⟩ | ⟨g, p1, p2, p3, p4, p5, o⟩ | ⟨g, p1, p2, p3, p4, p5, o⟩ | ⟨g, p1, p2, p3, p4, p5, o⟩
  all_goals
    have hn : 0 < n := by omega
    have hdc := dep_ok o
    have hrc := rank_ok o
    have hoq := o.eq
    obtain ⟨u0, u1, u2, u3, u4, u5⟩ := up_ok o
    have hun := under_ok o h
    have hun' := under_ok h o
    obtain ⟨m1, m2, m3, m4, m5⟩ := parent_up o
    simp only [p1, p2, p3, p4, p5, hn, dp0, dp1, dp2, dp3, dp4, dp5, rd0, rdp, u0, u1, u2, u3, u4, v0, v1, v2, v3, v4, true_implies, and_true] at hdk hdc hrk hrc hun hun' m1 m2 m3 m4 m5
    simp only [p1, p2, p3, p4, p5] at hq hoq
    constructor
    · exact chk_of_ok o
    · omega
    · omega
    · omega
    · omega
    · omega
    · rw [hun]; exact decide_eq_true (by omega)
    · rw [hun']; exact decide_eq_false (by omega)

theorem rank_later {k n m : Int} (hk : KeyM.chk k = true) (h0 : 1 ≤ n) (hm : n < m) (h1 : m ≤ 1000) (h5 : dep k < 5) : rank (child k n) < rank (child k m) := by
  have h := ok_of_chk hk
  generalize d0 k = a at h
  generalize d1 k = b at h
  generalize d2 k = c at h
  generalize d3 k = d at h
  generalize d4 k = e at h
  have hn : 0 < n := by omega
  have hm' : 0 < m := by omega
  rcases child_ok h h0 (by omega) h5 with ⟨g, p1, p2, p3, p4, p5, o⟩ | ⟨g, p1, p2, p3, p4, p5, o⟩ | ⟨g, p1, p2, p3, p4, p5, o⟩ | ⟨g, p1, p2, p3, p4, p5, o⟩ | ⟨g, p1, p2, p3, p4, p5, o⟩ <;>
  rcases child_ok (n := m) h (by omega) h1 h5 with ⟨g', _, _, _, _, _, o'⟩ | ⟨g', _, _, _, _, _, o'⟩ | ⟨g', _, _, _, _, _, o'⟩ | ⟨g', _, _, _, _, _, o'⟩ | ⟨g', _, _, _, _, _, o'⟩ <;>
  first
    | omega
    | (rw [rank_ok o, rank_ok o']; simp only [p1, p2, p3, p4, hn, hm', rd0, rdp]; omega)

theorem rank_inj {x y : Int} (hx : KeyM.chk x = true) (hy : KeyM.chk y = true) (h : rank x = rank y) : x = y := by
  have ox := ok_of_chk hx
  have oy := ok_of_chk hy
  have hq := ox.eq
  have hq' := oy.eq
  have l1 := ox.a0; have l2 := ox.b0; have l3 := ox.c0; have l4 := ox.d0; have l5 := ox.e0
  have l1' := ox.a1; have l2' := ox.b1; have l3' := ox.c1; have l4' := ox.d1; have l5' := ox.e1
  have m1 := oy.a0; have m2 := oy.b0; have m3 := oy.c0; have m4 := oy.d0; have m5 := oy.e0
  have m1' := oy.a1; have m2' := oy.b1; have m3' := oy.c1; have m4' := oy.d1; have m5' := oy.e1
  have key : ∀ u v : Int, 0 ≤ u → u ≤ 1000 → 0 ≤ v → v ≤ 1000 → rd u = rd v → u = v := by
    intro u v _ _ _ _ e; unfold rd at e; split at e <;> split at e <;> omega
  have rb : ∀ u : Int, 0 ≤ u → u ≤ 1000 → 1 ≤ rd u ∧ rd u ≤ 1024 := by
    intro u _ _; unfold rd; split <;> omega
  unfold rank at h
  have r1 := rb _ l1 l1'; have r2 := rb _ l2 l2'; have r3 := rb _ l3 l3'; have r4 := rb _ l4 l4'; have r5 := rb _ l5 l5'
  have s1 := rb _ m1 m1'; have s2 := rb _ m2 m2'; have s3 := rb _ m3 m3'; have s4 := rb _ m4 m4'; have s5 := rb _ m5 m5'
  have e1 := key _ _ l1 l1' m1 m1' (by omega)
  have e2 := key _ _ l2 l2' m2 m2' (by omega)
  have e3 := key _ _ l3 l3' m3 m3' (by omega)
  have e4 := key _ _ l4 l4' m4 m4' (by omega)
  have e5 := key _ _ l5 l5' m5 m5' (by omega)
  omega

theorem ahead_of {x y : Int} (hx : KeyM.chk x = true) (hy : KeyM.chk y = true) : ahead x y = decide (rank x < rank y) := ahead_rank (ok_of_chk hx) (ok_of_chk hy)
theorem ahead_none_l {x y : Int} (hx : KeyM.chk x = false) : ahead x y = false := by unfold ahead; rw [hx]; rfl
theorem ahead_none_r {x y : Int} (hy : KeyM.chk y = false) : ahead x y = false := by unfold ahead; rw [hy]; simp
end Go.Proofs.YtonndofbnhnkpaaGreat.KeyM
namespace Go.Proofs.YtonndofbnhnkpaaGreat.KeyW
open Go.RowKit Num KeyM

/-- At most new blocks. -/
def Bl (w w' : World) : Prop := Below w.heap.size w w'
theorem Bl.refl (w : World) : Bl w w := Below.refl _ _
theorem Bl.drewN {w w' : World} (h : Bl w w') (n : Nat) : Bl w (w'.drewN n) := below_drewN h n
theorem Bl.alloc {w w' : World} (h : Bl w w') (o : Obj) : Bl w (w'.alloc o) := Below.alloc h h.size o
theorem Bl.trans {a b c : World} (h : Bl a b) (k : Bl b c) : Bl a c := Below.trans h (Below.mono k h.size)

theorem ret_i {a b : Int} (h : a = b) : Ending.returned (.int .i64 a) = .returned (.int .i64 b) := by rw [h]
theorem ret_b {a b : Bool} (h : a = b) : Ending.returned (.bool a) = .returned (.bool b) := by rw [h]

theorem quiet_add_same {P : Program} {f : FuncId} {args : Array Value} {w : World} {a n : Nat} {v : Value}
    (h : Calls P f args (w.drewN (a + n)) fun e w' => e = .returned v ∧ w' = w.drewN (a + n)) :
    Calls P f args (w.drewN (a + n)) fun e w'' => e = .returned v ∧ ∃ m, w'' = w.drewN (a + m) :=
  h.mono fun _ _ ⟨he, hm⟩ => ⟨he, n, hm⟩

/-- The digit at a depth. -/
def dgi (k j : Int) : Int := if j = 0 then d0 k else if j = 1 then d1 k else if j = 2 then d2 k else if j = 3 then d3 k else d4 k

theorem place_any (j : Int) (w : World) (h0 : -1 ≤ j) (h4 : j ≤ 4) :
    Calls Tryz.prog 106 #[.int .i64 j] w fun e w' => e = .returned (.int .i64 (40 - 10 * j)) ∧ w' = w := by
  go_enter Tryz.func106, Tryz.ntmps106
  go_wp2
  go_ret
  exact ⟨ret_i (by omega), rfl⟩

theorem digit_any (k j : Int) (p : Addr) (w : World) (h0 : 0 ≤ j) (h4 : j ≤ 4) (hc : w.cell? p = some (.int .i64 k)) :
    Calls Tryz.prog 115 #[.int .i64 j, .pointer (some p)] w fun e w' => e = .returned (.int .i64 (dgi k j)) ∧ ∃ n, w' = w.drewN n := by
  obtain rfl | rfl | rfl | rfl | rfl : j = 0 ∨ j = 1 ∨ j = 2 ∨ j = 3 ∨ j = 4 := by omega
  all_goals
    have hm := fun x => and_1023 x
    go_enter Tryz.func115, Tryz.ntmps115
    go_wp2
    go_quiet ((go_at_call 106; exact Calls.quiet_of_same (place_any _ _ (by decide) (by decide))))
    go_wp2
    go_ret
    exact ⟨ret_i (by simp [dgi, d0, d1, d2, d3, d4]), _, rfl⟩
theorem digits_any (k : Int) (w : World) :
    Calls Tryz.prog 105 #[.int .i64 k] w fun e w' => e = .returned (.func (.func 115) #[] #[.pointer (some ⟨w.heap.size, 0, none⟩)]) ∧ w.alloc (.cells #[.int .i64 k] 3) = w' := by
  go_enter Tryz.func105, Tryz.ntmps105
  go_wp2
  go_ret
  exact ⟨rfl, rfl⟩

def Pass (k : Int) (j : Int) : Prop := ∀ i, 0 ≤ i → i < j → dgi k i ≤ 1000 ∧ (0 < i → dgi k (i - 1) = 0 → dgi k i = 0)
theorem pass_zero (k : Int) : Pass k 0 := fun i h0 h1 => by omega
theorem pass_step {k j : Int} (h : Pass k j) (h1 : dgi k j ≤ 1000) (h2 : 0 < j → dgi k (j - 1) = 0 → dgi k j = 0) : Pass k (j + 1) := by
  intro i hi0 hi1
  by_cases e : i = j
  · subst e; exact ⟨h1, h2⟩
  · exact h i hi0 (by omega)
theorem chk_pass (k : Int) : chk k = true ↔ (Pass k 5 ∧ k / 1125899906842624 = 1) := by
  unfold chk
  rw [decide_eq_true_iff]
  constructor
  · rintro ⟨h1, h2, h3, h4, h5, h6, h7, h8, h9, h10⟩
    refine ⟨?_, h1⟩
    refine pass_step (j := 4) (pass_step (j := 3) (pass_step (j := 2) (pass_step (j := 1) (pass_step (j := 0) (pass_zero k) h2 (by omega)) h3 (fun _ => h7)) h4 (fun _ => h8)) h5 (fun _ => h9)) h6 (fun _ => h10)
  · rintro ⟨h, h1⟩
    exact ⟨h1, (h 0 (by decide) (by decide)).1, (h 1 (by decide) (by decide)).1, (h 2 (by decide) (by decide)).1, (h 3 (by decide) (by decide)).1, (h 4 (by decide) (by decide)).1,
      (h 1 (by decide) (by decide)).2 (by decide), (h 2 (by decide) (by decide)).2 (by decide), (h 3 (by decide) (by decide)).2 (by decide), (h 4 (by decide) (by decide)).2 (by decide)⟩
theorem chk_not_pass {k j : Int} (h0 : 0 ≤ j) (h4 : j < 5) (h : ¬ (dgi k j ≤ 1000 ∧ (0 < j → dgi k (j - 1) = 0 → dgi k j = 0))) : chk k = false := by
  cases hc : chk k
  · rfl
  · exact absurd (((chk_pass k).1 hc).1 j h0 h4) h
theorem dgi_lo (k j : Int) : 0 ≤ dgi k j := by
  unfold dgi d0 d1 d2 d3 d4; repeat' split
  all_goals omega

theorem end_next (k : Int) (j : Nat) : (dgi k j == 0) = decide (0 < ((j + 1 : Nat) : Int) ∧ dgi k (((j + 1 : Nat) : Int) - 1) = 0) := by
  have h1 : (((j + 1 : Nat) : Int) - 1) = j := by omega
  have h2 : 0 < ((j + 1 : Nat) : Int) := by omega
  rw [h1, Bool.eq_iff_iff, beq_iff_eq, decide_eq_true_iff]
  exact ⟨fun h => ⟨h2, h⟩, fun h => h.2⟩

set_option maxHeartbeats 1000000 in
theorem check_any (k : Int) (w : World) :
    Calls Tryz.prog 104 #[.int .i64 k] w fun e w' => e = .returned (.bool (chk k)) ∧ Bl w w' := by
  go_enter Tryz.func104, Tryz.ntmps104
  go_wp2_with (go_at_call 105; refine (digits_any _ _).mono ?_; rintro e w' ⟨rfl, rfl⟩)
  go_loopw [9, 4] (fun c e wr => ∃ (j : Nat) (b : Bool), j ≤ 5 ∧ c = .int .i64 j ∧ e = .bool b ∧ Hid (b = decide ((0 : Int) < (j : Int) ∧ dgi k ((j : Int) - 1) = 0)) ∧ Hid (Pass k j) ∧ ∃ n, wr = (w.alloc (.cells #[.int .i64 k] 3)).drewN n) (fun c _ _ => 5 - (intOf c).toNat)
  case atStart => exact ⟨0, false, by omega, rfl, rfl, rfl, pass_zero k, 0, rfl⟩
  case round =>
    obtain ⟨j, b, hj, rfl, rfl, hb, hp, n, rfl⟩ := hrel
    by_cases hlt : j < 5
    · have l0 := dgi_lo k j
      have HB := chk_not_pass (k := k) (j := j) (by omega) (by omega)
      have HS := pass_step hp.out
      cases b
      · by_cases g : dgi k j ≤ 1000
        · have HR : Hid ((dgi k j == 0) = decide (0 < ((j + 1 : Nat) : Int) ∧ dgi k (((j + 1 : Nat) : Int) - 1) = 0)) := end_next k j
          have HP : Hid (Pass k ((j + 1 : Nat) : Int)) := by
            have h := hb.out
            have := HS g (fun a b => by simp [b] at h; omega)
            exact this
          clear HB HS hb hp
          go_wp2_with (go_at_call 115; refine (digit_any k _ _ _ (by omega) (by omega) (by simp)).mono ?_; rintro e w' ⟨rfl, m, rfl⟩)
          go_roundw
          case rel => exact ⟨j + 1, dgi k j == 0, by omega, by go_num, rfl, HR, HP, _, rfl⟩
          case measure => simp [intOf]; omega
        · have HC : Hid (chk k = false) := HB (fun h => g h.1)
          clear HB HS hb hp
          go_wp2_with (go_at_call 115; refine (digit_any k _ _ _ (by omega) (by omega) (by simp)).mono ?_; rintro e w' ⟨rfl, m, rfl⟩)
          go_ret
          exact ⟨ret_b HC.out.symm, by repeat (first | exact Bl.refl _ | apply Bl.drewN | apply Bl.alloc)⟩
      · by_cases g : dgi k j = 0
        · have HR : Hid ((dgi k j == 0) = decide (0 < ((j + 1 : Nat) : Int) ∧ dgi k (((j + 1 : Nat) : Int) - 1) = 0)) := end_next k j
          have HP : Hid (Pass k ((j + 1 : Nat) : Int)) := HS (by omega) (fun _ _ => g)
          have g1 : ¬ 1000 < dgi k j := by omega
          have g2 : ¬ 0 < dgi k j := by omega
          clear HB HS hb hp g
          go_wp2_with (go_at_call 115; refine (digit_any k _ _ _ (by omega) (by omega) (by simp)).mono ?_; rintro e w' ⟨rfl, m, rfl⟩)
          go_roundw
          case rel => exact ⟨j + 1, dgi k j == 0, by omega, by go_num, rfl, HR, HP, _, rfl⟩
          case measure => simp [intOf]; omega
        · have HC : Hid (chk k = false) := HB (fun h => by
            have h1 := hb.out
            simp at h1
            exact g (h.2 (by omega) h1.2))
          have g2 : 0 < dgi k j := by omega
          clear HB HS hb hp
          by_cases g1 : 1000 < dgi k j
          all_goals
            go_wp2_with (go_at_call 115; refine (digit_any k _ _ _ (by omega) (by omega) (by simp)).mono ?_; rintro e w' ⟨rfl, m, rfl⟩)
            go_ret
            exact ⟨ret_b HC.out.symm, by repeat (first | exact Bl.refl _ | apply Bl.drewN | apply Bl.alloc)⟩
    · obtain rfl : j = 5 := by omega
      have HC : Hid (chk k = (k / 1125899906842624 == 1)) := by
        have h := chk_pass k
        have h5 : Pass k 5 := hp.out
        show chk k = _
        rw [Bool.eq_iff_iff, h, beq_iff_eq]
        exact ⟨fun h => h.2, fun h => ⟨h5, h⟩⟩
      clear hb hp
      go_wp2_with fail
      go_quiet ((go_at_call 106; first | exact quiet_add_same (place_any _ _ (by decide) (by decide)) | exact Calls.quiet_of_same (place_any _ _ (by decide) (by decide))))
      go_wp2
      go_ret
      exact ⟨ret_b HC.out.symm, by repeat (first | exact Bl.refl _ | apply Bl.drewN | apply Bl.alloc)⟩
theorem dgi_pos {k j : Int} (hk : chk k = true) (h0 : 0 ≤ j) (h4 : j < 5) : 0 < dgi k j ↔ j < dep k := by
  have h := ok_of_chk hk
  have hd := dep_ok h
  obtain rfl | rfl | rfl | rfl | rfl : j = 0 ∨ j = 1 ∨ j = 2 ∨ j = 3 ∨ j = 4 := by omega
  all_goals
    rcases h.by_dep with ⟨g, p1, p2, p3, p4, p5⟩ | ⟨g, p1, p2, p3, p4, p5⟩ | ⟨g, p1, p2, p3, p4, p5⟩ | ⟨g, p1, p2, p3, p4, p5⟩ | ⟨g, p1, p2, p3, p4, p5⟩ | ⟨g, p1, p2, p3, p4, p5⟩
    all_goals
      rw [g] at hd
      simp only [dgi]
      simp
      omega

set_option maxHeartbeats 1000000 in
theorem depth_any (k : Int) (w : World) :
    Calls Tryz.prog 80 #[.int .i64 k] w fun e w' => e = .returned (.int .i64 (dep k)) ∧ Bl w w' := by
  cases hk : chk k
  · have HD : Hid (dep k = 0) := dep_none hk
    go_enter Tryz.func80, Tryz.ntmps80
    go_wp2_with (go_at_call 104; refine (check_any _ _).mono ?_; rintro e w1 ⟨rfl, hb1⟩)
    go_ret
    exact ⟨ret_i HD.out.symm, ‹_›⟩
  · have hpos := fun (j : Nat) (h : j < 5) => dgi_pos (j := j) hk (by omega) (by omega)
    have h5 := dep_hi k
    have h0 := dep_lo k
    have HP := Lib.hid hpos
    clear hpos
    go_enter Tryz.func80, Tryz.ntmps80
    go_wp2_with (first | (go_at_call 104; refine (check_any _ _).mono ?_; rintro e w1 ⟨rfl, hb1⟩) | (go_at_call 105; refine (digits_any _ _).mono ?_; rintro e w' ⟨rfl, rfl⟩))
    go_loopw [4] (fun c wr => ∃ j : Nat, (j : Int) ≤ dep k ∧ c = .int .i64 j ∧ ∃ n, wr = (w1.alloc (.cells #[.int .i64 k] 3)).drewN n) (fun c _ => 5 - (intOf c).toNat)
    case atStart => exact ⟨0, h0, rfl, 0, rfl⟩
    case round =>
      obtain ⟨j, hj, rfl, n, rfl⟩ := hrel
      by_cases hlt : j < 5
      · have hp := HP.out j hlt
        by_cases hd : (j : Int) < dep k
        · have hg : 0 < dgi k j := hp.2 hd
          clear hp
          go_wp2_with (go_at_call 115; refine (digit_any k _ _ _ (by omega) (by omega) (by simp)).mono ?_; rintro e w' ⟨rfl, m, rfl⟩)
          go_roundw
          case rel => exact ⟨j + 1, by omega, by go_num, _, rfl⟩
          case measure => simp [intOf]; omega
        · have hg : ¬ 0 < dgi k j := fun h => hd (hp.1 h)
          have HE : Hid ((j : Int) = dep k) := by show _ = _; omega
          clear hp
          go_wp2_with (go_at_call 115; refine (digit_any k _ _ _ (by omega) (by omega) (by simp)).mono ?_; rintro e w' ⟨rfl, m, rfl⟩)
          go_ret
          exact ⟨ret_i HE.out, hb1.trans (by repeat (first | exact Bl.refl _ | apply Bl.drewN | apply Bl.alloc))⟩
      · have HE : Hid ((j : Int) = dep k) := by show _ = _; omega
        go_wp2_with fail
        go_ret
        exact ⟨ret_i HE.out, hb1.trans (by repeat (first | exact Bl.refl _ | apply Bl.drewN | apply Bl.alloc))⟩
end Go.Proofs.YtonndofbnhnkpaaGreat.KeyW
namespace Go.Proofs.YtonndofbnhnkpaaGreat.KeyW
open Go.RowKit Num KeyM

theorem chk_lo {k : Int} (h : chk k = true) : 1125899906842624 ≤ k := by have o := ok_of_chk h; have := o.eq; have := o.a0; have := o.b0; have := o.c0; have := o.d0; have := o.e0; omega
theorem chk_hi {k : Int} (h : chk k = true) : k < 2251799813685248 := by
  have o := ok_of_chk h; have := o.eq; have := o.a1; have := o.b1; have := o.c1; have := o.d1; have := o.e1; omega
theorem ret_ib {a b : Int} {c : Bool} (h : a = b) : Ending.returned (.tuple #[.int .i64 a, .bool c]) = .returned (.tuple #[.int .i64 b, .bool c]) := by rw [h]
theorem ret_iib {a b a' b' : Int} {c : Bool} (h : a = b) (h' : a' = b') : Ending.returned (.tuple #[.int .i64 a, .int .i64 a', .bool c]) = .returned (.tuple #[.int .i64 b, .int .i64 b', .bool c]) := by rw [h, h']

set_option maxHeartbeats 1000000 in
theorem child_yes (k n : Int) (w : World) (hk : chk k = true) (hd : dep k < 5) (h1 : 1 ≤ n) (h2 : n ≤ 1000) :
    Calls Tryz.prog 81 #[.int .i64 k, .int .i64 n] w fun e w' => e = .returned (.tuple #[.int .i64 (child k n), .bool true]) ∧ Bl w w' := by
  have h0 := dep_lo k
  have k1 := chk_lo hk
  have k2 := chk_hi hk
  obtain hj | hj | hj | hj | hj : dep k = 0 ∨ dep k = 1 ∨ dep k = 2 ∨ dep k = 3 ∨ dep k = 4 := by omega
  all_goals
    have hD := fun w => depth_any k w
    have hC := fun w => check_any k w
    have HE : Hid (child k n = k + n * un (dep k)) := rfl
    rw [hj] at hD HE
    rw [hk] at hC
    clear hj hk hd h0
    go_enter Tryz.func81, Tryz.ntmps81
    go_wp2_with (first | (go_at_call 80; refine (hD _).mono ?_; rintro e w1 ⟨rfl, hb1⟩) | (go_at_call 104; refine (hC _).mono ?_; rintro e w2 ⟨rfl, hb2⟩) | (go_at_call 106; refine (place_any _ _ (by omega) (by omega)).mono ?_; rintro e w3 ⟨rfl, rfl⟩))
    go_ret2
    exact ⟨ret_ib (by rw [HE.out]; simp [un]), Bl.trans hb1 hb2⟩

set_option maxHeartbeats 1000000 in
theorem child_no (k n : Int) (w : World) (h : can k n = false) :
    Calls Tryz.prog 81 #[.int .i64 k, .int .i64 n] w fun e w' => e = .returned (.tuple #[.int .i64 0, .bool false]) ∧ Bl w w' := by
  have hD := fun w => depth_any k w
  have hC := fun w => check_any k w
  cases hk : chk k
  · rw [hk] at hC
    have h0 := dep_none hk
    rw [h0] at hD
    clear hk h0 h
    go_enter Tryz.func81, Tryz.ntmps81
    go_wp2_with (first | (go_at_call 80; refine (hD _).mono ?_; rintro e w1 ⟨rfl, hb1⟩) | (go_at_call 104; refine (hC _).mono ?_; rintro e w2 ⟨rfl, hb2⟩))
    go_ret2
    exact ⟨rfl, Bl.trans hb1 hb2⟩
  · rw [hk] at hC
    have h' : ¬ (dep k ≠ 5 ∧ 1 ≤ n ∧ n ≤ 1000) := by
      unfold can at h; rw [hk] at h; simpa using h
    have l1 := dep_lo k
    have l2 := dep_hi k
    by_cases h5 : dep k = 5
    · rw [h5] at hD
      clear h h' h5 hk
      go_enter Tryz.func81, Tryz.ntmps81
      go_wp2_with (first | (go_at_call 80; refine (hD _).mono ?_; rintro e w1 ⟨rfl, hb1⟩) | (go_at_call 104; refine (hC _).mono ?_; rintro e w2 ⟨rfl, hb2⟩))
      go_ret2
      exact ⟨rfl, Bl.trans hb1 hb2⟩
    · have hz : (dep k == 5) = false := by simpa using h5
      by_cases g : n < 1
      all_goals
        have g' : n < 1 ∨ 1000 < n := by omega
        clear h h' hk
        go_enter Tryz.func81, Tryz.ntmps81
        go_wp2_with (first | (go_at_call 80; refine (hD _).mono ?_; rintro e w1 ⟨rfl, hb1⟩) | (go_at_call 104; refine (hC _).mono ?_; rintro e w2 ⟨rfl, hb2⟩))
        go_ret2
        exact ⟨rfl, Bl.trans hb1 hb2⟩

end Go.Proofs.YtonndofbnhnkpaaGreat.KeyW
