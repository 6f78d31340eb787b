/- Keys, in plain Lean: a key is 2^50 and five digits of ten bits; which numbers are keys, how deep, who is under whom, who is ahead: an order by rank. -/
import Derived.RowKit
namespace Go.Proofs.Ytonndofbnhnkpaa.KeyM

def dg (k : Int) (i : Nat) : Int := k / 2 ^ (40 - 10 * i) % 1024
def d0 (k : Int) : Int := k / 1099511627776 % 1024
def d1 (k : Int) : Int := k / 1073741824 % 1024
def d2 (k : Int) : Int := k / 1048576 % 1024
def d3 (k : Int) : Int := k / 1024 % 1024
def d4 (k : Int) : Int := k % 1024
theorem dg_0 (k : Int) : dg k 0 = d0 k := rfl
theorem dg_1 (k : Int) : dg k 1 = d1 k := rfl
theorem dg_2 (k : Int) : dg k 2 = d2 k := rfl
theorem dg_3 (k : Int) : dg k 3 = d3 k := rfl
theorem dg_4 (k : Int) : dg k 4 = d4 k := by show k / 1 % 1024 = _; rw [Int.ediv_one]; rfl
theorem dg_lo (k : Int) (i : Nat) : 0 ≤ dg k i := Int.emod_nonneg _ (by decide)
theorem dg_hi (k : Int) (i : Nat) : dg k i ≤ 1023 := by have := Int.emod_lt_of_pos (k / 2 ^ (40 - 10 * i)) (b := 1024) (by decide); unfold dg; omega

/-- A key: its digits. -/
structure Ok (k a b c d e : Int) : Prop where
  eq : k = 1125899906842624 + a * 1099511627776 + b * 1073741824 + c * 1048576 + d * 1024 + e
  a0 : 0 ≤ a
  b0 : 0 ≤ b
  c0 : 0 ≤ c
  d0 : 0 ≤ d
  e0 : 0 ≤ e
  a1 : a ≤ 1000
  b1 : b ≤ 1000
  c1 : c ≤ 1000
  d1 : d ≤ 1000
  e1 : e ≤ 1000
  ab : a = 0 → b = 0
  bc : b = 0 → c = 0
  cd : c = 0 → d = 0
  de : d = 0 → e = 0

def chk (k : Int) : Bool := decide (k / 1125899906842624 = 1 ∧ d0 k ≤ 1000 ∧ d1 k ≤ 1000 ∧ d2 k ≤ 1000 ∧ d3 k ≤ 1000 ∧ d4 k ≤ 1000 ∧
  (d0 k = 0 → d1 k = 0) ∧ (d1 k = 0 → d2 k = 0) ∧ (d2 k = 0 → d3 k = 0) ∧ (d3 k = 0 → d4 k = 0))

theorem ok_of_chk {k : Int} (h : chk k = true) : Ok k (d0 k) (d1 k) (d2 k) (d3 k) (d4 k) := by
  unfold chk at h
  have h := of_decide_eq_true h
  obtain ⟨h1, h2, h3, h4, h5, h6, h7, h8, h9, h10⟩ := h
  exact ⟨by unfold d0 d1 d2 d3 d4; omega, by unfold d0; omega, by unfold d1; omega, by unfold d2; omega, by unfold d3; omega, by unfold d4; omega, h2, h3, h4, h5, h6, h7, h8, h9, h10⟩
theorem digits_of_ok {k a b c d e : Int} (h : Ok k a b c d e) : KeyM.d0 k = a ∧ KeyM.d1 k = b ∧ KeyM.d2 k = c ∧ KeyM.d3 k = d ∧ d4 k = e ∧ k / 1125899906842624 = 1 := by
  obtain ⟨h1, h2, h3, h4, h5, h6, h7, h8, h9, h10, h11, h12, h13, h14, h15⟩ := h
  refine ⟨?_, ?_, ?_, ?_, ?_, ?_⟩
  · unfold KeyM.d0; omega
  · unfold KeyM.d1; omega
  · unfold KeyM.d2; omega
  · unfold KeyM.d3; omega
  · unfold d4; omega
  · omega
theorem chk_of_ok {k a b c d e : Int} (h : Ok k a b c d e) : chk k = true := by
  obtain ⟨e0, e1, e2, e3, e4, e5⟩ := digits_of_ok h
  unfold chk
  rw [e0, e1, e2, e3, e4]
  exact decide_eq_true ⟨e5, h.a1, h.b1, h.c1, h.d1, h.e1, h.ab, h.bc, h.cd, h.de⟩

/-- How deep, by the digits. -/
def dp (a b c d e : Int) : Int := if a = 0 then 0 else if b = 0 then 1 else if c = 0 then 2 else if d = 0 then 3 else if e = 0 then 4 else 5
def dep (k : Int) : Int := if chk k = true then dp (d0 k) (d1 k) (d2 k) (d3 k) (d4 k) else 0
theorem dp_lo (a b c d e : Int) : 0 ≤ dp a b c d e := by unfold dp; repeat' split
                                                         all_goals omega
theorem dp_hi (a b c d e : Int) : dp a b c d e ≤ 5 := by unfold dp; repeat' split
                                                         all_goals omega
theorem dep_lo (k : Int) : 0 ≤ dep k := by unfold dep; split; exact dp_lo _ _ _ _ _; omega
theorem dep_hi (k : Int) : dep k ≤ 5 := by unfold dep; split; exact dp_hi _ _ _ _ _; omega
theorem dep_ok {k a b c d e : Int} (h : Ok k a b c d e) : dep k = dp a b c d e := by
  obtain ⟨e0, e1, e2, e3, e4, _⟩ := digits_of_ok h
  unfold dep; rw [if_pos (chk_of_ok h), e0, e1, e2, e3, e4]
theorem dep_none {k : Int} (h : chk k = false) : dep k = 0 := by unfold dep; rw [if_neg (by simp [h])]

/-- The unit of the digit at a depth (from 0 on). -/
def un (j : Int) : Int := if j = 0 then 1099511627776 else if j = 1 then 1073741824 else if j = 2 then 1048576 else if j = 3 then 1024 else 1
theorem un_pow (j : Nat) (hj : j ≤ 4) : (2 : Int) ^ (40 - 10 * j) = un j := by
  rcases j with _ | _ | _ | _ | _ | j
  · decide
  · decide
  · decide
  · decide
  · decide
  · omega
/-- What is above the digits of a depth. -/
def up (j : Int) : Int := if j = 0 then 1125899906842624 else un (j - 1)

def child (k n : Int) : Int := k + n * un (dep k)
def can (k n : Int) : Bool := chk k && decide (dep k ≠ 5 ∧ 1 ≤ n ∧ n ≤ 1000)
/-- The number of the fork that a key is. -/
def num (k : Int) : Int := k / un (dep k - 1) % 1024
def parent (k : Int) : Int := k - num k * un (dep k - 1)

def under (a b : Int) : Bool := chk a && chk b && decide (dep b < dep a ∧ a / up (dep b) = b / up (dep b))
def ahead (a b : Int) : Bool := chk a && chk b && !under b a && (under a b || decide (a < b))

/-- A digit's place in the order: none is behind all. -/
def rd (x : Int) : Int := if x = 0 then 1024 else x
def rank (k : Int) : Int := rd (d0 k) * 17592186044416 + rd (d1 k) * 8589934592 + rd (d2 k) * 4194304 + rd (d3 k) * 2048 + rd (d4 k)
end Go.Proofs.Ytonndofbnhnkpaa.KeyM
