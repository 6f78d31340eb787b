/- Keys by numbers, in plain Lean: the key of forks one below the other. -/
import Derived.Test.YtonndofbnhnkpaaKeyP
namespace Go.Proofs.Ytonndofbnhnkpaa.KeyM
def mkI (zs : List Int) : Nat → Int
  | 0 => 1125899906842624
  | i + 1 => child (mkI zs i) (1 + zs.getD i 0 % 1000)
theorem root_ok : chk 1125899906842624 = true ∧ dep 1125899906842624 = 0 := by decide +kernel
theorem mkI_ok (zs : List Int) (i : Nat) (h : i ≤ 5) : chk (mkI zs i) = true ∧ dep (mkI zs i) = i := by
  induction i with
  | zero => exact root_ok
  | succ i ih =>
    obtain ⟨h1, h2⟩ := ih (by omega)
    have := Int.emod_nonneg (zs.getD i 0) (b := 1000) (by decide)
    have := Int.emod_lt_of_pos (zs.getD i 0) (b := 1000) (by decide)
    have hb := born (n := 1 + zs.getD i 0 % 1000) h1 (by omega) (by omega) (by omega)
    exact ⟨hb.chk, by show dep (child _ _) = _; rw [hb.dep, h2]; rfl⟩
end Go.Proofs.Ytonndofbnhnkpaa.KeyM
