/- The contract of the laws' Place. -/
import Derived.Test.YtonndofbnhnkpaaKeyW
namespace Go.Proofs.Ytonndofbnhnkpaa.Plc
open Go.RowKit Num KeyM KeyW
theorem tmod_emod (v n : Int) (h : 0 < n) : v % n = if v.tmod n < 0 then v.tmod n + n else v.tmod n := by
  have h1 := Int.emod_nonneg v (b := n) (by omega)
  have h2 := Int.emod_lt_of_pos v h
  rw [Int.tmod_eq_emod]
  by_cases g : 0 ≤ v ∨ n ∣ v
  · rw [if_pos g]; rw [if_neg (by omega)]; omega
  · rw [if_neg g]
    have : (n.natAbs : Int) = n := by omega
    rw [this, if_pos (by omega)]; omega
set_option maxHeartbeats 1000000 in
theorem place_any (v n : Int) (w : World) (hv : (Lit.int .i64 v).wf = true) (h0 : 0 < n) (hn : n ≤ 1000000000000000) :
    Calls Try.prog 26 #[.int .i64 v, .int .i64 n] w fun e w' => e = .returned (.int .i64 (v % n)) ∧ w = w' := by
  have hk := tmod_emod v n h0
  have h1 := Int.emod_nonneg v (b := n) (by omega)
  have h2 := Int.emod_lt_of_pos v h0
  go_enter Try.func26, Try.ntmps26
  go_wp2_with fail
  all_goals (go_ret; exact ⟨ret_i (by omega), rfl⟩)
end Go.Proofs.Ytonndofbnhnkpaa.Plc
