/- The awake of the statements of package vm. -/
import Derived.Test.YtonndofbnhnkpaaGreatVmN
import Derived.Test.YtonndofbnhnkpaaGreatVmB
set_option linter.unusedVariables false
set_option linter.unusedSimpArgs false
set_option linter.unusedSectionVars false
namespace Go.Proofs.YtonndofbnhnkpaaGreat.VmA
open Go.RowKit Num KeyM KeyW StatW Blk
theorem CodeAt.bl {K : Nat} {w w' : World} {pa : Option Addr} {fs : List (List Ins)} (h : CodeAt K w pa fs) (hc : Bl w w') : CodeAt K w' pa fs :=
  h.later (S := fun _ => False) (Ch.of_bl hc) (fun _ _ h => h)
theorem CodeAt.on {K B : Nat} {w w' : World} {pa : Option Addr} {fs : List (List Ins)} (h : CodeAt K w pa fs) (hc : Ch (· = B) w w') (hB : K ≤ B) : CodeAt K w' pa fs :=
  h.later hc (fun i hi (e : i = B) => by omega)
/-- A task that begins. -/
def tk0 (pa : Option Addr) (pl pc : Nat) (futs depth fuel fn arg key : Int) : Tk := ⟨pa, pl, pc, futs, depth, fuel, fn, 0, fuel, 0, key, fun j => if j = 0 then wrap32 arg else 0, fun _ => Hd.zero, 0, 0⟩
end Go.Proofs.YtonndofbnhnkpaaGreat.VmA
