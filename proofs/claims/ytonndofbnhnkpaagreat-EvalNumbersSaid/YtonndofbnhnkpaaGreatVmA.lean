/- Tasks of package vm: what their blocks hold; the small contracts. -/
import Derived.Test.YtonndofbnhnkpaaGreatStatB
import Derived.Test.YtonndofbnhnkpaaGreatVal
import Derived.StillTailTactics
set_option linter.unusedVariables false
set_option linter.unusedSimpArgs false
set_option linter.unusedSectionVars false
namespace Go.Proofs.YtonndofbnhnkpaaGreat.VmA
open Go.RowKit Num KeyM KeyW StatW Blk
structure Hd where
  kind : Int
  handle : Int
  how : Int
  val : Int
def Hd.zero : Hd := ⟨0, 0, 0, 0⟩
structure Tk where
  pa : Option Addr
  pl : Nat
  pc : Nat
  futs : Int
  depth : Int
  pfuel : Int
  fn : Int
  place : Int
  fuel : Int
  forks : Int
  key : Int
  regs : Nat → Int
  hands : Nat → Hd
  how : Int
  val : Int
def hdN (h : Hd) (f : Nat) : Int := if f = 0 then h.kind else if f = 1 then h.handle else if f = 2 then h.how else h.val
def tkN (t : Tk) (j : Nat) : Int :=
  if j = 1 then t.futs else if j = 2 then t.depth else if j = 3 then t.pfuel else if j = 4 then t.fn else if j = 5 then t.place else if j = 6 then t.fuel else if j = 7 then t.forks else if j = 8 then t.key
  else if j < 17 then t.regs (j - 9) else if j < 33 then hdN (t.hands ((j - 17) / 4)) ((j - 17) % 4) else if j = 33 then t.how else t.val
def tkF (t : Tk) (j : Nat) : Value := if j = 0 then .slice t.pa t.pl t.pc else .int .i64 (tkN t j)
def endB (t : Tk) : Bool := !(t.how == 0 && t.val == 0)
def Tk.stop (t : Tk) (how : Int) : Tk := if endB t then t else { t with how := how, val := 0 }
def Tk.setReg (t : Tk) (i : Nat) (v : Int) : Tk := { t with regs := fun j => if j = i then v else t.regs j }
def Tk.setHand (t : Tk) (i : Nat) (h : Hd) : Tk := { t with hands := fun j => if j = i then h else t.hands j }
theorem all_lt {P : Nat → Prop} {n : Nat} (h : ∀ j, j < n → P j) (hn : P n) : ∀ j, j < n + 1 → P j := fun j hj => by
  rcases Nat.lt_or_eq_of_le (Nat.le_of_lt_succ hj) with g | g
  · exact h j g
  · rw [g]; exact hn
theorem all_none {P : Nat → Prop} : ∀ j, j < 0 → P j := fun j hj => absurd hj (Nat.not_lt_zero j)
set_option maxRecDepth 100000 in
def hdV (h : Hd) : Value := .agg #[.int .i64 h.kind, .int .i64 h.handle, .int .i64 h.how, .int .i64 h.val]
end Go.Proofs.YtonndofbnhnkpaaGreat.VmA
