/-
  No cell of these rows narrows 'for every input' (looked for: loops, veiled, ifaces, maps, wideKeys, modest, calm, conditions, laid).
  DERIVED. THE GIVEN ROWS OF THIS SEAT. 15 by the template 'for every input the law returns true; each argument reads behind the call as it read before'; 0 by the template 'total and deterministic' (their statements: YtonndofbnhnkpaaTotals.lean).
  GIVEN WITH THE SEED: the statements are not yours to turn. If you find one false, say at which input.
  Laid BY PROGRAM, IN A SANDBOX (cutbox-rows.mjs): the forced cells as the released guide's own fill.sh prints them over the translation 4979ea37d87409a9… (all of the seat's roots in one cut). By AI agents, Wed Nov 11 2026. No macro, syntax, notation, axiom, sorry.
-/
import Derived.Test.YtonndofbnhnkpaaChecked
import GoSem.Claim
import GoSem.ClaimJoined
import GoSem.ClaimMapViews
import Derived.JoinedTies
import Derived.KernelRfl
namespace Go.Proofs.Ytonndofbnhnkpaa
/- THE CELL 'sum', in the pinned program and in every row, IS THE sha256 OF THE DUMP (.gsa) THAT YtonndofbnhnkpaaProg.lean LOADS. Nothing in Lean hashes anything: it is a label: what it is worth is what the hold of that sum in a sandbox is worth. -/
noncomputable def Try.pinned : Pinned := { name := "ytonndofbnhnkpaa", sum := "4979ea37d87409a972633acb4b65a844261bad3015de186df42d5b476d24bc7e", checked := Try.checked }
namespace Rows
def none {H : Type} : Left H := { results := [], args := [] }

/-- 'magpielaw27.StatsAll': WHATEVER THE INPUT: true; the input reads as it did. -/
def statsAllSpec : ChangeSpec := { name := "statsAll", fn := fun _ => fun
  | [d] => { results := [.lit (.bool true)], args := [d] }
  | _ => none }
def statsAllRow : OpenClaim := { program := "ytonndofbnhnkpaa", sum := "4979ea37d87409a972633acb4b65a844261bad3015de186df42d5b476d24bc7e", func := "magpie/magpielaw27.StatsAll", spec := "statsAll", unfollowed := true, recurses := true, apart := false }
def StatsAllSaid : Prop := statsAllRow.holds Try.pinned (OpenSpec.ofChange statsAllSpec)

/-- ITS FALSE NEIGHBOUR: 'it returns false'. Refute it at one input. -/
def statsAllWrong : ChangeSpec := { name := "statsAll", fn := fun _ => fun
  | [d] => { results := [.lit (.bool false)], args := [d] }
  | _ => none }
def StatsAllWrongFalsely : Prop := statsAllRow.holds Try.pinned (OpenSpec.ofChange statsAllWrong)

/-- 'magpielaw27.StatsParts': WHATEVER THE INPUT: true; the input reads as it did. -/
def statsPartsSpec : ChangeSpec := { name := "statsParts", fn := fun _ => fun
  | [d1, d2] => { results := [.lit (.bool true)], args := [d1, d2] }
  | _ => none }
def statsPartsRow : OpenClaim := { program := "ytonndofbnhnkpaa", sum := "4979ea37d87409a972633acb4b65a844261bad3015de186df42d5b476d24bc7e", func := "magpie/magpielaw27.StatsParts", spec := "statsParts", unfollowed := true, recurses := true, apart := false }
def StatsPartsSaid : Prop := statsPartsRow.holds Try.pinned (OpenSpec.ofChange statsPartsSpec)

/-- ITS FALSE NEIGHBOUR: 'it returns false'. Refute it at one input. -/
def statsPartsWrong : ChangeSpec := { name := "statsParts", fn := fun _ => fun
  | [d1, d2] => { results := [.lit (.bool false)], args := [d1, d2] }
  | _ => none }
def StatsPartsWrongFalsely : Prop := statsPartsRow.holds Try.pinned (OpenSpec.ofChange statsPartsWrong)

/-- 'magpielaw27.StatsOrders': WHATEVER THE INPUT: true; the input reads as it did. -/
def statsOrdersSpec : ChangeSpec := { name := "statsOrders", fn := fun _ => fun
  | [d1, d2] => { results := [.lit (.bool true)], args := [d1, d2] }
  | _ => none }
def statsOrdersRow : OpenClaim := { program := "ytonndofbnhnkpaa", sum := "4979ea37d87409a972633acb4b65a844261bad3015de186df42d5b476d24bc7e", func := "magpie/magpielaw27.StatsOrders", spec := "statsOrders", unfollowed := true, recurses := true, apart := false }
def StatsOrdersSaid : Prop := statsOrdersRow.holds Try.pinned (OpenSpec.ofChange statsOrdersSpec)

/-- ITS FALSE NEIGHBOUR: 'it returns false'. Refute it at one input. -/
def statsOrdersWrong : ChangeSpec := { name := "statsOrders", fn := fun _ => fun
  | [d1, d2] => { results := [.lit (.bool false)], args := [d1, d2] }
  | _ => none }
def StatsOrdersWrongFalsely : Prop := statsOrdersRow.holds Try.pinned (OpenSpec.ofChange statsOrdersWrong)

/-- 'magpielaw27.StatsEnds': WHATEVER THE INPUT: true; the input reads as it did. -/
def statsEndsSpec : ChangeSpec := { name := "statsEnds", fn := fun _ => fun
  | [d] => { results := [.lit (.bool true)], args := [d] }
  | _ => none }
def statsEndsRow : OpenClaim := { program := "ytonndofbnhnkpaa", sum := "4979ea37d87409a972633acb4b65a844261bad3015de186df42d5b476d24bc7e", func := "magpie/magpielaw27.StatsEnds", spec := "statsEnds", unfollowed := true, recurses := true, apart := false }
def StatsEndsSaid : Prop := statsEndsRow.holds Try.pinned (OpenSpec.ofChange statsEndsSpec)

/-- ITS FALSE NEIGHBOUR: 'it returns false'. Refute it at one input. -/
def statsEndsWrong : ChangeSpec := { name := "statsEnds", fn := fun _ => fun
  | [d] => { results := [.lit (.bool false)], args := [d] }
  | _ => none }
def StatsEndsWrongFalsely : Prop := statsEndsRow.holds Try.pinned (OpenSpec.ofChange statsEndsWrong)

/-- 'magpielaw20.VmJumps': WHATEVER THE INPUT: true; the input reads as it did. -/
def vmJumpsSpec : ChangeSpec := { name := "vmJumps", fn := fun _ => fun
  | [d] => { results := [.lit (.bool true)], args := [d] }
  | _ => none }
def vmJumpsRow : OpenClaim := { program := "ytonndofbnhnkpaa", sum := "4979ea37d87409a972633acb4b65a844261bad3015de186df42d5b476d24bc7e", func := "magpie/magpielaw20.VmJumps", spec := "vmJumps", unfollowed := true, recurses := true, apart := false }
def VmJumpsSaid : Prop := vmJumpsRow.holds Try.pinned (OpenSpec.ofChange vmJumpsSpec)

/-- ITS FALSE NEIGHBOUR: 'it returns false'. Refute it at one input. -/
def vmJumpsWrong : ChangeSpec := { name := "vmJumps", fn := fun _ => fun
  | [d] => { results := [.lit (.bool false)], args := [d] }
  | _ => none }
def VmJumpsWrongFalsely : Prop := vmJumpsRow.holds Try.pinned (OpenSpec.ofChange vmJumpsWrong)

/-- 'magpielaw20.VmFuel': WHATEVER THE INPUT: true; the input reads as it did. -/
def vmFuelSpec : ChangeSpec := { name := "vmFuel", fn := fun _ => fun
  | [d1, d2, d3] => { results := [.lit (.bool true)], args := [d1, d2, d3] }
  | _ => none }
def vmFuelRow : OpenClaim := { program := "ytonndofbnhnkpaa", sum := "4979ea37d87409a972633acb4b65a844261bad3015de186df42d5b476d24bc7e", func := "magpie/magpielaw20.VmFuel", spec := "vmFuel", unfollowed := true, recurses := true, apart := false }
def VmFuelSaid : Prop := vmFuelRow.holds Try.pinned (OpenSpec.ofChange vmFuelSpec)

/-- ITS FALSE NEIGHBOUR: 'it returns false'. Refute it at one input. -/
def vmFuelWrong : ChangeSpec := { name := "vmFuel", fn := fun _ => fun
  | [d1, d2, d3] => { results := [.lit (.bool false)], args := [d1, d2, d3] }
  | _ => none }
def VmFuelWrongFalsely : Prop := vmFuelRow.holds Try.pinned (OpenSpec.ofChange vmFuelWrong)

/-- 'magpielaw20.VmEvals': WHATEVER THE INPUT: true; the input reads as it did. -/
def vmEvalsSpec : ChangeSpec := { name := "vmEvals", fn := fun _ => fun
  | [d1, d2] => { results := [.lit (.bool true)], args := [d1, d2] }
  | _ => none }
def vmEvalsRow : OpenClaim := { program := "ytonndofbnhnkpaa", sum := "4979ea37d87409a972633acb4b65a844261bad3015de186df42d5b476d24bc7e", func := "magpie/magpielaw20.VmEvals", spec := "vmEvals", unfollowed := true, recurses := true, apart := false }
def VmEvalsSaid : Prop := vmEvalsRow.holds Try.pinned (OpenSpec.ofChange vmEvalsSpec)

/-- ITS FALSE NEIGHBOUR: 'it returns false'. Refute it at one input. -/
def vmEvalsWrong : ChangeSpec := { name := "vmEvals", fn := fun _ => fun
  | [d1, d2] => { results := [.lit (.bool false)], args := [d1, d2] }
  | _ => none }
def VmEvalsWrongFalsely : Prop := vmEvalsRow.holds Try.pinned (OpenSpec.ofChange vmEvalsWrong)

/-- 'magpielaw07.EvalTrees': WHATEVER THE INPUT: true; the input reads as it did. -/
def evalTreesSpec : ChangeSpec := { name := "evalTrees", fn := fun _ => fun
  | [d1, d2, d3, d4] => { results := [.lit (.bool true)], args := [d1, d2, d3, d4] }
  | _ => none }
def evalTreesRow : OpenClaim := { program := "ytonndofbnhnkpaa", sum := "4979ea37d87409a972633acb4b65a844261bad3015de186df42d5b476d24bc7e", func := "magpie/magpielaw07.EvalTrees", spec := "evalTrees", unfollowed := true, recurses := true, apart := false }
def EvalTreesSaid : Prop := evalTreesRow.holds Try.pinned (OpenSpec.ofChange evalTreesSpec)

/-- ITS FALSE NEIGHBOUR: 'it returns false'. Refute it at one input. -/
def evalTreesWrong : ChangeSpec := { name := "evalTrees", fn := fun _ => fun
  | [d1, d2, d3, d4] => { results := [.lit (.bool false)], args := [d1, d2, d3, d4] }
  | _ => none }
def EvalTreesWrongFalsely : Prop := evalTreesRow.holds Try.pinned (OpenSpec.ofChange evalTreesWrong)

/-- 'magpielaw07.EvalFuel': WHATEVER THE INPUT: true; the input reads as it did. -/
def evalFuelSpec : ChangeSpec := { name := "evalFuel", fn := fun _ => fun
  | [d1, d2] => { results := [.lit (.bool true)], args := [d1, d2] }
  | _ => none }
def evalFuelRow : OpenClaim := { program := "ytonndofbnhnkpaa", sum := "4979ea37d87409a972633acb4b65a844261bad3015de186df42d5b476d24bc7e", func := "magpie/magpielaw07.EvalFuel", spec := "evalFuel", unfollowed := true, recurses := true, apart := false }
def EvalFuelSaid : Prop := evalFuelRow.holds Try.pinned (OpenSpec.ofChange evalFuelSpec)

/-- ITS FALSE NEIGHBOUR: 'it returns false'. Refute it at one input. -/
def evalFuelWrong : ChangeSpec := { name := "evalFuel", fn := fun _ => fun
  | [d1, d2] => { results := [.lit (.bool false)], args := [d1, d2] }
  | _ => none }
def EvalFuelWrongFalsely : Prop := evalFuelRow.holds Try.pinned (OpenSpec.ofChange evalFuelWrong)

/-- 'magpielaw07.EvalErrors': WHATEVER THE INPUT: true; the input reads as it did. -/
def evalErrorsSpec : ChangeSpec := { name := "evalErrors", fn := fun _ => fun
  | [d1, d2] => { results := [.lit (.bool true)], args := [d1, d2] }
  | _ => none }
def evalErrorsRow : OpenClaim := { program := "ytonndofbnhnkpaa", sum := "4979ea37d87409a972633acb4b65a844261bad3015de186df42d5b476d24bc7e", func := "magpie/magpielaw07.EvalErrors", spec := "evalErrors", unfollowed := true, recurses := true, apart := false }
def EvalErrorsSaid : Prop := evalErrorsRow.holds Try.pinned (OpenSpec.ofChange evalErrorsSpec)

/-- ITS FALSE NEIGHBOUR: 'it returns false'. Refute it at one input. -/
def evalErrorsWrong : ChangeSpec := { name := "evalErrors", fn := fun _ => fun
  | [d1, d2] => { results := [.lit (.bool false)], args := [d1, d2] }
  | _ => none }
def EvalErrorsWrongFalsely : Prop := evalErrorsRow.holds Try.pinned (OpenSpec.ofChange evalErrorsWrong)

/-- 'magpielaw07.EvalJoins': WHATEVER THE INPUT: true; the input reads as it did. -/
def evalJoinsSpec : ChangeSpec := { name := "evalJoins", fn := fun _ => fun
  | [d1, d2, d3] => { results := [.lit (.bool true)], args := [d1, d2, d3] }
  | _ => none }
def evalJoinsRow : OpenClaim := { program := "ytonndofbnhnkpaa", sum := "4979ea37d87409a972633acb4b65a844261bad3015de186df42d5b476d24bc7e", func := "magpie/magpielaw07.EvalJoins", spec := "evalJoins", unfollowed := true, recurses := true, apart := false }
def EvalJoinsSaid : Prop := evalJoinsRow.holds Try.pinned (OpenSpec.ofChange evalJoinsSpec)

/-- ITS FALSE NEIGHBOUR: 'it returns false'. Refute it at one input. -/
def evalJoinsWrong : ChangeSpec := { name := "evalJoins", fn := fun _ => fun
  | [d1, d2, d3] => { results := [.lit (.bool false)], args := [d1, d2, d3] }
  | _ => none }
def EvalJoinsWrongFalsely : Prop := evalJoinsRow.holds Try.pinned (OpenSpec.ofChange evalJoinsWrong)

/-- 'magpielaw07.EvalRuns': WHATEVER THE INPUT: true; the input reads as it did. -/
def evalRunsSpec : ChangeSpec := { name := "evalRuns", fn := fun _ => fun
  | [d1, d2, d3] => { results := [.lit (.bool true)], args := [d1, d2, d3] }
  | _ => none }
def evalRunsRow : OpenClaim := { program := "ytonndofbnhnkpaa", sum := "4979ea37d87409a972633acb4b65a844261bad3015de186df42d5b476d24bc7e", func := "magpie/magpielaw07.EvalRuns", spec := "evalRuns", unfollowed := true, recurses := true, apart := false }
def EvalRunsSaid : Prop := evalRunsRow.holds Try.pinned (OpenSpec.ofChange evalRunsSpec)

/-- ITS FALSE NEIGHBOUR: 'it returns false'. Refute it at one input. -/
def evalRunsWrong : ChangeSpec := { name := "evalRuns", fn := fun _ => fun
  | [d1, d2, d3] => { results := [.lit (.bool false)], args := [d1, d2, d3] }
  | _ => none }
def EvalRunsWrongFalsely : Prop := evalRunsRow.holds Try.pinned (OpenSpec.ofChange evalRunsWrong)

/-- 'magpielaw04.AsmLines': WHATEVER THE INPUT: true; the input reads as it did. -/
def asmLinesSpec : ChangeSpec := { name := "asmLines", fn := fun _ => fun
  | [d1, d2, d3] => { results := [.lit (.bool true)], args := [d1, d2, d3] }
  | _ => none }
def asmLinesRow : OpenClaim := { program := "ytonndofbnhnkpaa", sum := "4979ea37d87409a972633acb4b65a844261bad3015de186df42d5b476d24bc7e", func := "magpie/magpielaw04.AsmLines", spec := "asmLines", recurses := true, apart := false }
def AsmLinesSaid : Prop := asmLinesRow.holds Try.pinned (OpenSpec.ofChange asmLinesSpec)

/-- ITS FALSE NEIGHBOUR: 'it returns false'. Refute it at one input. -/
def asmLinesWrong : ChangeSpec := { name := "asmLines", fn := fun _ => fun
  | [d1, d2, d3] => { results := [.lit (.bool false)], args := [d1, d2, d3] }
  | _ => none }
def AsmLinesWrongFalsely : Prop := asmLinesRow.holds Try.pinned (OpenSpec.ofChange asmLinesWrong)

/-- 'magpielaw04.AsmHeads': WHATEVER THE INPUT: true; the input reads as it did. -/
def asmHeadsSpec : ChangeSpec := { name := "asmHeads", fn := fun _ => fun
  | [d1, d2, d3, d4] => { results := [.lit (.bool true)], args := [d1, d2, d3, d4] }
  | _ => none }
def asmHeadsRow : OpenClaim := { program := "ytonndofbnhnkpaa", sum := "4979ea37d87409a972633acb4b65a844261bad3015de186df42d5b476d24bc7e", func := "magpie/magpielaw04.AsmHeads", spec := "asmHeads", recurses := true, apart := false }
def AsmHeadsSaid : Prop := asmHeadsRow.holds Try.pinned (OpenSpec.ofChange asmHeadsSpec)

/-- ITS FALSE NEIGHBOUR: 'it returns false'. Refute it at one input. -/
def asmHeadsWrong : ChangeSpec := { name := "asmHeads", fn := fun _ => fun
  | [d1, d2, d3, d4] => { results := [.lit (.bool false)], args := [d1, d2, d3, d4] }
  | _ => none }
def AsmHeadsWrongFalsely : Prop := asmHeadsRow.holds Try.pinned (OpenSpec.ofChange asmHeadsWrong)

/-- 'magpielaw04.AsmShapes': WHATEVER THE INPUT: true; the input reads as it did. -/
def asmShapesSpec : ChangeSpec := { name := "asmShapes", fn := fun _ => fun
  | [d1, d2] => { results := [.lit (.bool true)], args := [d1, d2] }
  | _ => none }
def asmShapesRow : OpenClaim := { program := "ytonndofbnhnkpaa", sum := "4979ea37d87409a972633acb4b65a844261bad3015de186df42d5b476d24bc7e", func := "magpie/magpielaw04.AsmShapes", spec := "asmShapes", apart := false }
def AsmShapesSaid : Prop := asmShapesRow.holds Try.pinned (OpenSpec.ofChange asmShapesSpec)

/-- ITS FALSE NEIGHBOUR: 'it returns false'. Refute it at one input. -/
def asmShapesWrong : ChangeSpec := { name := "asmShapes", fn := fun _ => fun
  | [d1, d2] => { results := [.lit (.bool false)], args := [d1, d2] }
  | _ => none }
def AsmShapesWrongFalsely : Prop := asmShapesRow.holds Try.pinned (OpenSpec.ofChange asmShapesWrong)

/- THE SECOND FORM. 'bulk': how many values and letters a reading holds, each counted each time it is reached (what is shared counts as often as it is met; a slice's spare places count too). A statement '..UptoSaid' is the law's where the arguments, and the package variables that the reading takes, are together of bulk at most 1048576: NARROWER than '..Said'. Prove '..Said' where nothing that the law and all that it calls make is longer than what came in: it says more and counts as full. Else prove '..UptoSaid'. A law counts once. -/
mutual
def uptoBulk {H : Type} : DataW H → Nat
  | .lit (.string bytes) => bytes.length + 1
  | .lit _ => 1
  | .nil => 1
  | .ptr d => uptoBulk d + 1
  | .slice elems spare => uptoBulkAll elems + uptoBulkAll spare + 1
  | .agg parts => uptoBulkAll parts + 1
  | .iface _ d => uptoBulk d + 1
  | .map entries => uptoBulkEntries entries + 1
  | .held _ => 1
def uptoBulkAll {H : Type} : List (DataW H) → Nat
  | [] => 0
  | d :: r => uptoBulk d + uptoBulkAll r
def uptoBulkEntries {H : Type} : List (Lit × DataW H) → Nat
  | [] => 0
  | x :: r => uptoBulkEntry x + uptoBulkEntries r
def uptoBulkEntry {H : Type} : Lit × DataW H → Nat
  | (.string bytes, d) => bytes.length + uptoBulk d + 1
  | (_, d) => uptoBulk d + 1
 end
def uptoSmall : (H : Type) → List (DataW H) → Bool := fun _ ds => decide (uptoBulkAll ds ≤ 1048576)
def OpenSpec.upto (s : _root_.Go.ChangeSpec) : _root_.Go.OpenSpec := { _root_.Go.OpenSpec.ofChange s with cond := some uptoSmall }

/-- 'magpielaw27.StatsAll', WHERE WHAT IT READS IS OF BULK AT MOST 1048576: true; the input reads as it did. -/
def statsAllUptoRow : OpenClaim := { program := "ytonndofbnhnkpaa", sum := "4979ea37d87409a972633acb4b65a844261bad3015de186df42d5b476d24bc7e", func := "magpie/magpielaw27.StatsAll", spec := "statsAll", unfollowed := true, recurses := true, apart := false, narrowed := true }
def StatsAllUptoSaid : Prop := statsAllUptoRow.holds Try.pinned (OpenSpec.upto statsAllSpec)

/-- 'magpielaw27.StatsParts', WHERE WHAT IT READS IS OF BULK AT MOST 1048576: true; the input reads as it did. -/
def statsPartsUptoRow : OpenClaim := { program := "ytonndofbnhnkpaa", sum := "4979ea37d87409a972633acb4b65a844261bad3015de186df42d5b476d24bc7e", func := "magpie/magpielaw27.StatsParts", spec := "statsParts", unfollowed := true, recurses := true, apart := false, narrowed := true }
def StatsPartsUptoSaid : Prop := statsPartsUptoRow.holds Try.pinned (OpenSpec.upto statsPartsSpec)

/-- 'magpielaw27.StatsOrders', WHERE WHAT IT READS IS OF BULK AT MOST 1048576: true; the input reads as it did. -/
def statsOrdersUptoRow : OpenClaim := { program := "ytonndofbnhnkpaa", sum := "4979ea37d87409a972633acb4b65a844261bad3015de186df42d5b476d24bc7e", func := "magpie/magpielaw27.StatsOrders", spec := "statsOrders", unfollowed := true, recurses := true, apart := false, narrowed := true }
def StatsOrdersUptoSaid : Prop := statsOrdersUptoRow.holds Try.pinned (OpenSpec.upto statsOrdersSpec)

/-- 'magpielaw27.StatsEnds', WHERE WHAT IT READS IS OF BULK AT MOST 1048576: true; the input reads as it did. -/
def statsEndsUptoRow : OpenClaim := { program := "ytonndofbnhnkpaa", sum := "4979ea37d87409a972633acb4b65a844261bad3015de186df42d5b476d24bc7e", func := "magpie/magpielaw27.StatsEnds", spec := "statsEnds", unfollowed := true, recurses := true, apart := false, narrowed := true }
def StatsEndsUptoSaid : Prop := statsEndsUptoRow.holds Try.pinned (OpenSpec.upto statsEndsSpec)

/-- 'magpielaw20.VmJumps', WHERE WHAT IT READS IS OF BULK AT MOST 1048576: true; the input reads as it did. -/
def vmJumpsUptoRow : OpenClaim := { program := "ytonndofbnhnkpaa", sum := "4979ea37d87409a972633acb4b65a844261bad3015de186df42d5b476d24bc7e", func := "magpie/magpielaw20.VmJumps", spec := "vmJumps", unfollowed := true, recurses := true, apart := false, narrowed := true }
def VmJumpsUptoSaid : Prop := vmJumpsUptoRow.holds Try.pinned (OpenSpec.upto vmJumpsSpec)

/-- 'magpielaw20.VmFuel', WHERE WHAT IT READS IS OF BULK AT MOST 1048576: true; the input reads as it did. -/
def vmFuelUptoRow : OpenClaim := { program := "ytonndofbnhnkpaa", sum := "4979ea37d87409a972633acb4b65a844261bad3015de186df42d5b476d24bc7e", func := "magpie/magpielaw20.VmFuel", spec := "vmFuel", unfollowed := true, recurses := true, apart := false, narrowed := true }
def VmFuelUptoSaid : Prop := vmFuelUptoRow.holds Try.pinned (OpenSpec.upto vmFuelSpec)

/-- 'magpielaw20.VmEvals', WHERE WHAT IT READS IS OF BULK AT MOST 1048576: true; the input reads as it did. -/
def vmEvalsUptoRow : OpenClaim := { program := "ytonndofbnhnkpaa", sum := "4979ea37d87409a972633acb4b65a844261bad3015de186df42d5b476d24bc7e", func := "magpie/magpielaw20.VmEvals", spec := "vmEvals", unfollowed := true, recurses := true, apart := false, narrowed := true }
def VmEvalsUptoSaid : Prop := vmEvalsUptoRow.holds Try.pinned (OpenSpec.upto vmEvalsSpec)

/-- 'magpielaw07.EvalTrees', WHERE WHAT IT READS IS OF BULK AT MOST 1048576: true; the input reads as it did. -/
def evalTreesUptoRow : OpenClaim := { program := "ytonndofbnhnkpaa", sum := "4979ea37d87409a972633acb4b65a844261bad3015de186df42d5b476d24bc7e", func := "magpie/magpielaw07.EvalTrees", spec := "evalTrees", unfollowed := true, recurses := true, apart := false, narrowed := true }
def EvalTreesUptoSaid : Prop := evalTreesUptoRow.holds Try.pinned (OpenSpec.upto evalTreesSpec)

/-- 'magpielaw07.EvalFuel', WHERE WHAT IT READS IS OF BULK AT MOST 1048576: true; the input reads as it did. -/
def evalFuelUptoRow : OpenClaim := { program := "ytonndofbnhnkpaa", sum := "4979ea37d87409a972633acb4b65a844261bad3015de186df42d5b476d24bc7e", func := "magpie/magpielaw07.EvalFuel", spec := "evalFuel", unfollowed := true, recurses := true, apart := false, narrowed := true }
def EvalFuelUptoSaid : Prop := evalFuelUptoRow.holds Try.pinned (OpenSpec.upto evalFuelSpec)

/-- 'magpielaw07.EvalErrors', WHERE WHAT IT READS IS OF BULK AT MOST 1048576: true; the input reads as it did. -/
def evalErrorsUptoRow : OpenClaim := { program := "ytonndofbnhnkpaa", sum := "4979ea37d87409a972633acb4b65a844261bad3015de186df42d5b476d24bc7e", func := "magpie/magpielaw07.EvalErrors", spec := "evalErrors", unfollowed := true, recurses := true, apart := false, narrowed := true }
def EvalErrorsUptoSaid : Prop := evalErrorsUptoRow.holds Try.pinned (OpenSpec.upto evalErrorsSpec)

/-- 'magpielaw07.EvalJoins', WHERE WHAT IT READS IS OF BULK AT MOST 1048576: true; the input reads as it did. -/
def evalJoinsUptoRow : OpenClaim := { program := "ytonndofbnhnkpaa", sum := "4979ea37d87409a972633acb4b65a844261bad3015de186df42d5b476d24bc7e", func := "magpie/magpielaw07.EvalJoins", spec := "evalJoins", unfollowed := true, recurses := true, apart := false, narrowed := true }
def EvalJoinsUptoSaid : Prop := evalJoinsUptoRow.holds Try.pinned (OpenSpec.upto evalJoinsSpec)

/-- 'magpielaw07.EvalRuns', WHERE WHAT IT READS IS OF BULK AT MOST 1048576: true; the input reads as it did. -/
def evalRunsUptoRow : OpenClaim := { program := "ytonndofbnhnkpaa", sum := "4979ea37d87409a972633acb4b65a844261bad3015de186df42d5b476d24bc7e", func := "magpie/magpielaw07.EvalRuns", spec := "evalRuns", unfollowed := true, recurses := true, apart := false, narrowed := true }
def EvalRunsUptoSaid : Prop := evalRunsUptoRow.holds Try.pinned (OpenSpec.upto evalRunsSpec)

/-- 'magpielaw04.AsmLines', WHERE WHAT IT READS IS OF BULK AT MOST 1048576: true; the input reads as it did. -/
def asmLinesUptoRow : OpenClaim := { program := "ytonndofbnhnkpaa", sum := "4979ea37d87409a972633acb4b65a844261bad3015de186df42d5b476d24bc7e", func := "magpie/magpielaw04.AsmLines", spec := "asmLines", recurses := true, apart := false, narrowed := true }
def AsmLinesUptoSaid : Prop := asmLinesUptoRow.holds Try.pinned (OpenSpec.upto asmLinesSpec)

/-- 'magpielaw04.AsmHeads', WHERE WHAT IT READS IS OF BULK AT MOST 1048576: true; the input reads as it did. -/
def asmHeadsUptoRow : OpenClaim := { program := "ytonndofbnhnkpaa", sum := "4979ea37d87409a972633acb4b65a844261bad3015de186df42d5b476d24bc7e", func := "magpie/magpielaw04.AsmHeads", spec := "asmHeads", recurses := true, apart := false, narrowed := true }
def AsmHeadsUptoSaid : Prop := asmHeadsUptoRow.holds Try.pinned (OpenSpec.upto asmHeadsSpec)

/-- 'magpielaw04.AsmShapes', WHERE WHAT IT READS IS OF BULK AT MOST 1048576: true; the input reads as it did. -/
def asmShapesUptoRow : OpenClaim := { program := "ytonndofbnhnkpaa", sum := "4979ea37d87409a972633acb4b65a844261bad3015de186df42d5b476d24bc7e", func := "magpie/magpielaw04.AsmShapes", spec := "asmShapes", apart := false, narrowed := true }
def AsmShapesUptoSaid : Prop := asmShapesUptoRow.holds Try.pinned (OpenSpec.upto asmShapesSpec)

end Rows
end Go.Proofs.Ytonndofbnhnkpaa
