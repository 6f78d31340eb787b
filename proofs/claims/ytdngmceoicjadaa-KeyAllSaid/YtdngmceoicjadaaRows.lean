/-
  No cell of these rows narrows 'for every input' (looked for: loops, veiled, ifaces, maps, wideKeys, modest, calm, conditions, laid).
  DERIVED. THE GIVEN ROWS OF THIS SEAT. 12 by the template 'for every input the law returns true; each argument reads behind the call as it read before'; 0 by the template 'total and deterministic' (their statements: YtdngmceoicjadaaTotals.lean).
  GIVEN WITH THE SEED: the statements are not yours to turn. If you find one false, say at which input.
  Laid BY PROGRAM, IN A SANDBOX (cutbox-rows.mjs): the forced cells as the released guide's own fill.sh prints them over the translation 74864a3fae24ea01… (all of the seat's roots in one cut). By AI agents, Wed Nov 11 2026. No macro, syntax, notation, axiom, sorry.
-/
import Derived.Test.YtdngmceoicjadaaChecked
import GoSem.Claim
import GoSem.ClaimJoined
import GoSem.ClaimMapViews
import Derived.JoinedTies
import Derived.KernelRfl
namespace Go.Proofs.Ytdngmceoicjadaa
/- THE CELL 'sum', in the pinned program and in every row, IS THE sha256 OF THE DUMP (.gsa) THAT YtdngmceoicjadaaProg.lean LOADS. Nothing in Lean hashes anything: it is a label: what it is worth is what the hold of that sum in a sandbox is worth. -/
noncomputable def Try.pinned : Pinned := { name := "ytdngmceoicjadaa", sum := "74864a3fae24ea01be6a541007b6550244bab0acd1e7db753e71140a26f8cb60", checked := Try.checked }
namespace Rows
def none {H : Type} : Left H := { results := [], args := [] }

/-- 'magpielaw01.ValueDivs': WHATEVER THE INPUT: true; the input reads as it did. -/
def valueDivsSpec : ChangeSpec := { name := "valueDivs", fn := fun _ => fun
  | [d1, d2] => { results := [.lit (.bool true)], args := [d1, d2] }
  | _ => none }
def valueDivsRow : OpenClaim := { program := "ytdngmceoicjadaa", sum := "74864a3fae24ea01be6a541007b6550244bab0acd1e7db753e71140a26f8cb60", func := "magpie/magpielaw01.ValueDivs", spec := "valueDivs", unfollowed := true, recurses := true, apart := false }
def ValueDivsSaid : Prop := valueDivsRow.holds Try.pinned (OpenSpec.ofChange valueDivsSpec)

/-- ITS FALSE NEIGHBOUR: 'it returns false'. Refute it at one input. -/
def valueDivsWrong : ChangeSpec := { name := "valueDivs", fn := fun _ => fun
  | [d1, d2] => { results := [.lit (.bool false)], args := [d1, d2] }
  | _ => none }
def ValueDivsWrongFalsely : Prop := valueDivsRow.holds Try.pinned (OpenSpec.ofChange valueDivsWrong)

/-- 'magpielaw01.ValuePowers': WHATEVER THE INPUT: true; the input reads as it did. -/
def valuePowersSpec : ChangeSpec := { name := "valuePowers", fn := fun _ => fun
  | [d1, d2] => { results := [.lit (.bool true)], args := [d1, d2] }
  | _ => none }
def valuePowersRow : OpenClaim := { program := "ytdngmceoicjadaa", sum := "74864a3fae24ea01be6a541007b6550244bab0acd1e7db753e71140a26f8cb60", func := "magpie/magpielaw01.ValuePowers", spec := "valuePowers", unfollowed := true, recurses := true, apart := false }
def ValuePowersSaid : Prop := valuePowersRow.holds Try.pinned (OpenSpec.ofChange valuePowersSpec)

/-- ITS FALSE NEIGHBOUR: 'it returns false'. Refute it at one input. -/
def valuePowersWrong : ChangeSpec := { name := "valuePowers", fn := fun _ => fun
  | [d1, d2] => { results := [.lit (.bool false)], args := [d1, d2] }
  | _ => none }
def ValuePowersWrongFalsely : Prop := valuePowersRow.holds Try.pinned (OpenSpec.ofChange valuePowersWrong)

/-- 'magpielaw01.ValueAll': WHATEVER THE INPUT: true; the input reads as it did. -/
def valueAllSpec : ChangeSpec := { name := "valueAll", fn := fun _ => fun
  | [d1, d2] => { results := [.lit (.bool true)], args := [d1, d2] }
  | _ => none }
def valueAllRow : OpenClaim := { program := "ytdngmceoicjadaa", sum := "74864a3fae24ea01be6a541007b6550244bab0acd1e7db753e71140a26f8cb60", func := "magpie/magpielaw01.ValueAll", spec := "valueAll", unfollowed := true, recurses := true, apart := false }
def ValueAllSaid : Prop := valueAllRow.holds Try.pinned (OpenSpec.ofChange valueAllSpec)

/-- ITS FALSE NEIGHBOUR: 'it returns false'. Refute it at one input. -/
def valueAllWrong : ChangeSpec := { name := "valueAll", fn := fun _ => fun
  | [d1, d2] => { results := [.lit (.bool false)], args := [d1, d2] }
  | _ => none }
def ValueAllWrongFalsely : Prop := valueAllRow.holds Try.pinned (OpenSpec.ofChange valueAllWrong)

/-- 'magpielaw01.ValueRing': WHATEVER THE INPUT: true; the input reads as it did. -/
def valueRingSpec : ChangeSpec := { name := "valueRing", fn := fun _ => fun
  | [d1, d2, d3] => { results := [.lit (.bool true)], args := [d1, d2, d3] }
  | _ => none }
def valueRingRow : OpenClaim := { program := "ytdngmceoicjadaa", sum := "74864a3fae24ea01be6a541007b6550244bab0acd1e7db753e71140a26f8cb60", func := "magpie/magpielaw01.ValueRing", spec := "valueRing", unfollowed := true, recurses := true, apart := false }
def ValueRingSaid : Prop := valueRingRow.holds Try.pinned (OpenSpec.ofChange valueRingSpec)

/-- ITS FALSE NEIGHBOUR: 'it returns false'. Refute it at one input. -/
def valueRingWrong : ChangeSpec := { name := "valueRing", fn := fun _ => fun
  | [d1, d2, d3] => { results := [.lit (.bool false)], args := [d1, d2, d3] }
  | _ => none }
def ValueRingWrongFalsely : Prop := valueRingRow.holds Try.pinned (OpenSpec.ofChange valueRingWrong)

/-- 'magpielaw01.ValueOrders': WHATEVER THE INPUT: true; the input reads as it did. -/
def valueOrdersSpec : ChangeSpec := { name := "valueOrders", fn := fun _ => fun
  | [d1, d2, d3] => { results := [.lit (.bool true)], args := [d1, d2, d3] }
  | _ => none }
def valueOrdersRow : OpenClaim := { program := "ytdngmceoicjadaa", sum := "74864a3fae24ea01be6a541007b6550244bab0acd1e7db753e71140a26f8cb60", func := "magpie/magpielaw01.ValueOrders", spec := "valueOrders", unfollowed := true, recurses := true, apart := false }
def ValueOrdersSaid : Prop := valueOrdersRow.holds Try.pinned (OpenSpec.ofChange valueOrdersSpec)

/-- ITS FALSE NEIGHBOUR: 'it returns false'. Refute it at one input. -/
def valueOrdersWrong : ChangeSpec := { name := "valueOrders", fn := fun _ => fun
  | [d1, d2, d3] => { results := [.lit (.bool false)], args := [d1, d2, d3] }
  | _ => none }
def ValueOrdersWrongFalsely : Prop := valueOrdersRow.holds Try.pinned (OpenSpec.ofChange valueOrdersWrong)

/-- 'magpielaw01.ValueLess': WHATEVER THE INPUT: true; the input reads as it did. -/
def valueLessSpec : ChangeSpec := { name := "valueLess", fn := fun _ => fun
  | [d1, d2, d3] => { results := [.lit (.bool true)], args := [d1, d2, d3] }
  | _ => none }
def valueLessRow : OpenClaim := { program := "ytdngmceoicjadaa", sum := "74864a3fae24ea01be6a541007b6550244bab0acd1e7db753e71140a26f8cb60", func := "magpie/magpielaw01.ValueLess", spec := "valueLess", unfollowed := true, recurses := true, apart := false }
def ValueLessSaid : Prop := valueLessRow.holds Try.pinned (OpenSpec.ofChange valueLessSpec)

/-- ITS FALSE NEIGHBOUR: 'it returns false'. Refute it at one input. -/
def valueLessWrong : ChangeSpec := { name := "valueLess", fn := fun _ => fun
  | [d1, d2, d3] => { results := [.lit (.bool false)], args := [d1, d2, d3] }
  | _ => none }
def ValueLessWrongFalsely : Prop := valueLessRow.holds Try.pinned (OpenSpec.ofChange valueLessWrong)

/-- 'magpielaw06.KeySteps': WHATEVER THE INPUT: true; the input reads as it did. -/
def keyStepsSpec : ChangeSpec := { name := "keySteps", fn := fun _ => fun
  | [d1, d2, d3, d4] => { results := [.lit (.bool true)], args := [d1, d2, d3, d4] }
  | _ => none }
def keyStepsRow : OpenClaim := { program := "ytdngmceoicjadaa", sum := "74864a3fae24ea01be6a541007b6550244bab0acd1e7db753e71140a26f8cb60", func := "magpie/magpielaw06.KeySteps", spec := "keySteps", unfollowed := true, recurses := true, apart := false }
def KeyStepsSaid : Prop := keyStepsRow.holds Try.pinned (OpenSpec.ofChange keyStepsSpec)

/-- ITS FALSE NEIGHBOUR: 'it returns false'. Refute it at one input. -/
def keyStepsWrong : ChangeSpec := { name := "keySteps", fn := fun _ => fun
  | [d1, d2, d3, d4] => { results := [.lit (.bool false)], args := [d1, d2, d3, d4] }
  | _ => none }
def KeyStepsWrongFalsely : Prop := keyStepsRow.holds Try.pinned (OpenSpec.ofChange keyStepsWrong)

/-- 'magpielaw06.KeyAll': WHATEVER THE INPUT: true; the input reads as it did. -/
def keyAllSpec : ChangeSpec := { name := "keyAll", fn := fun _ => fun
  | [d1, d2, d3] => { results := [.lit (.bool true)], args := [d1, d2, d3] }
  | _ => none }
def keyAllRow : OpenClaim := { program := "ytdngmceoicjadaa", sum := "74864a3fae24ea01be6a541007b6550244bab0acd1e7db753e71140a26f8cb60", func := "magpie/magpielaw06.KeyAll", spec := "keyAll", unfollowed := true, recurses := true, apart := false }
def KeyAllSaid : Prop := keyAllRow.holds Try.pinned (OpenSpec.ofChange keyAllSpec)

/-- ITS FALSE NEIGHBOUR: 'it returns false'. Refute it at one input. -/
def keyAllWrong : ChangeSpec := { name := "keyAll", fn := fun _ => fun
  | [d1, d2, d3] => { results := [.lit (.bool false)], args := [d1, d2, d3] }
  | _ => none }
def KeyAllWrongFalsely : Prop := keyAllRow.holds Try.pinned (OpenSpec.ofChange keyAllWrong)

/-- 'magpielaw06.KeyOrders': WHATEVER THE INPUT: true; the input reads as it did. -/
def keyOrdersSpec : ChangeSpec := { name := "keyOrders", fn := fun _ => fun
  | [d1, d2, d3, d4] => { results := [.lit (.bool true)], args := [d1, d2, d3, d4] }
  | _ => none }
def keyOrdersRow : OpenClaim := { program := "ytdngmceoicjadaa", sum := "74864a3fae24ea01be6a541007b6550244bab0acd1e7db753e71140a26f8cb60", func := "magpie/magpielaw06.KeyOrders", spec := "keyOrders", unfollowed := true, recurses := true, apart := false }
def KeyOrdersSaid : Prop := keyOrdersRow.holds Try.pinned (OpenSpec.ofChange keyOrdersSpec)

/-- ITS FALSE NEIGHBOUR: 'it returns false'. Refute it at one input. -/
def keyOrdersWrong : ChangeSpec := { name := "keyOrders", fn := fun _ => fun
  | [d1, d2, d3, d4] => { results := [.lit (.bool false)], args := [d1, d2, d3, d4] }
  | _ => none }
def KeyOrdersWrongFalsely : Prop := keyOrdersRow.holds Try.pinned (OpenSpec.ofChange keyOrdersWrong)

/-- 'magpielaw06.KeyTrees': WHATEVER THE INPUT: true; the input reads as it did. -/
def keyTreesSpec : ChangeSpec := { name := "keyTrees", fn := fun _ => fun
  | [d] => { results := [.lit (.bool true)], args := [d] }
  | _ => none }
def keyTreesRow : OpenClaim := { program := "ytdngmceoicjadaa", sum := "74864a3fae24ea01be6a541007b6550244bab0acd1e7db753e71140a26f8cb60", func := "magpie/magpielaw06.KeyTrees", spec := "keyTrees", unfollowed := true, recurses := true, apart := false }
def KeyTreesSaid : Prop := keyTreesRow.holds Try.pinned (OpenSpec.ofChange keyTreesSpec)

/-- ITS FALSE NEIGHBOUR: 'it returns false'. Refute it at one input. -/
def keyTreesWrong : ChangeSpec := { name := "keyTrees", fn := fun _ => fun
  | [d] => { results := [.lit (.bool false)], args := [d] }
  | _ => none }
def KeyTreesWrongFalsely : Prop := keyTreesRow.holds Try.pinned (OpenSpec.ofChange keyTreesWrong)

/-- 'magpielaw06.KeyNone': WHATEVER THE INPUT: true; the input reads as it did. -/
def keyNoneSpec : ChangeSpec := { name := "keyNone", fn := fun _ => fun
  | [d1, d2, d3] => { results := [.lit (.bool true)], args := [d1, d2, d3] }
  | _ => none }
def keyNoneRow : OpenClaim := { program := "ytdngmceoicjadaa", sum := "74864a3fae24ea01be6a541007b6550244bab0acd1e7db753e71140a26f8cb60", func := "magpie/magpielaw06.KeyNone", spec := "keyNone", unfollowed := true, recurses := true, apart := false }
def KeyNoneSaid : Prop := keyNoneRow.holds Try.pinned (OpenSpec.ofChange keyNoneSpec)

/-- ITS FALSE NEIGHBOUR: 'it returns false'. Refute it at one input. -/
def keyNoneWrong : ChangeSpec := { name := "keyNone", fn := fun _ => fun
  | [d1, d2, d3] => { results := [.lit (.bool false)], args := [d1, d2, d3] }
  | _ => none }
def KeyNoneWrongFalsely : Prop := keyNoneRow.holds Try.pinned (OpenSpec.ofChange keyNoneWrong)

/-- 'magpielaw27.StatsAll': WHATEVER THE INPUT: true; the input reads as it did. -/
def statsAllSpec : ChangeSpec := { name := "statsAll", fn := fun _ => fun
  | [d] => { results := [.lit (.bool true)], args := [d] }
  | _ => none }
def statsAllRow : OpenClaim := { program := "ytdngmceoicjadaa", sum := "74864a3fae24ea01be6a541007b6550244bab0acd1e7db753e71140a26f8cb60", func := "magpie/magpielaw27.StatsAll", spec := "statsAll", unfollowed := true, recurses := true, apart := false }
def StatsAllSaid : Prop := statsAllRow.holds Try.pinned (OpenSpec.ofChange statsAllSpec)

/-- ITS FALSE NEIGHBOUR: 'it returns false'. Refute it at one input. -/
def statsAllWrong : ChangeSpec := { name := "statsAll", fn := fun _ => fun
  | [d] => { results := [.lit (.bool false)], args := [d] }
  | _ => none }
def StatsAllWrongFalsely : Prop := statsAllRow.holds Try.pinned (OpenSpec.ofChange statsAllWrong)

/- THE SECOND FORM. 'bulk': how many values and letters a reading holds, each counted each time it is reached (what is shared counts as often as it is met; a slice's spare places count too). A statement '..UptoSaid' is the law's where the arguments, and the package variables that the reading takes, are together of bulk at most 1048576: NARROWER than '..Said'. Prove '..Said' where nothing that the law and all that it calls make is longer than what came in: it says more and counts as full. Else prove '..UptoSaid'. A law counts once. -/
mutual
def uptoBulk {H : Type} : DataW H → Nat
  | .lit (.string bytes) => bytes.length + 1
  | .lit _ => 1
  | .nil => 1
  | .ptr d => uptoBulk d + 1
  | .slice elems spare => uptoBulkAll elems + uptoBulkAll spare + 1
  | .agg parts => uptoBulkAll parts + 1
  | .iface _ d => uptoBulk d + 1
  | .map entries => uptoBulkEntries entries + 1
  | .held _ => 1
def uptoBulkAll {H : Type} : List (DataW H) → Nat
  | [] => 0
  | d :: r => uptoBulk d + uptoBulkAll r
def uptoBulkEntries {H : Type} : List (Lit × DataW H) → Nat
  | [] => 0
  | x :: r => uptoBulkEntry x + uptoBulkEntries r
def uptoBulkEntry {H : Type} : Lit × DataW H → Nat
  | (.string bytes, d) => bytes.length + uptoBulk d + 1
  | (_, d) => uptoBulk d + 1
 end
def uptoSmall : (H : Type) → List (DataW H) → Bool := fun _ ds => decide (uptoBulkAll ds ≤ 1048576)
def OpenSpec.upto (s : _root_.Go.ChangeSpec) : _root_.Go.OpenSpec := { _root_.Go.OpenSpec.ofChange s with cond := some uptoSmall }

/-- 'magpielaw01.ValueDivs', WHERE WHAT IT READS IS OF BULK AT MOST 1048576: true; the input reads as it did. -/
def valueDivsUptoRow : OpenClaim := { program := "ytdngmceoicjadaa", sum := "74864a3fae24ea01be6a541007b6550244bab0acd1e7db753e71140a26f8cb60", func := "magpie/magpielaw01.ValueDivs", spec := "valueDivs", unfollowed := true, recurses := true, apart := false, narrowed := true }
def ValueDivsUptoSaid : Prop := valueDivsUptoRow.holds Try.pinned (OpenSpec.upto valueDivsSpec)

/-- 'magpielaw01.ValuePowers', WHERE WHAT IT READS IS OF BULK AT MOST 1048576: true; the input reads as it did. -/
def valuePowersUptoRow : OpenClaim := { program := "ytdngmceoicjadaa", sum := "74864a3fae24ea01be6a541007b6550244bab0acd1e7db753e71140a26f8cb60", func := "magpie/magpielaw01.ValuePowers", spec := "valuePowers", unfollowed := true, recurses := true, apart := false, narrowed := true }
def ValuePowersUptoSaid : Prop := valuePowersUptoRow.holds Try.pinned (OpenSpec.upto valuePowersSpec)

/-- 'magpielaw01.ValueAll', WHERE WHAT IT READS IS OF BULK AT MOST 1048576: true; the input reads as it did. -/
def valueAllUptoRow : OpenClaim := { program := "ytdngmceoicjadaa", sum := "74864a3fae24ea01be6a541007b6550244bab0acd1e7db753e71140a26f8cb60", func := "magpie/magpielaw01.ValueAll", spec := "valueAll", unfollowed := true, recurses := true, apart := false, narrowed := true }
def ValueAllUptoSaid : Prop := valueAllUptoRow.holds Try.pinned (OpenSpec.upto valueAllSpec)

/-- 'magpielaw01.ValueRing', WHERE WHAT IT READS IS OF BULK AT MOST 1048576: true; the input reads as it did. -/
def valueRingUptoRow : OpenClaim := { program := "ytdngmceoicjadaa", sum := "74864a3fae24ea01be6a541007b6550244bab0acd1e7db753e71140a26f8cb60", func := "magpie/magpielaw01.ValueRing", spec := "valueRing", unfollowed := true, recurses := true, apart := false, narrowed := true }
def ValueRingUptoSaid : Prop := valueRingUptoRow.holds Try.pinned (OpenSpec.upto valueRingSpec)

/-- 'magpielaw01.ValueOrders', WHERE WHAT IT READS IS OF BULK AT MOST 1048576: true; the input reads as it did. -/
def valueOrdersUptoRow : OpenClaim := { program := "ytdngmceoicjadaa", sum := "74864a3fae24ea01be6a541007b6550244bab0acd1e7db753e71140a26f8cb60", func := "magpie/magpielaw01.ValueOrders", spec := "valueOrders", unfollowed := true, recurses := true, apart := false, narrowed := true }
def ValueOrdersUptoSaid : Prop := valueOrdersUptoRow.holds Try.pinned (OpenSpec.upto valueOrdersSpec)

/-- 'magpielaw01.ValueLess', WHERE WHAT IT READS IS OF BULK AT MOST 1048576: true; the input reads as it did. -/
def valueLessUptoRow : OpenClaim := { program := "ytdngmceoicjadaa", sum := "74864a3fae24ea01be6a541007b6550244bab0acd1e7db753e71140a26f8cb60", func := "magpie/magpielaw01.ValueLess", spec := "valueLess", unfollowed := true, recurses := true, apart := false, narrowed := true }
def ValueLessUptoSaid : Prop := valueLessUptoRow.holds Try.pinned (OpenSpec.upto valueLessSpec)

/-- 'magpielaw06.KeySteps', WHERE WHAT IT READS IS OF BULK AT MOST 1048576: true; the input reads as it did. -/
def keyStepsUptoRow : OpenClaim := { program := "ytdngmceoicjadaa", sum := "74864a3fae24ea01be6a541007b6550244bab0acd1e7db753e71140a26f8cb60", func := "magpie/magpielaw06.KeySteps", spec := "keySteps", unfollowed := true, recurses := true, apart := false, narrowed := true }
def KeyStepsUptoSaid : Prop := keyStepsUptoRow.holds Try.pinned (OpenSpec.upto keyStepsSpec)

/-- 'magpielaw06.KeyAll', WHERE WHAT IT READS IS OF BULK AT MOST 1048576: true; the input reads as it did. -/
def keyAllUptoRow : OpenClaim := { program := "ytdngmceoicjadaa", sum := "74864a3fae24ea01be6a541007b6550244bab0acd1e7db753e71140a26f8cb60", func := "magpie/magpielaw06.KeyAll", spec := "keyAll", unfollowed := true, recurses := true, apart := false, narrowed := true }
def KeyAllUptoSaid : Prop := keyAllUptoRow.holds Try.pinned (OpenSpec.upto keyAllSpec)

/-- 'magpielaw06.KeyOrders', WHERE WHAT IT READS IS OF BULK AT MOST 1048576: true; the input reads as it did. -/
def keyOrdersUptoRow : OpenClaim := { program := "ytdngmceoicjadaa", sum := "74864a3fae24ea01be6a541007b6550244bab0acd1e7db753e71140a26f8cb60", func := "magpie/magpielaw06.KeyOrders", spec := "keyOrders", unfollowed := true, recurses := true, apart := false, narrowed := true }
def KeyOrdersUptoSaid : Prop := keyOrdersUptoRow.holds Try.pinned (OpenSpec.upto keyOrdersSpec)

/-- 'magpielaw06.KeyTrees', WHERE WHAT IT READS IS OF BULK AT MOST 1048576: true; the input reads as it did. -/
def keyTreesUptoRow : OpenClaim := { program := "ytdngmceoicjadaa", sum := "74864a3fae24ea01be6a541007b6550244bab0acd1e7db753e71140a26f8cb60", func := "magpie/magpielaw06.KeyTrees", spec := "keyTrees", unfollowed := true, recurses := true, apart := false, narrowed := true }
def KeyTreesUptoSaid : Prop := keyTreesUptoRow.holds Try.pinned (OpenSpec.upto keyTreesSpec)

/-- 'magpielaw06.KeyNone', WHERE WHAT IT READS IS OF BULK AT MOST 1048576: true; the input reads as it did. -/
def keyNoneUptoRow : OpenClaim := { program := "ytdngmceoicjadaa", sum := "74864a3fae24ea01be6a541007b6550244bab0acd1e7db753e71140a26f8cb60", func := "magpie/magpielaw06.KeyNone", spec := "keyNone", unfollowed := true, recurses := true, apart := false, narrowed := true }
def KeyNoneUptoSaid : Prop := keyNoneUptoRow.holds Try.pinned (OpenSpec.upto keyNoneSpec)

/-- 'magpielaw27.StatsAll', WHERE WHAT IT READS IS OF BULK AT MOST 1048576: true; the input reads as it did. -/
def statsAllUptoRow : OpenClaim := { program := "ytdngmceoicjadaa", sum := "74864a3fae24ea01be6a541007b6550244bab0acd1e7db753e71140a26f8cb60", func := "magpie/magpielaw27.StatsAll", spec := "statsAll", unfollowed := true, recurses := true, apart := false, narrowed := true }
def StatsAllUptoSaid : Prop := statsAllUptoRow.holds Try.pinned (OpenSpec.upto statsAllSpec)

end Rows
end Go.Proofs.Ytdngmceoicjadaa
