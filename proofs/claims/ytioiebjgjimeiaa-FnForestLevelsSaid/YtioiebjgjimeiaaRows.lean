/-
  No cell of these rows narrows 'for every input' (looked for: loops, veiled, ifaces, maps, wideKeys, modest, calm, conditions, laid).
  DERIVED. THE GIVEN ROWS OF THIS SEAT. 12 by the template 'for every input the law returns true; each argument reads behind the call as it read before'; 0 by the template 'total and deterministic' (their statements: YtioiebjgjimeiaaTotals.lean).
  GIVEN WITH THE SEED: the statements are not yours to turn. If you find one false, say at which input.
  Laid BY PROGRAM, IN A SANDBOX (cutbox-rows.mjs): the forced cells as the released guide's own fill.sh prints them over the translation 059c66ac9e647e56… (all of the seat's roots in one cut). By AI agents, Wed Nov 11 2026. No macro, syntax, notation, axiom, sorry.
-/
import Derived.Test.YtioiebjgjimeiaaChecked
import GoSem.Claim
import GoSem.ClaimJoined
import GoSem.ClaimMapViews
import Derived.JoinedTies
import Derived.KernelRfl
namespace Go.Proofs.Ytioiebjgjimeiaa
/- THE CELL 'sum', in the pinned program and in every row, IS THE sha256 OF THE DUMP (.gsa) THAT YtioiebjgjimeiaaProg.lean LOADS. Nothing in Lean hashes anything: it is a label: what it is worth is what the hold of that sum in a sandbox is worth. -/
noncomputable def Try.pinned : Pinned := { name := "ytioiebjgjimeiaa", sum := "059c66ac9e647e564a3e3fcaa8ceb0ff321dc387b120621001634560d8934b1c", checked := Try.checked }
namespace Rows
def none {H : Type} : Left H := { results := [], args := [] }

/-- 'laws.FnThroughput': WHATEVER THE INPUT: true; the input reads as it did. -/
def fnThroughputSpec : ChangeSpec := { name := "fnThroughput", fn := fun _ => fun
  | [d] => { results := [.lit (.bool true)], args := [d] }
  | _ => none }
def fnThroughputRow : OpenClaim := { program := "ytioiebjgjimeiaa", sum := "059c66ac9e647e564a3e3fcaa8ceb0ff321dc387b120621001634560d8934b1c", func := "loop.example/g00852/laws.FnThroughput", spec := "fnThroughput", unfollowed := true, recurses := true, apart := false }
def FnThroughputSaid : Prop := fnThroughputRow.holds Try.pinned (OpenSpec.ofChange fnThroughputSpec)

/-- ITS FALSE NEIGHBOUR: 'it returns false'. Refute it at one input. -/
def fnThroughputWrong : ChangeSpec := { name := "fnThroughput", fn := fun _ => fun
  | [d] => { results := [.lit (.bool false)], args := [d] }
  | _ => none }
def FnThroughputWrongFalsely : Prop := fnThroughputRow.holds Try.pinned (OpenSpec.ofChange fnThroughputWrong)

/-- 'laws.FnBalance': WHATEVER THE INPUT: true; the input reads as it did. -/
def fnBalanceSpec : ChangeSpec := { name := "fnBalance", fn := fun _ => fun
  | [d] => { results := [.lit (.bool true)], args := [d] }
  | _ => none }
def fnBalanceRow : OpenClaim := { program := "ytioiebjgjimeiaa", sum := "059c66ac9e647e564a3e3fcaa8ceb0ff321dc387b120621001634560d8934b1c", func := "loop.example/g00852/laws.FnBalance", spec := "fnBalance", unfollowed := true, recurses := true, apart := false }
def FnBalanceSaid : Prop := fnBalanceRow.holds Try.pinned (OpenSpec.ofChange fnBalanceSpec)

/-- ITS FALSE NEIGHBOUR: 'it returns false'. Refute it at one input. -/
def fnBalanceWrong : ChangeSpec := { name := "fnBalance", fn := fun _ => fun
  | [d] => { results := [.lit (.bool false)], args := [d] }
  | _ => none }
def FnBalanceWrongFalsely : Prop := fnBalanceRow.holds Try.pinned (OpenSpec.ofChange fnBalanceWrong)

/-- 'laws.FnBlockingPairs': WHATEVER THE INPUT: true; the input reads as it did. -/
def fnBlockingPairsSpec : ChangeSpec := { name := "fnBlockingPairs", fn := fun _ => fun
  | [d] => { results := [.lit (.bool true)], args := [d] }
  | _ => none }
def fnBlockingPairsRow : OpenClaim := { program := "ytioiebjgjimeiaa", sum := "059c66ac9e647e564a3e3fcaa8ceb0ff321dc387b120621001634560d8934b1c", func := "loop.example/g00852/laws.FnBlockingPairs", spec := "fnBlockingPairs", inPlace := ["math.sqrt"], unfollowed := true, recurses := true, apart := false }
def FnBlockingPairsSaid : Prop := fnBlockingPairsRow.holds Try.pinned (OpenSpec.ofChange fnBlockingPairsSpec)

/-- ITS FALSE NEIGHBOUR: 'it returns false'. Refute it at one input. -/
def fnBlockingPairsWrong : ChangeSpec := { name := "fnBlockingPairs", fn := fun _ => fun
  | [d] => { results := [.lit (.bool false)], args := [d] }
  | _ => none }
def FnBlockingPairsWrongFalsely : Prop := fnBlockingPairsRow.holds Try.pinned (OpenSpec.ofChange fnBlockingPairsWrong)

/-- 'laws.FnExactTreeLevels': WHATEVER THE INPUT: true; the input reads as it did. -/
def fnExactTreeLevelsSpec : ChangeSpec := { name := "fnExactTreeLevels", fn := fun _ => fun
  | [d1, d2, d3, d4] => { results := [.lit (.bool true)], args := [d1, d2, d3, d4] }
  | _ => none }
def fnExactTreeLevelsRow : OpenClaim := { program := "ytioiebjgjimeiaa", sum := "059c66ac9e647e564a3e3fcaa8ceb0ff321dc387b120621001634560d8934b1c", func := "loop.example/g00852/laws.FnExactTreeLevels", spec := "fnExactTreeLevels", unfollowed := true, recurses := true, apart := false }
def FnExactTreeLevelsSaid : Prop := fnExactTreeLevelsRow.holds Try.pinned (OpenSpec.ofChange fnExactTreeLevelsSpec)

/-- ITS FALSE NEIGHBOUR: 'it returns false'. Refute it at one input. -/
def fnExactTreeLevelsWrong : ChangeSpec := { name := "fnExactTreeLevels", fn := fun _ => fun
  | [d1, d2, d3, d4] => { results := [.lit (.bool false)], args := [d1, d2, d3, d4] }
  | _ => none }
def FnExactTreeLevelsWrongFalsely : Prop := fnExactTreeLevelsRow.holds Try.pinned (OpenSpec.ofChange fnExactTreeLevelsWrong)

/-- 'laws.FnTrees': WHATEVER THE INPUT: true; the input reads as it did. -/
def fnTreesSpec : ChangeSpec := { name := "fnTrees", fn := fun _ => fun
  | [d] => { results := [.lit (.bool true)], args := [d] }
  | _ => none }
def fnTreesRow : OpenClaim := { program := "ytioiebjgjimeiaa", sum := "059c66ac9e647e564a3e3fcaa8ceb0ff321dc387b120621001634560d8934b1c", func := "loop.example/g00852/laws.FnTrees", spec := "fnTrees", unfollowed := true, recurses := true, apart := false }
def FnTreesSaid : Prop := fnTreesRow.holds Try.pinned (OpenSpec.ofChange fnTreesSpec)

/-- ITS FALSE NEIGHBOUR: 'it returns false'. Refute it at one input. -/
def fnTreesWrong : ChangeSpec := { name := "fnTrees", fn := fun _ => fun
  | [d] => { results := [.lit (.bool false)], args := [d] }
  | _ => none }
def FnTreesWrongFalsely : Prop := fnTreesRow.holds Try.pinned (OpenSpec.ofChange fnTreesWrong)

/-- 'laws.FnForestLevels': WHATEVER THE INPUT: true; the input reads as it did. -/
def fnForestLevelsSpec : ChangeSpec := { name := "fnForestLevels", fn := fun _ => fun
  | [d] => { results := [.lit (.bool true)], args := [d] }
  | _ => none }
def fnForestLevelsRow : OpenClaim := { program := "ytioiebjgjimeiaa", sum := "059c66ac9e647e564a3e3fcaa8ceb0ff321dc387b120621001634560d8934b1c", func := "loop.example/g00852/laws.FnForestLevels", spec := "fnForestLevels", unfollowed := true, recurses := true, apart := false }
def FnForestLevelsSaid : Prop := fnForestLevelsRow.holds Try.pinned (OpenSpec.ofChange fnForestLevelsSpec)

/-- ITS FALSE NEIGHBOUR: 'it returns false'. Refute it at one input. -/
def fnForestLevelsWrong : ChangeSpec := { name := "fnForestLevels", fn := fun _ => fun
  | [d] => { results := [.lit (.bool false)], args := [d] }
  | _ => none }
def FnForestLevelsWrongFalsely : Prop := fnForestLevelsRow.holds Try.pinned (OpenSpec.ofChange fnForestLevelsWrong)

/-- 'laws.FnExactResidualBound': WHATEVER THE INPUT: true; the input reads as it did. -/
def fnExactResidualBoundSpec : ChangeSpec := { name := "fnExactResidualBound", fn := fun _ => fun
  | [d1, d2, d3] => { results := [.lit (.bool true)], args := [d1, d2, d3] }
  | _ => none }
def fnExactResidualBoundRow : OpenClaim := { program := "ytioiebjgjimeiaa", sum := "059c66ac9e647e564a3e3fcaa8ceb0ff321dc387b120621001634560d8934b1c", func := "loop.example/g00852/laws.FnExactResidualBound", spec := "fnExactResidualBound", unfollowed := true, recurses := true, apart := false }
def FnExactResidualBoundSaid : Prop := fnExactResidualBoundRow.holds Try.pinned (OpenSpec.ofChange fnExactResidualBoundSpec)

/-- ITS FALSE NEIGHBOUR: 'it returns false'. Refute it at one input. -/
def fnExactResidualBoundWrong : ChangeSpec := { name := "fnExactResidualBound", fn := fun _ => fun
  | [d1, d2, d3] => { results := [.lit (.bool false)], args := [d1, d2, d3] }
  | _ => none }
def FnExactResidualBoundWrongFalsely : Prop := fnExactResidualBoundRow.holds Try.pinned (OpenSpec.ofChange fnExactResidualBoundWrong)

/-- 'laws.FnExactResidualOf': WHATEVER THE INPUT: true; the input reads as it did. -/
def fnExactResidualOfSpec : ChangeSpec := { name := "fnExactResidualOf", fn := fun _ => fun
  | [d1, d2, d3] => { results := [.lit (.bool true)], args := [d1, d2, d3] }
  | _ => none }
def fnExactResidualOfRow : OpenClaim := { program := "ytioiebjgjimeiaa", sum := "059c66ac9e647e564a3e3fcaa8ceb0ff321dc387b120621001634560d8934b1c", func := "loop.example/g00852/laws.FnExactResidualOf", spec := "fnExactResidualOf", unfollowed := true, recurses := true, apart := false }
def FnExactResidualOfSaid : Prop := fnExactResidualOfRow.holds Try.pinned (OpenSpec.ofChange fnExactResidualOfSpec)

/-- ITS FALSE NEIGHBOUR: 'it returns false'. Refute it at one input. -/
def fnExactResidualOfWrong : ChangeSpec := { name := "fnExactResidualOf", fn := fun _ => fun
  | [d1, d2, d3] => { results := [.lit (.bool false)], args := [d1, d2, d3] }
  | _ => none }
def FnExactResidualOfWrongFalsely : Prop := fnExactResidualOfRow.holds Try.pinned (OpenSpec.ofChange fnExactResidualOfWrong)

/-- 'laws.FnExactIsRelaxed': WHATEVER THE INPUT: true; the input reads as it did. -/
def fnExactIsRelaxedSpec : ChangeSpec := { name := "fnExactIsRelaxed", fn := fun _ => fun
  | [d1, d2] => { results := [.lit (.bool true)], args := [d1, d2] }
  | _ => none }
def fnExactIsRelaxedRow : OpenClaim := { program := "ytioiebjgjimeiaa", sum := "059c66ac9e647e564a3e3fcaa8ceb0ff321dc387b120621001634560d8934b1c", func := "loop.example/g00852/laws.FnExactIsRelaxed", spec := "fnExactIsRelaxed", unfollowed := true, recurses := true, apart := false }
def FnExactIsRelaxedSaid : Prop := fnExactIsRelaxedRow.holds Try.pinned (OpenSpec.ofChange fnExactIsRelaxedSpec)

/-- ITS FALSE NEIGHBOUR: 'it returns false'. Refute it at one input. -/
def fnExactIsRelaxedWrong : ChangeSpec := { name := "fnExactIsRelaxed", fn := fun _ => fun
  | [d1, d2] => { results := [.lit (.bool false)], args := [d1, d2] }
  | _ => none }
def FnExactIsRelaxedWrongFalsely : Prop := fnExactIsRelaxedRow.holds Try.pinned (OpenSpec.ofChange fnExactIsRelaxedWrong)

/-- 'laws.FnAddedCycles': WHATEVER THE INPUT: true; the input reads as it did. -/
def fnAddedCyclesSpec : ChangeSpec := { name := "fnAddedCycles", fn := fun _ => fun
  | [d] => { results := [.lit (.bool true)], args := [d] }
  | _ => none }
def fnAddedCyclesRow : OpenClaim := { program := "ytioiebjgjimeiaa", sum := "059c66ac9e647e564a3e3fcaa8ceb0ff321dc387b120621001634560d8934b1c", func := "loop.example/g00852/laws.FnAddedCycles", spec := "fnAddedCycles", unfollowed := true, recurses := true, apart := false }
def FnAddedCyclesSaid : Prop := fnAddedCyclesRow.holds Try.pinned (OpenSpec.ofChange fnAddedCyclesSpec)

/-- ITS FALSE NEIGHBOUR: 'it returns false'. Refute it at one input. -/
def fnAddedCyclesWrong : ChangeSpec := { name := "fnAddedCycles", fn := fun _ => fun
  | [d] => { results := [.lit (.bool false)], args := [d] }
  | _ => none }
def FnAddedCyclesWrongFalsely : Prop := fnAddedCyclesRow.holds Try.pinned (OpenSpec.ofChange fnAddedCyclesWrong)

/-- 'laws.FnExactLoopError': WHATEVER THE INPUT: true; the input reads as it did. -/
def fnExactLoopErrorSpec : ChangeSpec := { name := "fnExactLoopError", fn := fun _ => fun
  | [d1, d2] => { results := [.lit (.bool true)], args := [d1, d2] }
  | _ => none }
def fnExactLoopErrorRow : OpenClaim := { program := "ytioiebjgjimeiaa", sum := "059c66ac9e647e564a3e3fcaa8ceb0ff321dc387b120621001634560d8934b1c", func := "loop.example/g00852/laws.FnExactLoopError", spec := "fnExactLoopError", unfollowed := true, recurses := true, apart := false }
def FnExactLoopErrorSaid : Prop := fnExactLoopErrorRow.holds Try.pinned (OpenSpec.ofChange fnExactLoopErrorSpec)

/-- ITS FALSE NEIGHBOUR: 'it returns false'. Refute it at one input. -/
def fnExactLoopErrorWrong : ChangeSpec := { name := "fnExactLoopError", fn := fun _ => fun
  | [d1, d2] => { results := [.lit (.bool false)], args := [d1, d2] }
  | _ => none }
def FnExactLoopErrorWrongFalsely : Prop := fnExactLoopErrorRow.holds Try.pinned (OpenSpec.ofChange fnExactLoopErrorWrong)

/-- 'laws.FnExactWorstResidual': WHATEVER THE INPUT: true; the input reads as it did. -/
def fnExactWorstResidualSpec : ChangeSpec := { name := "fnExactWorstResidual", fn := fun _ => fun
  | [d1, d2] => { results := [.lit (.bool true)], args := [d1, d2] }
  | _ => none }
def fnExactWorstResidualRow : OpenClaim := { program := "ytioiebjgjimeiaa", sum := "059c66ac9e647e564a3e3fcaa8ceb0ff321dc387b120621001634560d8934b1c", func := "loop.example/g00852/laws.FnExactWorstResidual", spec := "fnExactWorstResidual", unfollowed := true, recurses := true, apart := false }
def FnExactWorstResidualSaid : Prop := fnExactWorstResidualRow.holds Try.pinned (OpenSpec.ofChange fnExactWorstResidualSpec)

/-- ITS FALSE NEIGHBOUR: 'it returns false'. Refute it at one input. -/
def fnExactWorstResidualWrong : ChangeSpec := { name := "fnExactWorstResidual", fn := fun _ => fun
  | [d1, d2] => { results := [.lit (.bool false)], args := [d1, d2] }
  | _ => none }
def FnExactWorstResidualWrongFalsely : Prop := fnExactWorstResidualRow.holds Try.pinned (OpenSpec.ofChange fnExactWorstResidualWrong)

/- THE SECOND FORM. 'bulk': how many values and letters a reading holds, each counted each time it is reached (what is shared counts as often as it is met; a slice's spare places count too). A statement '..UptoSaid' is the law's where the arguments, and the package variables that the reading takes, are together of bulk at most 1048576: NARROWER than '..Said'. Prove '..Said' where nothing that the law and all that it calls make is longer than what came in: it says more and counts as full. Else prove '..UptoSaid'. A law counts once. -/
mutual
def uptoBulk {H : Type} : DataW H → Nat
  | .lit (.string bytes) => bytes.length + 1
  | .lit _ => 1
  | .nil => 1
  | .ptr d => uptoBulk d + 1
  | .slice elems spare => uptoBulkAll elems + uptoBulkAll spare + 1
  | .agg parts => uptoBulkAll parts + 1
  | .iface _ d => uptoBulk d + 1
  | .map entries => uptoBulkEntries entries + 1
  | .held _ => 1
def uptoBulkAll {H : Type} : List (DataW H) → Nat
  | [] => 0
  | d :: r => uptoBulk d + uptoBulkAll r
def uptoBulkEntries {H : Type} : List (Lit × DataW H) → Nat
  | [] => 0
  | x :: r => uptoBulkEntry x + uptoBulkEntries r
def uptoBulkEntry {H : Type} : Lit × DataW H → Nat
  | (.string bytes, d) => bytes.length + uptoBulk d + 1
  | (_, d) => uptoBulk d + 1
 end
def uptoSmall : (H : Type) → List (DataW H) → Bool := fun _ ds => decide (uptoBulkAll ds ≤ 1048576)
def OpenSpec.upto (s : _root_.Go.ChangeSpec) : _root_.Go.OpenSpec := { _root_.Go.OpenSpec.ofChange s with cond := some uptoSmall }

/-- 'laws.FnThroughput', WHERE WHAT IT READS IS OF BULK AT MOST 1048576: true; the input reads as it did. -/
def fnThroughputUptoRow : OpenClaim := { program := "ytioiebjgjimeiaa", sum := "059c66ac9e647e564a3e3fcaa8ceb0ff321dc387b120621001634560d8934b1c", func := "loop.example/g00852/laws.FnThroughput", spec := "fnThroughput", unfollowed := true, recurses := true, apart := false, narrowed := true }
def FnThroughputUptoSaid : Prop := fnThroughputUptoRow.holds Try.pinned (OpenSpec.upto fnThroughputSpec)

/-- 'laws.FnBalance', WHERE WHAT IT READS IS OF BULK AT MOST 1048576: true; the input reads as it did. -/
def fnBalanceUptoRow : OpenClaim := { program := "ytioiebjgjimeiaa", sum := "059c66ac9e647e564a3e3fcaa8ceb0ff321dc387b120621001634560d8934b1c", func := "loop.example/g00852/laws.FnBalance", spec := "fnBalance", unfollowed := true, recurses := true, apart := false, narrowed := true }
def FnBalanceUptoSaid : Prop := fnBalanceUptoRow.holds Try.pinned (OpenSpec.upto fnBalanceSpec)

/-- 'laws.FnBlockingPairs', WHERE WHAT IT READS IS OF BULK AT MOST 1048576: true; the input reads as it did. -/
def fnBlockingPairsUptoRow : OpenClaim := { program := "ytioiebjgjimeiaa", sum := "059c66ac9e647e564a3e3fcaa8ceb0ff321dc387b120621001634560d8934b1c", func := "loop.example/g00852/laws.FnBlockingPairs", spec := "fnBlockingPairs", inPlace := ["math.sqrt"], unfollowed := true, recurses := true, apart := false, narrowed := true }
def FnBlockingPairsUptoSaid : Prop := fnBlockingPairsUptoRow.holds Try.pinned (OpenSpec.upto fnBlockingPairsSpec)

/-- 'laws.FnExactTreeLevels', WHERE WHAT IT READS IS OF BULK AT MOST 1048576: true; the input reads as it did. -/
def fnExactTreeLevelsUptoRow : OpenClaim := { program := "ytioiebjgjimeiaa", sum := "059c66ac9e647e564a3e3fcaa8ceb0ff321dc387b120621001634560d8934b1c", func := "loop.example/g00852/laws.FnExactTreeLevels", spec := "fnExactTreeLevels", unfollowed := true, recurses := true, apart := false, narrowed := true }
def FnExactTreeLevelsUptoSaid : Prop := fnExactTreeLevelsUptoRow.holds Try.pinned (OpenSpec.upto fnExactTreeLevelsSpec)

/-- 'laws.FnTrees', WHERE WHAT IT READS IS OF BULK AT MOST 1048576: true; the input reads as it did. -/
def fnTreesUptoRow : OpenClaim := { program := "ytioiebjgjimeiaa", sum := "059c66ac9e647e564a3e3fcaa8ceb0ff321dc387b120621001634560d8934b1c", func := "loop.example/g00852/laws.FnTrees", spec := "fnTrees", unfollowed := true, recurses := true, apart := false, narrowed := true }
def FnTreesUptoSaid : Prop := fnTreesUptoRow.holds Try.pinned (OpenSpec.upto fnTreesSpec)

/-- 'laws.FnForestLevels', WHERE WHAT IT READS IS OF BULK AT MOST 1048576: true; the input reads as it did. -/
def fnForestLevelsUptoRow : OpenClaim := { program := "ytioiebjgjimeiaa", sum := "059c66ac9e647e564a3e3fcaa8ceb0ff321dc387b120621001634560d8934b1c", func := "loop.example/g00852/laws.FnForestLevels", spec := "fnForestLevels", unfollowed := true, recurses := true, apart := false, narrowed := true }
def FnForestLevelsUptoSaid : Prop := fnForestLevelsUptoRow.holds Try.pinned (OpenSpec.upto fnForestLevelsSpec)

/-- 'laws.FnExactResidualBound', WHERE WHAT IT READS IS OF BULK AT MOST 1048576: true; the input reads as it did. -/
def fnExactResidualBoundUptoRow : OpenClaim := { program := "ytioiebjgjimeiaa", sum := "059c66ac9e647e564a3e3fcaa8ceb0ff321dc387b120621001634560d8934b1c", func := "loop.example/g00852/laws.FnExactResidualBound", spec := "fnExactResidualBound", unfollowed := true, recurses := true, apart := false, narrowed := true }
def FnExactResidualBoundUptoSaid : Prop := fnExactResidualBoundUptoRow.holds Try.pinned (OpenSpec.upto fnExactResidualBoundSpec)

/-- 'laws.FnExactResidualOf', WHERE WHAT IT READS IS OF BULK AT MOST 1048576: true; the input reads as it did. -/
def fnExactResidualOfUptoRow : OpenClaim := { program := "ytioiebjgjimeiaa", sum := "059c66ac9e647e564a3e3fcaa8ceb0ff321dc387b120621001634560d8934b1c", func := "loop.example/g00852/laws.FnExactResidualOf", spec := "fnExactResidualOf", unfollowed := true, recurses := true, apart := false, narrowed := true }
def FnExactResidualOfUptoSaid : Prop := fnExactResidualOfUptoRow.holds Try.pinned (OpenSpec.upto fnExactResidualOfSpec)

/-- 'laws.FnExactIsRelaxed', WHERE WHAT IT READS IS OF BULK AT MOST 1048576: true; the input reads as it did. -/
def fnExactIsRelaxedUptoRow : OpenClaim := { program := "ytioiebjgjimeiaa", sum := "059c66ac9e647e564a3e3fcaa8ceb0ff321dc387b120621001634560d8934b1c", func := "loop.example/g00852/laws.FnExactIsRelaxed", spec := "fnExactIsRelaxed", unfollowed := true, recurses := true, apart := false, narrowed := true }
def FnExactIsRelaxedUptoSaid : Prop := fnExactIsRelaxedUptoRow.holds Try.pinned (OpenSpec.upto fnExactIsRelaxedSpec)

/-- 'laws.FnAddedCycles', WHERE WHAT IT READS IS OF BULK AT MOST 1048576: true; the input reads as it did. -/
def fnAddedCyclesUptoRow : OpenClaim := { program := "ytioiebjgjimeiaa", sum := "059c66ac9e647e564a3e3fcaa8ceb0ff321dc387b120621001634560d8934b1c", func := "loop.example/g00852/laws.FnAddedCycles", spec := "fnAddedCycles", unfollowed := true, recurses := true, apart := false, narrowed := true }
def FnAddedCyclesUptoSaid : Prop := fnAddedCyclesUptoRow.holds Try.pinned (OpenSpec.upto fnAddedCyclesSpec)

/-- 'laws.FnExactLoopError', WHERE WHAT IT READS IS OF BULK AT MOST 1048576: true; the input reads as it did. -/
def fnExactLoopErrorUptoRow : OpenClaim := { program := "ytioiebjgjimeiaa", sum := "059c66ac9e647e564a3e3fcaa8ceb0ff321dc387b120621001634560d8934b1c", func := "loop.example/g00852/laws.FnExactLoopError", spec := "fnExactLoopError", unfollowed := true, recurses := true, apart := false, narrowed := true }
def FnExactLoopErrorUptoSaid : Prop := fnExactLoopErrorUptoRow.holds Try.pinned (OpenSpec.upto fnExactLoopErrorSpec)

/-- 'laws.FnExactWorstResidual', WHERE WHAT IT READS IS OF BULK AT MOST 1048576: true; the input reads as it did. -/
def fnExactWorstResidualUptoRow : OpenClaim := { program := "ytioiebjgjimeiaa", sum := "059c66ac9e647e564a3e3fcaa8ceb0ff321dc387b120621001634560d8934b1c", func := "loop.example/g00852/laws.FnExactWorstResidual", spec := "fnExactWorstResidual", unfollowed := true, recurses := true, apart := false, narrowed := true }
def FnExactWorstResidualUptoSaid : Prop := fnExactWorstResidualUptoRow.holds Try.pinned (OpenSpec.upto fnExactWorstResidualSpec)

end Rows
end Go.Proofs.Ytioiebjgjimeiaa
