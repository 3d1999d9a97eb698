/-
  No cell of these rows narrows 'for every input' (looked for: loops, veiled, ifaces, maps, wideKeys, modest, calm, conditions, laid).
  DERIVED. THE GIVEN ROWS OF THIS SEAT. 12 by the template 'for every input the law returns true; each argument reads behind the call as it read before'; 0 by the template 'total and deterministic' (their statements: YtahmhmicegjdkaaTotals.lean).
  GIVEN WITH THE SEED: the statements are not yours to turn. If you find one false, say at which input.
  Laid BY PROGRAM, IN A SANDBOX (cutbox-rows.mjs): the forced cells as the released guide's own fill.sh prints them over the translation 242214851c7787df… (all of the seat's roots in one cut). By AI agents, Wed Nov 11 2026. No macro, syntax, notation, axiom, sorry.
-/
import Derived.Test.YtahmhmicegjdkaaChecked
import GoSem.Claim
import GoSem.ClaimJoined
import GoSem.ClaimMapViews
import Derived.JoinedTies
import Derived.KernelRfl
namespace Go.Proofs.Ytahmhmicegjdkaa
/- THE CELL 'sum', in the pinned program and in every row, IS THE sha256 OF THE DUMP (.gsa) THAT YtahmhmicegjdkaaProg.lean LOADS. Nothing in Lean hashes anything: it is a label: what it is worth is what the hold of that sum in a sandbox is worth. -/
noncomputable def Try.pinned : Pinned := { name := "ytahmhmicegjdkaa", sum := "242214851c7787df6a4f72eedeacf6d8d2820702cfc2563de6fb9d09c9cf77e5", checked := Try.checked }
namespace Rows
def none {H : Type} : Left H := { results := [], args := [] }

/-- 'laws.FnExactIsBalanced': WHATEVER THE INPUT: true; the input reads as it did. -/
def fnExactIsBalancedSpec : ChangeSpec := { name := "fnExactIsBalanced", fn := fun _ => fun
  | [d1, d2, d3] => { results := [.lit (.bool true)], args := [d1, d2, d3] }
  | _ => none }
def fnExactIsBalancedRow : OpenClaim := { program := "ytahmhmicegjdkaa", sum := "242214851c7787df6a4f72eedeacf6d8d2820702cfc2563de6fb9d09c9cf77e5", func := "loop.example/g00852/laws.FnExactIsBalanced", spec := "fnExactIsBalanced", unfollowed := true, recurses := true, apart := false }
def FnExactIsBalancedSaid : Prop := fnExactIsBalancedRow.holds Try.pinned (OpenSpec.ofChange fnExactIsBalancedSpec)

/-- ITS FALSE NEIGHBOUR: 'it returns false'. Refute it at one input. -/
def fnExactIsBalancedWrong : ChangeSpec := { name := "fnExactIsBalanced", fn := fun _ => fun
  | [d1, d2, d3] => { results := [.lit (.bool false)], args := [d1, d2, d3] }
  | _ => none }
def FnExactIsBalancedWrongFalsely : Prop := fnExactIsBalancedRow.holds Try.pinned (OpenSpec.ofChange fnExactIsBalancedWrong)

/-- 'laws.FnExactOverLimit': WHATEVER THE INPUT: true; the input reads as it did. -/
def fnExactOverLimitSpec : ChangeSpec := { name := "fnExactOverLimit", fn := fun _ => fun
  | [d1, d2] => { results := [.lit (.bool true)], args := [d1, d2] }
  | _ => none }
def fnExactOverLimitRow : OpenClaim := { program := "ytahmhmicegjdkaa", sum := "242214851c7787df6a4f72eedeacf6d8d2820702cfc2563de6fb9d09c9cf77e5", func := "loop.example/g00852/laws.FnExactOverLimit", spec := "fnExactOverLimit", unfollowed := true, recurses := true, apart := false }
def FnExactOverLimitSaid : Prop := fnExactOverLimitRow.holds Try.pinned (OpenSpec.ofChange fnExactOverLimitSpec)

/-- ITS FALSE NEIGHBOUR: 'it returns false'. Refute it at one input. -/
def fnExactOverLimitWrong : ChangeSpec := { name := "fnExactOverLimit", fn := fun _ => fun
  | [d1, d2] => { results := [.lit (.bool false)], args := [d1, d2] }
  | _ => none }
def FnExactOverLimitWrongFalsely : Prop := fnExactOverLimitRow.holds Try.pinned (OpenSpec.ofChange fnExactOverLimitWrong)

/-- 'laws.FnExactDropsOf': WHATEVER THE INPUT: true; the input reads as it did. -/
def fnExactDropsOfSpec : ChangeSpec := { name := "fnExactDropsOf", fn := fun _ => fun
  | [d1, d2] => { results := [.lit (.bool true)], args := [d1, d2] }
  | _ => none }
def fnExactDropsOfRow : OpenClaim := { program := "ytahmhmicegjdkaa", sum := "242214851c7787df6a4f72eedeacf6d8d2820702cfc2563de6fb9d09c9cf77e5", func := "loop.example/g00852/laws.FnExactDropsOf", spec := "fnExactDropsOf", unfollowed := true, recurses := true, apart := false }
def FnExactDropsOfSaid : Prop := fnExactDropsOfRow.holds Try.pinned (OpenSpec.ofChange fnExactDropsOfSpec)

/-- ITS FALSE NEIGHBOUR: 'it returns false'. Refute it at one input. -/
def fnExactDropsOfWrong : ChangeSpec := { name := "fnExactDropsOf", fn := fun _ => fun
  | [d1, d2] => { results := [.lit (.bool false)], args := [d1, d2] }
  | _ => none }
def FnExactDropsOfWrongFalsely : Prop := fnExactDropsOfRow.holds Try.pinned (OpenSpec.ofChange fnExactDropsOfWrong)

/-- 'laws.FnGaps': WHATEVER THE INPUT: true; the input reads as it did. -/
def fnGapsSpec : ChangeSpec := { name := "fnGaps", fn := fun _ => fun
  | [d] => { results := [.lit (.bool true)], args := [d] }
  | _ => none }
def fnGapsRow : OpenClaim := { program := "ytahmhmicegjdkaa", sum := "242214851c7787df6a4f72eedeacf6d8d2820702cfc2563de6fb9d09c9cf77e5", func := "loop.example/g00852/laws.FnGaps", spec := "fnGaps", unfollowed := true, recurses := true, apart := false }
def FnGapsSaid : Prop := fnGapsRow.holds Try.pinned (OpenSpec.ofChange fnGapsSpec)

/-- ITS FALSE NEIGHBOUR: 'it returns false'. Refute it at one input. -/
def fnGapsWrong : ChangeSpec := { name := "fnGaps", fn := fun _ => fun
  | [d] => { results := [.lit (.bool false)], args := [d] }
  | _ => none }
def FnGapsWrongFalsely : Prop := fnGapsRow.holds Try.pinned (OpenSpec.ofChange fnGapsWrong)

/-- 'laws.FnExactForestLevels': WHATEVER THE INPUT: true; the input reads as it did. -/
def fnExactForestLevelsSpec : ChangeSpec := { name := "fnExactForestLevels", fn := fun _ => fun
  | [d1, d2, d3, d4] => { results := [.lit (.bool true)], args := [d1, d2, d3, d4] }
  | _ => none }
def fnExactForestLevelsRow : OpenClaim := { program := "ytahmhmicegjdkaa", sum := "242214851c7787df6a4f72eedeacf6d8d2820702cfc2563de6fb9d09c9cf77e5", func := "loop.example/g00852/laws.FnExactForestLevels", spec := "fnExactForestLevels", unfollowed := true, recurses := true, apart := false }
def FnExactForestLevelsSaid : Prop := fnExactForestLevelsRow.holds Try.pinned (OpenSpec.ofChange fnExactForestLevelsSpec)

/-- ITS FALSE NEIGHBOUR: 'it returns false'. Refute it at one input. -/
def fnExactForestLevelsWrong : ChangeSpec := { name := "fnExactForestLevels", fn := fun _ => fun
  | [d1, d2, d3, d4] => { results := [.lit (.bool false)], args := [d1, d2, d3, d4] }
  | _ => none }
def FnExactForestLevelsWrongFalsely : Prop := fnExactForestLevelsRow.holds Try.pinned (OpenSpec.ofChange fnExactForestLevelsWrong)

/-- 'laws.FnExactMiddleLevel': WHATEVER THE INPUT: true; the input reads as it did. -/
def fnExactMiddleLevelSpec : ChangeSpec := { name := "fnExactMiddleLevel", fn := fun _ => fun
  | [d1, d2, d3] => { results := [.lit (.bool true)], args := [d1, d2, d3] }
  | _ => none }
def fnExactMiddleLevelRow : OpenClaim := { program := "ytahmhmicegjdkaa", sum := "242214851c7787df6a4f72eedeacf6d8d2820702cfc2563de6fb9d09c9cf77e5", func := "loop.example/g00852/laws.FnExactMiddleLevel", spec := "fnExactMiddleLevel", unfollowed := true, recurses := true, apart := false }
def FnExactMiddleLevelSaid : Prop := fnExactMiddleLevelRow.holds Try.pinned (OpenSpec.ofChange fnExactMiddleLevelSpec)

/-- ITS FALSE NEIGHBOUR: 'it returns false'. Refute it at one input. -/
def fnExactMiddleLevelWrong : ChangeSpec := { name := "fnExactMiddleLevel", fn := fun _ => fun
  | [d1, d2, d3] => { results := [.lit (.bool false)], args := [d1, d2, d3] }
  | _ => none }
def FnExactMiddleLevelWrongFalsely : Prop := fnExactMiddleLevelRow.holds Try.pinned (OpenSpec.ofChange fnExactMiddleLevelWrong)

/-- 'laws.FnExactForestFlows': WHATEVER THE INPUT: true; the input reads as it did. -/
def fnExactForestFlowsSpec : ChangeSpec := { name := "fnExactForestFlows", fn := fun _ => fun
  | [d1, d2] => { results := [.lit (.bool true)], args := [d1, d2] }
  | _ => none }
def fnExactForestFlowsRow : OpenClaim := { program := "ytahmhmicegjdkaa", sum := "242214851c7787df6a4f72eedeacf6d8d2820702cfc2563de6fb9d09c9cf77e5", func := "loop.example/g00852/laws.FnExactForestFlows", spec := "fnExactForestFlows", unfollowed := true, recurses := true, apart := false }
def FnExactForestFlowsSaid : Prop := fnExactForestFlowsRow.holds Try.pinned (OpenSpec.ofChange fnExactForestFlowsSpec)

/-- ITS FALSE NEIGHBOUR: 'it returns false'. Refute it at one input. -/
def fnExactForestFlowsWrong : ChangeSpec := { name := "fnExactForestFlows", fn := fun _ => fun
  | [d1, d2] => { results := [.lit (.bool false)], args := [d1, d2] }
  | _ => none }
def FnExactForestFlowsWrongFalsely : Prop := fnExactForestFlowsRow.holds Try.pinned (OpenSpec.ofChange fnExactForestFlowsWrong)

/-- 'laws.FnRootRange': WHATEVER THE INPUT: true; the input reads as it did. -/
def fnRootRangeSpec : ChangeSpec := { name := "fnRootRange", fn := fun _ => fun
  | [d] => { results := [.lit (.bool true)], args := [d] }
  | _ => none }
def fnRootRangeRow : OpenClaim := { program := "ytahmhmicegjdkaa", sum := "242214851c7787df6a4f72eedeacf6d8d2820702cfc2563de6fb9d09c9cf77e5", func := "loop.example/g00852/laws.FnRootRange", spec := "fnRootRange", unfollowed := true, recurses := true, apart := false }
def FnRootRangeSaid : Prop := fnRootRangeRow.holds Try.pinned (OpenSpec.ofChange fnRootRangeSpec)

/-- ITS FALSE NEIGHBOUR: 'it returns false'. Refute it at one input. -/
def fnRootRangeWrong : ChangeSpec := { name := "fnRootRange", fn := fun _ => fun
  | [d] => { results := [.lit (.bool false)], args := [d] }
  | _ => none }
def FnRootRangeWrongFalsely : Prop := fnRootRangeRow.holds Try.pinned (OpenSpec.ofChange fnRootRangeWrong)

/-- 'laws.FnExactTightNodes': WHATEVER THE INPUT: true; the input reads as it did. -/
def fnExactTightNodesSpec : ChangeSpec := { name := "fnExactTightNodes", fn := fun _ => fun
  | [d1, d2, d3, d4] => { results := [.lit (.bool true)], args := [d1, d2, d3, d4] }
  | _ => none }
def fnExactTightNodesRow : OpenClaim := { program := "ytahmhmicegjdkaa", sum := "242214851c7787df6a4f72eedeacf6d8d2820702cfc2563de6fb9d09c9cf77e5", func := "loop.example/g00852/laws.FnExactTightNodes", spec := "fnExactTightNodes", unfollowed := true, recurses := true, apart := false }
def FnExactTightNodesSaid : Prop := fnExactTightNodesRow.holds Try.pinned (OpenSpec.ofChange fnExactTightNodesSpec)

/-- ITS FALSE NEIGHBOUR: 'it returns false'. Refute it at one input. -/
def fnExactTightNodesWrong : ChangeSpec := { name := "fnExactTightNodes", fn := fun _ => fun
  | [d1, d2, d3, d4] => { results := [.lit (.bool false)], args := [d1, d2, d3, d4] }
  | _ => none }
def FnExactTightNodesWrongFalsely : Prop := fnExactTightNodesRow.holds Try.pinned (OpenSpec.ofChange fnExactTightNodesWrong)

/-- 'laws.FnBalance': WHATEVER THE INPUT: true; the input reads as it did. -/
def fnBalanceSpec : ChangeSpec := { name := "fnBalance", fn := fun _ => fun
  | [d] => { results := [.lit (.bool true)], args := [d] }
  | _ => none }
def fnBalanceRow : OpenClaim := { program := "ytahmhmicegjdkaa", sum := "242214851c7787df6a4f72eedeacf6d8d2820702cfc2563de6fb9d09c9cf77e5", func := "loop.example/g00852/laws.FnBalance", spec := "fnBalance", unfollowed := true, recurses := true, apart := false }
def FnBalanceSaid : Prop := fnBalanceRow.holds Try.pinned (OpenSpec.ofChange fnBalanceSpec)

/-- ITS FALSE NEIGHBOUR: 'it returns false'. Refute it at one input. -/
def fnBalanceWrong : ChangeSpec := { name := "fnBalance", fn := fun _ => fun
  | [d] => { results := [.lit (.bool false)], args := [d] }
  | _ => none }
def FnBalanceWrongFalsely : Prop := fnBalanceRow.holds Try.pinned (OpenSpec.ofChange fnBalanceWrong)

/-- 'laws.FnExactTreeFlows': WHATEVER THE INPUT: true; the input reads as it did. -/
def fnExactTreeFlowsSpec : ChangeSpec := { name := "fnExactTreeFlows", fn := fun _ => fun
  | [d1, d2] => { results := [.lit (.bool true)], args := [d1, d2] }
  | _ => none }
def fnExactTreeFlowsRow : OpenClaim := { program := "ytahmhmicegjdkaa", sum := "242214851c7787df6a4f72eedeacf6d8d2820702cfc2563de6fb9d09c9cf77e5", func := "loop.example/g00852/laws.FnExactTreeFlows", spec := "fnExactTreeFlows", unfollowed := true, recurses := true, apart := false }
def FnExactTreeFlowsSaid : Prop := fnExactTreeFlowsRow.holds Try.pinned (OpenSpec.ofChange fnExactTreeFlowsSpec)

/-- ITS FALSE NEIGHBOUR: 'it returns false'. Refute it at one input. -/
def fnExactTreeFlowsWrong : ChangeSpec := { name := "fnExactTreeFlows", fn := fun _ => fun
  | [d1, d2] => { results := [.lit (.bool false)], args := [d1, d2] }
  | _ => none }
def FnExactTreeFlowsWrongFalsely : Prop := fnExactTreeFlowsRow.holds Try.pinned (OpenSpec.ofChange fnExactTreeFlowsWrong)

/-- 'laws.FnTightNodes': WHATEVER THE INPUT: true; the input reads as it did. -/
def fnTightNodesSpec : ChangeSpec := { name := "fnTightNodes", fn := fun _ => fun
  | [d] => { results := [.lit (.bool true)], args := [d] }
  | _ => none }
def fnTightNodesRow : OpenClaim := { program := "ytahmhmicegjdkaa", sum := "242214851c7787df6a4f72eedeacf6d8d2820702cfc2563de6fb9d09c9cf77e5", func := "loop.example/g00852/laws.FnTightNodes", spec := "fnTightNodes", unfollowed := true, recurses := true, apart := false }
def FnTightNodesSaid : Prop := fnTightNodesRow.holds Try.pinned (OpenSpec.ofChange fnTightNodesSpec)

/-- ITS FALSE NEIGHBOUR: 'it returns false'. Refute it at one input. -/
def fnTightNodesWrong : ChangeSpec := { name := "fnTightNodes", fn := fun _ => fun
  | [d] => { results := [.lit (.bool false)], args := [d] }
  | _ => none }
def FnTightNodesWrongFalsely : Prop := fnTightNodesRow.holds Try.pinned (OpenSpec.ofChange fnTightNodesWrong)

/- THE SECOND FORM. 'bulk': how many values and letters a reading holds, each counted each time it is reached (what is shared counts as often as it is met; a slice's spare places count too). A statement '..UptoSaid' is the law's where the arguments, and the package variables that the reading takes, are together of bulk at most 1048576: NARROWER than '..Said'. Prove '..Said' where nothing that the law and all that it calls make is longer than what came in: it says more and counts as full. Else prove '..UptoSaid'. A law counts once. -/
mutual
def uptoBulk {H : Type} : DataW H → Nat
  | .lit (.string bytes) => bytes.length + 1
  | .lit _ => 1
  | .nil => 1
  | .ptr d => uptoBulk d + 1
  | .slice elems spare => uptoBulkAll elems + uptoBulkAll spare + 1
  | .agg parts => uptoBulkAll parts + 1
  | .iface _ d => uptoBulk d + 1
  | .map entries => uptoBulkEntries entries + 1
  | .held _ => 1
def uptoBulkAll {H : Type} : List (DataW H) → Nat
  | [] => 0
  | d :: r => uptoBulk d + uptoBulkAll r
def uptoBulkEntries {H : Type} : List (Lit × DataW H) → Nat
  | [] => 0
  | x :: r => uptoBulkEntry x + uptoBulkEntries r
def uptoBulkEntry {H : Type} : Lit × DataW H → Nat
  | (.string bytes, d) => bytes.length + uptoBulk d + 1
  | (_, d) => uptoBulk d + 1
 end
def uptoSmall : (H : Type) → List (DataW H) → Bool := fun _ ds => decide (uptoBulkAll ds ≤ 1048576)
def OpenSpec.upto (s : _root_.Go.ChangeSpec) : _root_.Go.OpenSpec := { _root_.Go.OpenSpec.ofChange s with cond := some uptoSmall }

/-- 'laws.FnExactIsBalanced', WHERE WHAT IT READS IS OF BULK AT MOST 1048576: true; the input reads as it did. -/
def fnExactIsBalancedUptoRow : OpenClaim := { program := "ytahmhmicegjdkaa", sum := "242214851c7787df6a4f72eedeacf6d8d2820702cfc2563de6fb9d09c9cf77e5", func := "loop.example/g00852/laws.FnExactIsBalanced", spec := "fnExactIsBalanced", unfollowed := true, recurses := true, apart := false, narrowed := true }
def FnExactIsBalancedUptoSaid : Prop := fnExactIsBalancedUptoRow.holds Try.pinned (OpenSpec.upto fnExactIsBalancedSpec)

/-- 'laws.FnExactOverLimit', WHERE WHAT IT READS IS OF BULK AT MOST 1048576: true; the input reads as it did. -/
def fnExactOverLimitUptoRow : OpenClaim := { program := "ytahmhmicegjdkaa", sum := "242214851c7787df6a4f72eedeacf6d8d2820702cfc2563de6fb9d09c9cf77e5", func := "loop.example/g00852/laws.FnExactOverLimit", spec := "fnExactOverLimit", unfollowed := true, recurses := true, apart := false, narrowed := true }
def FnExactOverLimitUptoSaid : Prop := fnExactOverLimitUptoRow.holds Try.pinned (OpenSpec.upto fnExactOverLimitSpec)

/-- 'laws.FnExactDropsOf', WHERE WHAT IT READS IS OF BULK AT MOST 1048576: true; the input reads as it did. -/
def fnExactDropsOfUptoRow : OpenClaim := { program := "ytahmhmicegjdkaa", sum := "242214851c7787df6a4f72eedeacf6d8d2820702cfc2563de6fb9d09c9cf77e5", func := "loop.example/g00852/laws.FnExactDropsOf", spec := "fnExactDropsOf", unfollowed := true, recurses := true, apart := false, narrowed := true }
def FnExactDropsOfUptoSaid : Prop := fnExactDropsOfUptoRow.holds Try.pinned (OpenSpec.upto fnExactDropsOfSpec)

/-- 'laws.FnGaps', WHERE WHAT IT READS IS OF BULK AT MOST 1048576: true; the input reads as it did. -/
def fnGapsUptoRow : OpenClaim := { program := "ytahmhmicegjdkaa", sum := "242214851c7787df6a4f72eedeacf6d8d2820702cfc2563de6fb9d09c9cf77e5", func := "loop.example/g00852/laws.FnGaps", spec := "fnGaps", unfollowed := true, recurses := true, apart := false, narrowed := true }
def FnGapsUptoSaid : Prop := fnGapsUptoRow.holds Try.pinned (OpenSpec.upto fnGapsSpec)

/-- 'laws.FnExactForestLevels', WHERE WHAT IT READS IS OF BULK AT MOST 1048576: true; the input reads as it did. -/
def fnExactForestLevelsUptoRow : OpenClaim := { program := "ytahmhmicegjdkaa", sum := "242214851c7787df6a4f72eedeacf6d8d2820702cfc2563de6fb9d09c9cf77e5", func := "loop.example/g00852/laws.FnExactForestLevels", spec := "fnExactForestLevels", unfollowed := true, recurses := true, apart := false, narrowed := true }
def FnExactForestLevelsUptoSaid : Prop := fnExactForestLevelsUptoRow.holds Try.pinned (OpenSpec.upto fnExactForestLevelsSpec)

/-- 'laws.FnExactMiddleLevel', WHERE WHAT IT READS IS OF BULK AT MOST 1048576: true; the input reads as it did. -/
def fnExactMiddleLevelUptoRow : OpenClaim := { program := "ytahmhmicegjdkaa", sum := "242214851c7787df6a4f72eedeacf6d8d2820702cfc2563de6fb9d09c9cf77e5", func := "loop.example/g00852/laws.FnExactMiddleLevel", spec := "fnExactMiddleLevel", unfollowed := true, recurses := true, apart := false, narrowed := true }
def FnExactMiddleLevelUptoSaid : Prop := fnExactMiddleLevelUptoRow.holds Try.pinned (OpenSpec.upto fnExactMiddleLevelSpec)

/-- 'laws.FnExactForestFlows', WHERE WHAT IT READS IS OF BULK AT MOST 1048576: true; the input reads as it did. -/
def fnExactForestFlowsUptoRow : OpenClaim := { program := "ytahmhmicegjdkaa", sum := "242214851c7787df6a4f72eedeacf6d8d2820702cfc2563de6fb9d09c9cf77e5", func := "loop.example/g00852/laws.FnExactForestFlows", spec := "fnExactForestFlows", unfollowed := true, recurses := true, apart := false, narrowed := true }
def FnExactForestFlowsUptoSaid : Prop := fnExactForestFlowsUptoRow.holds Try.pinned (OpenSpec.upto fnExactForestFlowsSpec)

/-- 'laws.FnRootRange', WHERE WHAT IT READS IS OF BULK AT MOST 1048576: true; the input reads as it did. -/
def fnRootRangeUptoRow : OpenClaim := { program := "ytahmhmicegjdkaa", sum := "242214851c7787df6a4f72eedeacf6d8d2820702cfc2563de6fb9d09c9cf77e5", func := "loop.example/g00852/laws.FnRootRange", spec := "fnRootRange", unfollowed := true, recurses := true, apart := false, narrowed := true }
def FnRootRangeUptoSaid : Prop := fnRootRangeUptoRow.holds Try.pinned (OpenSpec.upto fnRootRangeSpec)

/-- 'laws.FnExactTightNodes', WHERE WHAT IT READS IS OF BULK AT MOST 1048576: true; the input reads as it did. -/
def fnExactTightNodesUptoRow : OpenClaim := { program := "ytahmhmicegjdkaa", sum := "242214851c7787df6a4f72eedeacf6d8d2820702cfc2563de6fb9d09c9cf77e5", func := "loop.example/g00852/laws.FnExactTightNodes", spec := "fnExactTightNodes", unfollowed := true, recurses := true, apart := false, narrowed := true }
def FnExactTightNodesUptoSaid : Prop := fnExactTightNodesUptoRow.holds Try.pinned (OpenSpec.upto fnExactTightNodesSpec)

/-- 'laws.FnBalance', WHERE WHAT IT READS IS OF BULK AT MOST 1048576: true; the input reads as it did. -/
def fnBalanceUptoRow : OpenClaim := { program := "ytahmhmicegjdkaa", sum := "242214851c7787df6a4f72eedeacf6d8d2820702cfc2563de6fb9d09c9cf77e5", func := "loop.example/g00852/laws.FnBalance", spec := "fnBalance", unfollowed := true, recurses := true, apart := false, narrowed := true }
def FnBalanceUptoSaid : Prop := fnBalanceUptoRow.holds Try.pinned (OpenSpec.upto fnBalanceSpec)

/-- 'laws.FnExactTreeFlows', WHERE WHAT IT READS IS OF BULK AT MOST 1048576: true; the input reads as it did. -/
def fnExactTreeFlowsUptoRow : OpenClaim := { program := "ytahmhmicegjdkaa", sum := "242214851c7787df6a4f72eedeacf6d8d2820702cfc2563de6fb9d09c9cf77e5", func := "loop.example/g00852/laws.FnExactTreeFlows", spec := "fnExactTreeFlows", unfollowed := true, recurses := true, apart := false, narrowed := true }
def FnExactTreeFlowsUptoSaid : Prop := fnExactTreeFlowsUptoRow.holds Try.pinned (OpenSpec.upto fnExactTreeFlowsSpec)

/-- 'laws.FnTightNodes', WHERE WHAT IT READS IS OF BULK AT MOST 1048576: true; the input reads as it did. -/
def fnTightNodesUptoRow : OpenClaim := { program := "ytahmhmicegjdkaa", sum := "242214851c7787df6a4f72eedeacf6d8d2820702cfc2563de6fb9d09c9cf77e5", func := "loop.example/g00852/laws.FnTightNodes", spec := "fnTightNodes", unfollowed := true, recurses := true, apart := false, narrowed := true }
def FnTightNodesUptoSaid : Prop := fnTightNodesUptoRow.holds Try.pinned (OpenSpec.upto fnTightNodesSpec)

end Rows
end Go.Proofs.Ytahmhmicegjdkaa
