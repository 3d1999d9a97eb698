/-
  No cell of these rows narrows 'for every input' (looked for: loops, veiled, ifaces, maps, wideKeys, modest, calm, conditions, laid).
  DERIVED. THE GIVEN ROWS OF THIS SEAT. 12 by the template 'for every input the law returns true; each argument reads behind the call as it read before'; 0 by the template 'total and deterministic' (their statements: YtlinofehnpmbgaaTotals.lean).
  GIVEN WITH THE SEED: the statements are not yours to turn. If you find one false, say at which input.
  Laid BY PROGRAM, IN A SANDBOX (cutbox-rows.mjs): the forced cells as the released guide's own fill.sh prints them over the translation 69b93832cc2e0e96… (all of the seat's roots in one cut). By AI agents, Wed Nov 11 2026. No macro, syntax, notation, axiom, sorry.
-/
import Derived.Test.YtlinofehnpmbgaaChecked
import GoSem.Claim
import GoSem.ClaimJoined
import GoSem.ClaimMapViews
import Derived.JoinedTies
import Derived.KernelRfl
namespace Go.Proofs.Ytlinofehnpmbgaa
/- THE CELL 'sum', in the pinned program and in every row, IS THE sha256 OF THE DUMP (.gsa) THAT YtlinofehnpmbgaaProg.lean LOADS. Nothing in Lean hashes anything: it is a label: what it is worth is what the hold of that sum in a sandbox is worth. -/
noncomputable def Try.pinned : Pinned := { name := "ytlinofehnpmbgaa", sum := "69b93832cc2e0e968d2dbec360fc02020b70fd04b913d51ca0d6df4eda7a3f65", checked := Try.checked }
namespace Rows
def none {H : Type} : Left H := { results := [], args := [] }

/-- 'laws.FnExactSplitFlow': WHATEVER THE INPUT: true; the input reads as it did. -/
def fnExactSplitFlowSpec : ChangeSpec := { name := "fnExactSplitFlow", fn := fun _ => fun
  | [d1, d2] => { results := [.lit (.bool true)], args := [d1, d2] }
  | _ => none }
def fnExactSplitFlowRow : OpenClaim := { program := "ytlinofehnpmbgaa", sum := "69b93832cc2e0e968d2dbec360fc02020b70fd04b913d51ca0d6df4eda7a3f65", func := "loop.example/g00852/laws.FnExactSplitFlow", spec := "fnExactSplitFlow", inPlace := ["math.sqrt"], apart := false }
def FnExactSplitFlowSaid : Prop := fnExactSplitFlowRow.holds Try.pinned (OpenSpec.ofChange fnExactSplitFlowSpec)

/-- ITS FALSE NEIGHBOUR: 'it returns false'. Refute it at one input. -/
def fnExactSplitFlowWrong : ChangeSpec := { name := "fnExactSplitFlow", fn := fun _ => fun
  | [d1, d2] => { results := [.lit (.bool false)], args := [d1, d2] }
  | _ => none }
def FnExactSplitFlowWrongFalsely : Prop := fnExactSplitFlowRow.holds Try.pinned (OpenSpec.ofChange fnExactSplitFlowWrong)

/-- 'laws.FnResistances': WHATEVER THE INPUT: true; the input reads as it did. -/
def fnResistancesSpec : ChangeSpec := { name := "fnResistances", fn := fun _ => fun
  | [d] => { results := [.lit (.bool true)], args := [d] }
  | _ => none }
def fnResistancesRow : OpenClaim := { program := "ytlinofehnpmbgaa", sum := "69b93832cc2e0e968d2dbec360fc02020b70fd04b913d51ca0d6df4eda7a3f65", func := "loop.example/g00852/laws.FnResistances", spec := "fnResistances", inPlace := ["math.sqrt"], apart := false }
def FnResistancesSaid : Prop := fnResistancesRow.holds Try.pinned (OpenSpec.ofChange fnResistancesSpec)

/-- ITS FALSE NEIGHBOUR: 'it returns false'. Refute it at one input. -/
def fnResistancesWrong : ChangeSpec := { name := "fnResistances", fn := fun _ => fun
  | [d] => { results := [.lit (.bool false)], args := [d] }
  | _ => none }
def FnResistancesWrongFalsely : Prop := fnResistancesRow.holds Try.pinned (OpenSpec.ofChange fnResistancesWrong)

/-- 'laws.FnSplits': WHATEVER THE INPUT: true; the input reads as it did. -/
def fnSplitsSpec : ChangeSpec := { name := "fnSplits", fn := fun _ => fun
  | [d] => { results := [.lit (.bool true)], args := [d] }
  | _ => none }
def fnSplitsRow : OpenClaim := { program := "ytlinofehnpmbgaa", sum := "69b93832cc2e0e968d2dbec360fc02020b70fd04b913d51ca0d6df4eda7a3f65", func := "loop.example/g00852/laws.FnSplits", spec := "fnSplits", inPlace := ["math.sqrt"], apart := false }
def FnSplitsSaid : Prop := fnSplitsRow.holds Try.pinned (OpenSpec.ofChange fnSplitsSpec)

/-- ITS FALSE NEIGHBOUR: 'it returns false'. Refute it at one input. -/
def fnSplitsWrong : ChangeSpec := { name := "fnSplits", fn := fun _ => fun
  | [d] => { results := [.lit (.bool false)], args := [d] }
  | _ => none }
def FnSplitsWrongFalsely : Prop := fnSplitsRow.holds Try.pinned (OpenSpec.ofChange fnSplitsWrong)

/-- 'laws.FnExactIsWithin': WHATEVER THE INPUT: true; the input reads as it did. -/
def fnExactIsWithinSpec : ChangeSpec := { name := "fnExactIsWithin", fn := fun _ => fun
  | [d1, d2] => { results := [.lit (.bool true)], args := [d1, d2] }
  | _ => none }
def fnExactIsWithinRow : OpenClaim := { program := "ytlinofehnpmbgaa", sum := "69b93832cc2e0e968d2dbec360fc02020b70fd04b913d51ca0d6df4eda7a3f65", func := "loop.example/g00852/laws.FnExactIsWithin", spec := "fnExactIsWithin", unfollowed := true, recurses := true, apart := false }
def FnExactIsWithinSaid : Prop := fnExactIsWithinRow.holds Try.pinned (OpenSpec.ofChange fnExactIsWithinSpec)

/-- ITS FALSE NEIGHBOUR: 'it returns false'. Refute it at one input. -/
def fnExactIsWithinWrong : ChangeSpec := { name := "fnExactIsWithin", fn := fun _ => fun
  | [d1, d2] => { results := [.lit (.bool false)], args := [d1, d2] }
  | _ => none }
def FnExactIsWithinWrongFalsely : Prop := fnExactIsWithinRow.holds Try.pinned (OpenSpec.ofChange fnExactIsWithinWrong)

/-- 'laws.FnExactDropOf': WHATEVER THE INPUT: true; the input reads as it did. -/
def fnExactDropOfSpec : ChangeSpec := { name := "fnExactDropOf", fn := fun _ => fun
  | [d1, d2, d3] => { results := [.lit (.bool true)], args := [d1, d2, d3] }
  | _ => none }
def fnExactDropOfRow : OpenClaim := { program := "ytlinofehnpmbgaa", sum := "69b93832cc2e0e968d2dbec360fc02020b70fd04b913d51ca0d6df4eda7a3f65", func := "loop.example/g00852/laws.FnExactDropOf", spec := "fnExactDropOf", unfollowed := true, recurses := true, apart := false }
def FnExactDropOfSaid : Prop := fnExactDropOfRow.holds Try.pinned (OpenSpec.ofChange fnExactDropOfSpec)

/-- ITS FALSE NEIGHBOUR: 'it returns false'. Refute it at one input. -/
def fnExactDropOfWrong : ChangeSpec := { name := "fnExactDropOf", fn := fun _ => fun
  | [d1, d2, d3] => { results := [.lit (.bool false)], args := [d1, d2, d3] }
  | _ => none }
def FnExactDropOfWrongFalsely : Prop := fnExactDropOfRow.holds Try.pinned (OpenSpec.ofChange fnExactDropOfWrong)

/-- 'laws.FnExactThroughputOf': WHATEVER THE INPUT: true; the input reads as it did. -/
def fnExactThroughputOfSpec : ChangeSpec := { name := "fnExactThroughputOf", fn := fun _ => fun
  | [d1, d2] => { results := [.lit (.bool true)], args := [d1, d2] }
  | _ => none }
def fnExactThroughputOfRow : OpenClaim := { program := "ytlinofehnpmbgaa", sum := "69b93832cc2e0e968d2dbec360fc02020b70fd04b913d51ca0d6df4eda7a3f65", func := "loop.example/g00852/laws.FnExactThroughputOf", spec := "fnExactThroughputOf", unfollowed := true, recurses := true, apart := false }
def FnExactThroughputOfSaid : Prop := fnExactThroughputOfRow.holds Try.pinned (OpenSpec.ofChange fnExactThroughputOfSpec)

/-- ITS FALSE NEIGHBOUR: 'it returns false'. Refute it at one input. -/
def fnExactThroughputOfWrong : ChangeSpec := { name := "fnExactThroughputOf", fn := fun _ => fun
  | [d1, d2] => { results := [.lit (.bool false)], args := [d1, d2] }
  | _ => none }
def FnExactThroughputOfWrongFalsely : Prop := fnExactThroughputOfRow.holds Try.pinned (OpenSpec.ofChange fnExactThroughputOfWrong)

/-- 'laws.FnExactEnergyOf': WHATEVER THE INPUT: true; the input reads as it did. -/
def fnExactEnergyOfSpec : ChangeSpec := { name := "fnExactEnergyOf", fn := fun _ => fun
  | [d1, d2] => { results := [.lit (.bool true)], args := [d1, d2] }
  | _ => none }
def fnExactEnergyOfRow : OpenClaim := { program := "ytlinofehnpmbgaa", sum := "69b93832cc2e0e968d2dbec360fc02020b70fd04b913d51ca0d6df4eda7a3f65", func := "loop.example/g00852/laws.FnExactEnergyOf", spec := "fnExactEnergyOf", unfollowed := true, recurses := true, apart := false }
def FnExactEnergyOfSaid : Prop := fnExactEnergyOfRow.holds Try.pinned (OpenSpec.ofChange fnExactEnergyOfSpec)

/-- ITS FALSE NEIGHBOUR: 'it returns false'. Refute it at one input. -/
def fnExactEnergyOfWrong : ChangeSpec := { name := "fnExactEnergyOf", fn := fun _ => fun
  | [d1, d2] => { results := [.lit (.bool false)], args := [d1, d2] }
  | _ => none }
def FnExactEnergyOfWrongFalsely : Prop := fnExactEnergyOfRow.holds Try.pinned (OpenSpec.ofChange fnExactEnergyOfWrong)

/-- 'laws.FnExactTransitOf': WHATEVER THE INPUT: true; the input reads as it did. -/
def fnExactTransitOfSpec : ChangeSpec := { name := "fnExactTransitOf", fn := fun _ => fun
  | [d1, d2, d3] => { results := [.lit (.bool true)], args := [d1, d2, d3] }
  | _ => none }
def fnExactTransitOfRow : OpenClaim := { program := "ytlinofehnpmbgaa", sum := "69b93832cc2e0e968d2dbec360fc02020b70fd04b913d51ca0d6df4eda7a3f65", func := "loop.example/g00852/laws.FnExactTransitOf", spec := "fnExactTransitOf", unfollowed := true, recurses := true, apart := false }
def FnExactTransitOfSaid : Prop := fnExactTransitOfRow.holds Try.pinned (OpenSpec.ofChange fnExactTransitOfSpec)

/-- ITS FALSE NEIGHBOUR: 'it returns false'. Refute it at one input. -/
def fnExactTransitOfWrong : ChangeSpec := { name := "fnExactTransitOf", fn := fun _ => fun
  | [d1, d2, d3] => { results := [.lit (.bool false)], args := [d1, d2, d3] }
  | _ => none }
def FnExactTransitOfWrongFalsely : Prop := fnExactTransitOfRow.holds Try.pinned (OpenSpec.ofChange fnExactTransitOfWrong)

/-- 'laws.FnExactIsBalanced': WHATEVER THE INPUT: true; the input reads as it did. -/
def fnExactIsBalancedSpec : ChangeSpec := { name := "fnExactIsBalanced", fn := fun _ => fun
  | [d1, d2, d3] => { results := [.lit (.bool true)], args := [d1, d2, d3] }
  | _ => none }
def fnExactIsBalancedRow : OpenClaim := { program := "ytlinofehnpmbgaa", sum := "69b93832cc2e0e968d2dbec360fc02020b70fd04b913d51ca0d6df4eda7a3f65", func := "loop.example/g00852/laws.FnExactIsBalanced", spec := "fnExactIsBalanced", unfollowed := true, recurses := true, apart := false }
def FnExactIsBalancedSaid : Prop := fnExactIsBalancedRow.holds Try.pinned (OpenSpec.ofChange fnExactIsBalancedSpec)

/-- ITS FALSE NEIGHBOUR: 'it returns false'. Refute it at one input. -/
def fnExactIsBalancedWrong : ChangeSpec := { name := "fnExactIsBalanced", fn := fun _ => fun
  | [d1, d2, d3] => { results := [.lit (.bool false)], args := [d1, d2, d3] }
  | _ => none }
def FnExactIsBalancedWrongFalsely : Prop := fnExactIsBalancedRow.holds Try.pinned (OpenSpec.ofChange fnExactIsBalancedWrong)

/-- 'laws.FnExactOverLimit': WHATEVER THE INPUT: true; the input reads as it did. -/
def fnExactOverLimitSpec : ChangeSpec := { name := "fnExactOverLimit", fn := fun _ => fun
  | [d1, d2] => { results := [.lit (.bool true)], args := [d1, d2] }
  | _ => none }
def fnExactOverLimitRow : OpenClaim := { program := "ytlinofehnpmbgaa", sum := "69b93832cc2e0e968d2dbec360fc02020b70fd04b913d51ca0d6df4eda7a3f65", func := "loop.example/g00852/laws.FnExactOverLimit", spec := "fnExactOverLimit", unfollowed := true, recurses := true, apart := false }
def FnExactOverLimitSaid : Prop := fnExactOverLimitRow.holds Try.pinned (OpenSpec.ofChange fnExactOverLimitSpec)

/-- ITS FALSE NEIGHBOUR: 'it returns false'. Refute it at one input. -/
def fnExactOverLimitWrong : ChangeSpec := { name := "fnExactOverLimit", fn := fun _ => fun
  | [d1, d2] => { results := [.lit (.bool false)], args := [d1, d2] }
  | _ => none }
def FnExactOverLimitWrongFalsely : Prop := fnExactOverLimitRow.holds Try.pinned (OpenSpec.ofChange fnExactOverLimitWrong)

/-- 'laws.FnExactDropsOf': WHATEVER THE INPUT: true; the input reads as it did. -/
def fnExactDropsOfSpec : ChangeSpec := { name := "fnExactDropsOf", fn := fun _ => fun
  | [d1, d2] => { results := [.lit (.bool true)], args := [d1, d2] }
  | _ => none }
def fnExactDropsOfRow : OpenClaim := { program := "ytlinofehnpmbgaa", sum := "69b93832cc2e0e968d2dbec360fc02020b70fd04b913d51ca0d6df4eda7a3f65", func := "loop.example/g00852/laws.FnExactDropsOf", spec := "fnExactDropsOf", unfollowed := true, recurses := true, apart := false }
def FnExactDropsOfSaid : Prop := fnExactDropsOfRow.holds Try.pinned (OpenSpec.ofChange fnExactDropsOfSpec)

/-- ITS FALSE NEIGHBOUR: 'it returns false'. Refute it at one input. -/
def fnExactDropsOfWrong : ChangeSpec := { name := "fnExactDropsOf", fn := fun _ => fun
  | [d1, d2] => { results := [.lit (.bool false)], args := [d1, d2] }
  | _ => none }
def FnExactDropsOfWrongFalsely : Prop := fnExactDropsOfRow.holds Try.pinned (OpenSpec.ofChange fnExactDropsOfWrong)

/-- 'laws.FnExactSuppliesOf': WHATEVER THE INPUT: true; the input reads as it did. -/
def fnExactSuppliesOfSpec : ChangeSpec := { name := "fnExactSuppliesOf", fn := fun _ => fun
  | [d1, d2] => { results := [.lit (.bool true)], args := [d1, d2] }
  | _ => none }
def fnExactSuppliesOfRow : OpenClaim := { program := "ytlinofehnpmbgaa", sum := "69b93832cc2e0e968d2dbec360fc02020b70fd04b913d51ca0d6df4eda7a3f65", func := "loop.example/g00852/laws.FnExactSuppliesOf", spec := "fnExactSuppliesOf", unfollowed := true, recurses := true, apart := false }
def FnExactSuppliesOfSaid : Prop := fnExactSuppliesOfRow.holds Try.pinned (OpenSpec.ofChange fnExactSuppliesOfSpec)

/-- ITS FALSE NEIGHBOUR: 'it returns false'. Refute it at one input. -/
def fnExactSuppliesOfWrong : ChangeSpec := { name := "fnExactSuppliesOf", fn := fun _ => fun
  | [d1, d2] => { results := [.lit (.bool false)], args := [d1, d2] }
  | _ => none }
def FnExactSuppliesOfWrongFalsely : Prop := fnExactSuppliesOfRow.holds Try.pinned (OpenSpec.ofChange fnExactSuppliesOfWrong)

/- THE SECOND FORM. 'bulk': how many values and letters a reading holds, each counted each time it is reached (what is shared counts as often as it is met; a slice's spare places count too). A statement '..UptoSaid' is the law's where the arguments, and the package variables that the reading takes, are together of bulk at most 1048576: NARROWER than '..Said'. Prove '..Said' where nothing that the law and all that it calls make is longer than what came in: it says more and counts as full. Else prove '..UptoSaid'. A law counts once. -/
mutual
def uptoBulk {H : Type} : DataW H → Nat
  | .lit (.string bytes) => bytes.length + 1
  | .lit _ => 1
  | .nil => 1
  | .ptr d => uptoBulk d + 1
  | .slice elems spare => uptoBulkAll elems + uptoBulkAll spare + 1
  | .agg parts => uptoBulkAll parts + 1
  | .iface _ d => uptoBulk d + 1
  | .map entries => uptoBulkEntries entries + 1
  | .held _ => 1
def uptoBulkAll {H : Type} : List (DataW H) → Nat
  | [] => 0
  | d :: r => uptoBulk d + uptoBulkAll r
def uptoBulkEntries {H : Type} : List (Lit × DataW H) → Nat
  | [] => 0
  | x :: r => uptoBulkEntry x + uptoBulkEntries r
def uptoBulkEntry {H : Type} : Lit × DataW H → Nat
  | (.string bytes, d) => bytes.length + uptoBulk d + 1
  | (_, d) => uptoBulk d + 1
 end
def uptoSmall : (H : Type) → List (DataW H) → Bool := fun _ ds => decide (uptoBulkAll ds ≤ 1048576)
def OpenSpec.upto (s : _root_.Go.ChangeSpec) : _root_.Go.OpenSpec := { _root_.Go.OpenSpec.ofChange s with cond := some uptoSmall }

/-- 'laws.FnExactSplitFlow', WHERE WHAT IT READS IS OF BULK AT MOST 1048576: true; the input reads as it did. -/
def fnExactSplitFlowUptoRow : OpenClaim := { program := "ytlinofehnpmbgaa", sum := "69b93832cc2e0e968d2dbec360fc02020b70fd04b913d51ca0d6df4eda7a3f65", func := "loop.example/g00852/laws.FnExactSplitFlow", spec := "fnExactSplitFlow", inPlace := ["math.sqrt"], apart := false, narrowed := true }
def FnExactSplitFlowUptoSaid : Prop := fnExactSplitFlowUptoRow.holds Try.pinned (OpenSpec.upto fnExactSplitFlowSpec)

/-- 'laws.FnResistances', WHERE WHAT IT READS IS OF BULK AT MOST 1048576: true; the input reads as it did. -/
def fnResistancesUptoRow : OpenClaim := { program := "ytlinofehnpmbgaa", sum := "69b93832cc2e0e968d2dbec360fc02020b70fd04b913d51ca0d6df4eda7a3f65", func := "loop.example/g00852/laws.FnResistances", spec := "fnResistances", inPlace := ["math.sqrt"], apart := false, narrowed := true }
def FnResistancesUptoSaid : Prop := fnResistancesUptoRow.holds Try.pinned (OpenSpec.upto fnResistancesSpec)

/-- 'laws.FnSplits', WHERE WHAT IT READS IS OF BULK AT MOST 1048576: true; the input reads as it did. -/
def fnSplitsUptoRow : OpenClaim := { program := "ytlinofehnpmbgaa", sum := "69b93832cc2e0e968d2dbec360fc02020b70fd04b913d51ca0d6df4eda7a3f65", func := "loop.example/g00852/laws.FnSplits", spec := "fnSplits", inPlace := ["math.sqrt"], apart := false, narrowed := true }
def FnSplitsUptoSaid : Prop := fnSplitsUptoRow.holds Try.pinned (OpenSpec.upto fnSplitsSpec)

/-- 'laws.FnExactIsWithin', WHERE WHAT IT READS IS OF BULK AT MOST 1048576: true; the input reads as it did. -/
def fnExactIsWithinUptoRow : OpenClaim := { program := "ytlinofehnpmbgaa", sum := "69b93832cc2e0e968d2dbec360fc02020b70fd04b913d51ca0d6df4eda7a3f65", func := "loop.example/g00852/laws.FnExactIsWithin", spec := "fnExactIsWithin", unfollowed := true, recurses := true, apart := false, narrowed := true }
def FnExactIsWithinUptoSaid : Prop := fnExactIsWithinUptoRow.holds Try.pinned (OpenSpec.upto fnExactIsWithinSpec)

/-- 'laws.FnExactDropOf', WHERE WHAT IT READS IS OF BULK AT MOST 1048576: true; the input reads as it did. -/
def fnExactDropOfUptoRow : OpenClaim := { program := "ytlinofehnpmbgaa", sum := "69b93832cc2e0e968d2dbec360fc02020b70fd04b913d51ca0d6df4eda7a3f65", func := "loop.example/g00852/laws.FnExactDropOf", spec := "fnExactDropOf", unfollowed := true, recurses := true, apart := false, narrowed := true }
def FnExactDropOfUptoSaid : Prop := fnExactDropOfUptoRow.holds Try.pinned (OpenSpec.upto fnExactDropOfSpec)

/-- 'laws.FnExactThroughputOf', WHERE WHAT IT READS IS OF BULK AT MOST 1048576: true; the input reads as it did. -/
def fnExactThroughputOfUptoRow : OpenClaim := { program := "ytlinofehnpmbgaa", sum := "69b93832cc2e0e968d2dbec360fc02020b70fd04b913d51ca0d6df4eda7a3f65", func := "loop.example/g00852/laws.FnExactThroughputOf", spec := "fnExactThroughputOf", unfollowed := true, recurses := true, apart := false, narrowed := true }
def FnExactThroughputOfUptoSaid : Prop := fnExactThroughputOfUptoRow.holds Try.pinned (OpenSpec.upto fnExactThroughputOfSpec)

/-- 'laws.FnExactEnergyOf', WHERE WHAT IT READS IS OF BULK AT MOST 1048576: true; the input reads as it did. -/
def fnExactEnergyOfUptoRow : OpenClaim := { program := "ytlinofehnpmbgaa", sum := "69b93832cc2e0e968d2dbec360fc02020b70fd04b913d51ca0d6df4eda7a3f65", func := "loop.example/g00852/laws.FnExactEnergyOf", spec := "fnExactEnergyOf", unfollowed := true, recurses := true, apart := false, narrowed := true }
def FnExactEnergyOfUptoSaid : Prop := fnExactEnergyOfUptoRow.holds Try.pinned (OpenSpec.upto fnExactEnergyOfSpec)

/-- 'laws.FnExactTransitOf', WHERE WHAT IT READS IS OF BULK AT MOST 1048576: true; the input reads as it did. -/
def fnExactTransitOfUptoRow : OpenClaim := { program := "ytlinofehnpmbgaa", sum := "69b93832cc2e0e968d2dbec360fc02020b70fd04b913d51ca0d6df4eda7a3f65", func := "loop.example/g00852/laws.FnExactTransitOf", spec := "fnExactTransitOf", unfollowed := true, recurses := true, apart := false, narrowed := true }
def FnExactTransitOfUptoSaid : Prop := fnExactTransitOfUptoRow.holds Try.pinned (OpenSpec.upto fnExactTransitOfSpec)

/-- 'laws.FnExactIsBalanced', WHERE WHAT IT READS IS OF BULK AT MOST 1048576: true; the input reads as it did. -/
def fnExactIsBalancedUptoRow : OpenClaim := { program := "ytlinofehnpmbgaa", sum := "69b93832cc2e0e968d2dbec360fc02020b70fd04b913d51ca0d6df4eda7a3f65", func := "loop.example/g00852/laws.FnExactIsBalanced", spec := "fnExactIsBalanced", unfollowed := true, recurses := true, apart := false, narrowed := true }
def FnExactIsBalancedUptoSaid : Prop := fnExactIsBalancedUptoRow.holds Try.pinned (OpenSpec.upto fnExactIsBalancedSpec)

/-- 'laws.FnExactOverLimit', WHERE WHAT IT READS IS OF BULK AT MOST 1048576: true; the input reads as it did. -/
def fnExactOverLimitUptoRow : OpenClaim := { program := "ytlinofehnpmbgaa", sum := "69b93832cc2e0e968d2dbec360fc02020b70fd04b913d51ca0d6df4eda7a3f65", func := "loop.example/g00852/laws.FnExactOverLimit", spec := "fnExactOverLimit", unfollowed := true, recurses := true, apart := false, narrowed := true }
def FnExactOverLimitUptoSaid : Prop := fnExactOverLimitUptoRow.holds Try.pinned (OpenSpec.upto fnExactOverLimitSpec)

/-- 'laws.FnExactDropsOf', WHERE WHAT IT READS IS OF BULK AT MOST 1048576: true; the input reads as it did. -/
def fnExactDropsOfUptoRow : OpenClaim := { program := "ytlinofehnpmbgaa", sum := "69b93832cc2e0e968d2dbec360fc02020b70fd04b913d51ca0d6df4eda7a3f65", func := "loop.example/g00852/laws.FnExactDropsOf", spec := "fnExactDropsOf", unfollowed := true, recurses := true, apart := false, narrowed := true }
def FnExactDropsOfUptoSaid : Prop := fnExactDropsOfUptoRow.holds Try.pinned (OpenSpec.upto fnExactDropsOfSpec)

/-- 'laws.FnExactSuppliesOf', WHERE WHAT IT READS IS OF BULK AT MOST 1048576: true; the input reads as it did. -/
def fnExactSuppliesOfUptoRow : OpenClaim := { program := "ytlinofehnpmbgaa", sum := "69b93832cc2e0e968d2dbec360fc02020b70fd04b913d51ca0d6df4eda7a3f65", func := "loop.example/g00852/laws.FnExactSuppliesOf", spec := "fnExactSuppliesOf", unfollowed := true, recurses := true, apart := false, narrowed := true }
def FnExactSuppliesOfUptoSaid : Prop := fnExactSuppliesOfUptoRow.holds Try.pinned (OpenSpec.upto fnExactSuppliesOfSpec)

end Rows
end Go.Proofs.Ytlinofehnpmbgaa
