/-
  No cell of these rows narrows 'for every input' (looked for: loops, veiled, ifaces, maps, wideKeys, modest, calm, conditions, laid).
  DERIVED. THE GIVEN ROWS OF THIS SEAT. 11 by the template 'for every input the law returns true; each argument reads behind the call as it read before'; 0 by the template 'total and deterministic' (their statements: YtndieicmjdkojaaTotals.lean).
  GIVEN WITH THE SEED: the statements are not yours to turn. If you find one false, say at which input.
  Laid BY PROGRAM, IN A SANDBOX (cutbox-rows.mjs): the forced cells as the released guide's own fill.sh prints them over the translation 18ae788afd695ec2… (all of the seat's roots in one cut). By AI agents, Wed Nov 11 2026. No macro, syntax, notation, axiom, sorry.
-/
import Derived.Test.YtndieicmjdkojaaChecked
import GoSem.Claim
import GoSem.ClaimJoined
import GoSem.ClaimMapViews
import Derived.JoinedTies
import Derived.KernelRfl
namespace Go.Proofs.Ytndieicmjdkojaa
/- THE CELL 'sum', in the pinned program and in every row, IS THE sha256 OF THE DUMP (.gsa) THAT YtndieicmjdkojaaProg.lean LOADS. Nothing in Lean hashes anything: it is a label: what it is worth is what the hold of that sum in a sandbox is worth. -/
noncomputable def Try.pinned : Pinned := { name := "ytndieicmjdkojaa", sum := "18ae788afd695ec27b03e6aaf031a64ffb3e3005f82cf4ebb7fcc15a57346a65", checked := Try.checked }
namespace Rows
def none {H : Type} : Left H := { results := [], args := [] }

/-- 'laws.FnRelaxedChords': WHATEVER THE INPUT: true; the input reads as it did. -/
def fnRelaxedChordsSpec : ChangeSpec := { name := "fnRelaxedChords", fn := fun _ => fun
  | [d] => { results := [.lit (.bool true)], args := [d] }
  | _ => none }
def fnRelaxedChordsRow : OpenClaim := { program := "ytndieicmjdkojaa", sum := "18ae788afd695ec27b03e6aaf031a64ffb3e3005f82cf4ebb7fcc15a57346a65", func := "loop.example/g00852/laws.FnRelaxedChords", spec := "fnRelaxedChords", unfollowed := true, recurses := true, apart := false }
def FnRelaxedChordsSaid : Prop := fnRelaxedChordsRow.holds Try.pinned (OpenSpec.ofChange fnRelaxedChordsSpec)

/-- ITS FALSE NEIGHBOUR: 'it returns false'. Refute it at one input. -/
def fnRelaxedChordsWrong : ChangeSpec := { name := "fnRelaxedChords", fn := fun _ => fun
  | [d] => { results := [.lit (.bool false)], args := [d] }
  | _ => none }
def FnRelaxedChordsWrongFalsely : Prop := fnRelaxedChordsRow.holds Try.pinned (OpenSpec.ofChange fnRelaxedChordsWrong)

/-- 'laws.FnDrops': WHATEVER THE INPUT: true; the input reads as it did. -/
def fnDropsSpec : ChangeSpec := { name := "fnDrops", fn := fun _ => fun
  | [d] => { results := [.lit (.bool true)], args := [d] }
  | _ => none }
def fnDropsRow : OpenClaim := { program := "ytndieicmjdkojaa", sum := "18ae788afd695ec27b03e6aaf031a64ffb3e3005f82cf4ebb7fcc15a57346a65", func := "loop.example/g00852/laws.FnDrops", spec := "fnDrops", unfollowed := true, recurses := true, apart := false }
def FnDropsSaid : Prop := fnDropsRow.holds Try.pinned (OpenSpec.ofChange fnDropsSpec)

/-- ITS FALSE NEIGHBOUR: 'it returns false'. Refute it at one input. -/
def fnDropsWrong : ChangeSpec := { name := "fnDrops", fn := fun _ => fun
  | [d] => { results := [.lit (.bool false)], args := [d] }
  | _ => none }
def FnDropsWrongFalsely : Prop := fnDropsRow.holds Try.pinned (OpenSpec.ofChange fnDropsWrong)

/-- 'laws.FnExactRelaxFlows': WHATEVER THE INPUT: true; the input reads as it did. -/
def fnExactRelaxFlowsSpec : ChangeSpec := { name := "fnExactRelaxFlows", fn := fun _ => fun
  | [d1, d2, d3] => { results := [.lit (.bool true)], args := [d1, d2, d3] }
  | _ => none }
def fnExactRelaxFlowsRow : OpenClaim := { program := "ytndieicmjdkojaa", sum := "18ae788afd695ec27b03e6aaf031a64ffb3e3005f82cf4ebb7fcc15a57346a65", func := "loop.example/g00852/laws.FnExactRelaxFlows", spec := "fnExactRelaxFlows", unfollowed := true, recurses := true, apart := false }
def FnExactRelaxFlowsSaid : Prop := fnExactRelaxFlowsRow.holds Try.pinned (OpenSpec.ofChange fnExactRelaxFlowsSpec)

/-- ITS FALSE NEIGHBOUR: 'it returns false'. Refute it at one input. -/
def fnExactRelaxFlowsWrong : ChangeSpec := { name := "fnExactRelaxFlows", fn := fun _ => fun
  | [d1, d2, d3] => { results := [.lit (.bool false)], args := [d1, d2, d3] }
  | _ => none }
def FnExactRelaxFlowsWrongFalsely : Prop := fnExactRelaxFlowsRow.holds Try.pinned (OpenSpec.ofChange fnExactRelaxFlowsWrong)

/-- 'laws.FnThroughput': WHATEVER THE INPUT: true; the input reads as it did. -/
def fnThroughputSpec : ChangeSpec := { name := "fnThroughput", fn := fun _ => fun
  | [d] => { results := [.lit (.bool true)], args := [d] }
  | _ => none }
def fnThroughputRow : OpenClaim := { program := "ytndieicmjdkojaa", sum := "18ae788afd695ec27b03e6aaf031a64ffb3e3005f82cf4ebb7fcc15a57346a65", func := "loop.example/g00852/laws.FnThroughput", spec := "fnThroughput", unfollowed := true, recurses := true, apart := false }
def FnThroughputSaid : Prop := fnThroughputRow.holds Try.pinned (OpenSpec.ofChange fnThroughputSpec)

/-- ITS FALSE NEIGHBOUR: 'it returns false'. Refute it at one input. -/
def fnThroughputWrong : ChangeSpec := { name := "fnThroughput", fn := fun _ => fun
  | [d] => { results := [.lit (.bool false)], args := [d] }
  | _ => none }
def FnThroughputWrongFalsely : Prop := fnThroughputRow.holds Try.pinned (OpenSpec.ofChange fnThroughputWrong)

/-- 'laws.FnExactAddFlows': WHATEVER THE INPUT: true; the input reads as it did. -/
def fnExactAddFlowsSpec : ChangeSpec := { name := "fnExactAddFlows", fn := fun _ => fun
  | [d1, d2, d3] => { results := [.lit (.bool true)], args := [d1, d2, d3] }
  | _ => none }
def fnExactAddFlowsRow : OpenClaim := { program := "ytndieicmjdkojaa", sum := "18ae788afd695ec27b03e6aaf031a64ffb3e3005f82cf4ebb7fcc15a57346a65", func := "loop.example/g00852/laws.FnExactAddFlows", spec := "fnExactAddFlows", unfollowed := true, recurses := true, apart := false }
def FnExactAddFlowsSaid : Prop := fnExactAddFlowsRow.holds Try.pinned (OpenSpec.ofChange fnExactAddFlowsSpec)

/-- ITS FALSE NEIGHBOUR: 'it returns false'. Refute it at one input. -/
def fnExactAddFlowsWrong : ChangeSpec := { name := "fnExactAddFlows", fn := fun _ => fun
  | [d1, d2, d3] => { results := [.lit (.bool false)], args := [d1, d2, d3] }
  | _ => none }
def FnExactAddFlowsWrongFalsely : Prop := fnExactAddFlowsRow.holds Try.pinned (OpenSpec.ofChange fnExactAddFlowsWrong)

/-- 'laws.FnExactIsEven': WHATEVER THE INPUT: true; the input reads as it did. -/
def fnExactIsEvenSpec : ChangeSpec := { name := "fnExactIsEven", fn := fun _ => fun
  | [d1, d2] => { results := [.lit (.bool true)], args := [d1, d2] }
  | _ => none }
def fnExactIsEvenRow : OpenClaim := { program := "ytndieicmjdkojaa", sum := "18ae788afd695ec27b03e6aaf031a64ffb3e3005f82cf4ebb7fcc15a57346a65", func := "loop.example/g00852/laws.FnExactIsEven", spec := "fnExactIsEven", unfollowed := true, recurses := true, apart := false }
def FnExactIsEvenSaid : Prop := fnExactIsEvenRow.holds Try.pinned (OpenSpec.ofChange fnExactIsEvenSpec)

/-- ITS FALSE NEIGHBOUR: 'it returns false'. Refute it at one input. -/
def fnExactIsEvenWrong : ChangeSpec := { name := "fnExactIsEven", fn := fun _ => fun
  | [d1, d2] => { results := [.lit (.bool false)], args := [d1, d2] }
  | _ => none }
def FnExactIsEvenWrongFalsely : Prop := fnExactIsEvenRow.holds Try.pinned (OpenSpec.ofChange fnExactIsEvenWrong)

/-- 'laws.FnExactGapBetween': WHATEVER THE INPUT: true; the input reads as it did. -/
def fnExactGapBetweenSpec : ChangeSpec := { name := "fnExactGapBetween", fn := fun _ => fun
  | [d1, d2, d3, d4] => { results := [.lit (.bool true)], args := [d1, d2, d3, d4] }
  | _ => none }
def fnExactGapBetweenRow : OpenClaim := { program := "ytndieicmjdkojaa", sum := "18ae788afd695ec27b03e6aaf031a64ffb3e3005f82cf4ebb7fcc15a57346a65", func := "loop.example/g00852/laws.FnExactGapBetween", spec := "fnExactGapBetween", unfollowed := true, recurses := true, apart := false }
def FnExactGapBetweenSaid : Prop := fnExactGapBetweenRow.holds Try.pinned (OpenSpec.ofChange fnExactGapBetweenSpec)

/-- ITS FALSE NEIGHBOUR: 'it returns false'. Refute it at one input. -/
def fnExactGapBetweenWrong : ChangeSpec := { name := "fnExactGapBetween", fn := fun _ => fun
  | [d1, d2, d3, d4] => { results := [.lit (.bool false)], args := [d1, d2, d3, d4] }
  | _ => none }
def FnExactGapBetweenWrongFalsely : Prop := fnExactGapBetweenRow.holds Try.pinned (OpenSpec.ofChange fnExactGapBetweenWrong)

/-- 'laws.FnExactLowestNode': WHATEVER THE INPUT: true; the input reads as it did. -/
def fnExactLowestNodeSpec : ChangeSpec := { name := "fnExactLowestNode", fn := fun _ => fun
  | [d1, d2] => { results := [.lit (.bool true)], args := [d1, d2] }
  | _ => none }
def fnExactLowestNodeRow : OpenClaim := { program := "ytndieicmjdkojaa", sum := "18ae788afd695ec27b03e6aaf031a64ffb3e3005f82cf4ebb7fcc15a57346a65", func := "loop.example/g00852/laws.FnExactLowestNode", spec := "fnExactLowestNode", unfollowed := true, recurses := true, apart := false }
def FnExactLowestNodeSaid : Prop := fnExactLowestNodeRow.holds Try.pinned (OpenSpec.ofChange fnExactLowestNodeSpec)

/-- ITS FALSE NEIGHBOUR: 'it returns false'. Refute it at one input. -/
def fnExactLowestNodeWrong : ChangeSpec := { name := "fnExactLowestNode", fn := fun _ => fun
  | [d1, d2] => { results := [.lit (.bool false)], args := [d1, d2] }
  | _ => none }
def FnExactLowestNodeWrongFalsely : Prop := fnExactLowestNodeRow.holds Try.pinned (OpenSpec.ofChange fnExactLowestNodeWrong)

/-- 'laws.FnExactBlockingPair': WHATEVER THE INPUT: true; the input reads as it did. -/
def fnExactBlockingPairSpec : ChangeSpec := { name := "fnExactBlockingPair", fn := fun _ => fun
  | [d1, d2] => { results := [.lit (.bool true)], args := [d1, d2] }
  | _ => none }
def fnExactBlockingPairRow : OpenClaim := { program := "ytndieicmjdkojaa", sum := "18ae788afd695ec27b03e6aaf031a64ffb3e3005f82cf4ebb7fcc15a57346a65", func := "loop.example/g00852/laws.FnExactBlockingPair", spec := "fnExactBlockingPair", unfollowed := true, recurses := true, apart := false }
def FnExactBlockingPairSaid : Prop := fnExactBlockingPairRow.holds Try.pinned (OpenSpec.ofChange fnExactBlockingPairSpec)

/-- ITS FALSE NEIGHBOUR: 'it returns false'. Refute it at one input. -/
def fnExactBlockingPairWrong : ChangeSpec := { name := "fnExactBlockingPair", fn := fun _ => fun
  | [d1, d2] => { results := [.lit (.bool false)], args := [d1, d2] }
  | _ => none }
def FnExactBlockingPairWrongFalsely : Prop := fnExactBlockingPairRow.holds Try.pinned (OpenSpec.ofChange fnExactBlockingPairWrong)

/-- 'laws.FnExactMissedBy': WHATEVER THE INPUT: true; the input reads as it did. -/
def fnExactMissedBySpec : ChangeSpec := { name := "fnExactMissedBy", fn := fun _ => fun
  | [d1, d2, d3, d4] => { results := [.lit (.bool true)], args := [d1, d2, d3, d4] }
  | _ => none }
def fnExactMissedByRow : OpenClaim := { program := "ytndieicmjdkojaa", sum := "18ae788afd695ec27b03e6aaf031a64ffb3e3005f82cf4ebb7fcc15a57346a65", func := "loop.example/g00852/laws.FnExactMissedBy", spec := "fnExactMissedBy", unfollowed := true, recurses := true, apart := false }
def FnExactMissedBySaid : Prop := fnExactMissedByRow.holds Try.pinned (OpenSpec.ofChange fnExactMissedBySpec)

/-- ITS FALSE NEIGHBOUR: 'it returns false'. Refute it at one input. -/
def fnExactMissedByWrong : ChangeSpec := { name := "fnExactMissedBy", fn := fun _ => fun
  | [d1, d2, d3, d4] => { results := [.lit (.bool false)], args := [d1, d2, d3, d4] }
  | _ => none }
def FnExactMissedByWrongFalsely : Prop := fnExactMissedByRow.holds Try.pinned (OpenSpec.ofChange fnExactMissedByWrong)

/-- 'laws.FnExactRootRange': WHATEVER THE INPUT: true; the input reads as it did. -/
def fnExactRootRangeSpec : ChangeSpec := { name := "fnExactRootRange", fn := fun _ => fun
  | [d1, d2, d3] => { results := [.lit (.bool true)], args := [d1, d2, d3] }
  | _ => none }
def fnExactRootRangeRow : OpenClaim := { program := "ytndieicmjdkojaa", sum := "18ae788afd695ec27b03e6aaf031a64ffb3e3005f82cf4ebb7fcc15a57346a65", func := "loop.example/g00852/laws.FnExactRootRange", spec := "fnExactRootRange", unfollowed := true, recurses := true, apart := false }
def FnExactRootRangeSaid : Prop := fnExactRootRangeRow.holds Try.pinned (OpenSpec.ofChange fnExactRootRangeSpec)

/-- ITS FALSE NEIGHBOUR: 'it returns false'. Refute it at one input. -/
def fnExactRootRangeWrong : ChangeSpec := { name := "fnExactRootRange", fn := fun _ => fun
  | [d1, d2, d3] => { results := [.lit (.bool false)], args := [d1, d2, d3] }
  | _ => none }
def FnExactRootRangeWrongFalsely : Prop := fnExactRootRangeRow.holds Try.pinned (OpenSpec.ofChange fnExactRootRangeWrong)

/- THE SECOND FORM. 'bulk': how many values and letters a reading holds, each counted each time it is reached (what is shared counts as often as it is met; a slice's spare places count too). A statement '..UptoSaid' is the law's where the arguments, and the package variables that the reading takes, are together of bulk at most 1048576: NARROWER than '..Said'. Prove '..Said' where nothing that the law and all that it calls make is longer than what came in: it says more and counts as full. Else prove '..UptoSaid'. A law counts once. -/
mutual
def uptoBulk {H : Type} : DataW H → Nat
  | .lit (.string bytes) => bytes.length + 1
  | .lit _ => 1
  | .nil => 1
  | .ptr d => uptoBulk d + 1
  | .slice elems spare => uptoBulkAll elems + uptoBulkAll spare + 1
  | .agg parts => uptoBulkAll parts + 1
  | .iface _ d => uptoBulk d + 1
  | .map entries => uptoBulkEntries entries + 1
  | .held _ => 1
def uptoBulkAll {H : Type} : List (DataW H) → Nat
  | [] => 0
  | d :: r => uptoBulk d + uptoBulkAll r
def uptoBulkEntries {H : Type} : List (Lit × DataW H) → Nat
  | [] => 0
  | x :: r => uptoBulkEntry x + uptoBulkEntries r
def uptoBulkEntry {H : Type} : Lit × DataW H → Nat
  | (.string bytes, d) => bytes.length + uptoBulk d + 1
  | (_, d) => uptoBulk d + 1
 end
def uptoSmall : (H : Type) → List (DataW H) → Bool := fun _ ds => decide (uptoBulkAll ds ≤ 1048576)
def OpenSpec.upto (s : _root_.Go.ChangeSpec) : _root_.Go.OpenSpec := { _root_.Go.OpenSpec.ofChange s with cond := some uptoSmall }

/-- 'laws.FnRelaxedChords', WHERE WHAT IT READS IS OF BULK AT MOST 1048576: true; the input reads as it did. -/
def fnRelaxedChordsUptoRow : OpenClaim := { program := "ytndieicmjdkojaa", sum := "18ae788afd695ec27b03e6aaf031a64ffb3e3005f82cf4ebb7fcc15a57346a65", func := "loop.example/g00852/laws.FnRelaxedChords", spec := "fnRelaxedChords", unfollowed := true, recurses := true, apart := false, narrowed := true }
def FnRelaxedChordsUptoSaid : Prop := fnRelaxedChordsUptoRow.holds Try.pinned (OpenSpec.upto fnRelaxedChordsSpec)

/-- 'laws.FnDrops', WHERE WHAT IT READS IS OF BULK AT MOST 1048576: true; the input reads as it did. -/
def fnDropsUptoRow : OpenClaim := { program := "ytndieicmjdkojaa", sum := "18ae788afd695ec27b03e6aaf031a64ffb3e3005f82cf4ebb7fcc15a57346a65", func := "loop.example/g00852/laws.FnDrops", spec := "fnDrops", unfollowed := true, recurses := true, apart := false, narrowed := true }
def FnDropsUptoSaid : Prop := fnDropsUptoRow.holds Try.pinned (OpenSpec.upto fnDropsSpec)

/-- 'laws.FnExactRelaxFlows', WHERE WHAT IT READS IS OF BULK AT MOST 1048576: true; the input reads as it did. -/
def fnExactRelaxFlowsUptoRow : OpenClaim := { program := "ytndieicmjdkojaa", sum := "18ae788afd695ec27b03e6aaf031a64ffb3e3005f82cf4ebb7fcc15a57346a65", func := "loop.example/g00852/laws.FnExactRelaxFlows", spec := "fnExactRelaxFlows", unfollowed := true, recurses := true, apart := false, narrowed := true }
def FnExactRelaxFlowsUptoSaid : Prop := fnExactRelaxFlowsUptoRow.holds Try.pinned (OpenSpec.upto fnExactRelaxFlowsSpec)

/-- 'laws.FnThroughput', WHERE WHAT IT READS IS OF BULK AT MOST 1048576: true; the input reads as it did. -/
def fnThroughputUptoRow : OpenClaim := { program := "ytndieicmjdkojaa", sum := "18ae788afd695ec27b03e6aaf031a64ffb3e3005f82cf4ebb7fcc15a57346a65", func := "loop.example/g00852/laws.FnThroughput", spec := "fnThroughput", unfollowed := true, recurses := true, apart := false, narrowed := true }
def FnThroughputUptoSaid : Prop := fnThroughputUptoRow.holds Try.pinned (OpenSpec.upto fnThroughputSpec)

/-- 'laws.FnExactAddFlows', WHERE WHAT IT READS IS OF BULK AT MOST 1048576: true; the input reads as it did. -/
def fnExactAddFlowsUptoRow : OpenClaim := { program := "ytndieicmjdkojaa", sum := "18ae788afd695ec27b03e6aaf031a64ffb3e3005f82cf4ebb7fcc15a57346a65", func := "loop.example/g00852/laws.FnExactAddFlows", spec := "fnExactAddFlows", unfollowed := true, recurses := true, apart := false, narrowed := true }
def FnExactAddFlowsUptoSaid : Prop := fnExactAddFlowsUptoRow.holds Try.pinned (OpenSpec.upto fnExactAddFlowsSpec)

/-- 'laws.FnExactIsEven', WHERE WHAT IT READS IS OF BULK AT MOST 1048576: true; the input reads as it did. -/
def fnExactIsEvenUptoRow : OpenClaim := { program := "ytndieicmjdkojaa", sum := "18ae788afd695ec27b03e6aaf031a64ffb3e3005f82cf4ebb7fcc15a57346a65", func := "loop.example/g00852/laws.FnExactIsEven", spec := "fnExactIsEven", unfollowed := true, recurses := true, apart := false, narrowed := true }
def FnExactIsEvenUptoSaid : Prop := fnExactIsEvenUptoRow.holds Try.pinned (OpenSpec.upto fnExactIsEvenSpec)

/-- 'laws.FnExactGapBetween', WHERE WHAT IT READS IS OF BULK AT MOST 1048576: true; the input reads as it did. -/
def fnExactGapBetweenUptoRow : OpenClaim := { program := "ytndieicmjdkojaa", sum := "18ae788afd695ec27b03e6aaf031a64ffb3e3005f82cf4ebb7fcc15a57346a65", func := "loop.example/g00852/laws.FnExactGapBetween", spec := "fnExactGapBetween", unfollowed := true, recurses := true, apart := false, narrowed := true }
def FnExactGapBetweenUptoSaid : Prop := fnExactGapBetweenUptoRow.holds Try.pinned (OpenSpec.upto fnExactGapBetweenSpec)

/-- 'laws.FnExactLowestNode', WHERE WHAT IT READS IS OF BULK AT MOST 1048576: true; the input reads as it did. -/
def fnExactLowestNodeUptoRow : OpenClaim := { program := "ytndieicmjdkojaa", sum := "18ae788afd695ec27b03e6aaf031a64ffb3e3005f82cf4ebb7fcc15a57346a65", func := "loop.example/g00852/laws.FnExactLowestNode", spec := "fnExactLowestNode", unfollowed := true, recurses := true, apart := false, narrowed := true }
def FnExactLowestNodeUptoSaid : Prop := fnExactLowestNodeUptoRow.holds Try.pinned (OpenSpec.upto fnExactLowestNodeSpec)

/-- 'laws.FnExactBlockingPair', WHERE WHAT IT READS IS OF BULK AT MOST 1048576: true; the input reads as it did. -/
def fnExactBlockingPairUptoRow : OpenClaim := { program := "ytndieicmjdkojaa", sum := "18ae788afd695ec27b03e6aaf031a64ffb3e3005f82cf4ebb7fcc15a57346a65", func := "loop.example/g00852/laws.FnExactBlockingPair", spec := "fnExactBlockingPair", unfollowed := true, recurses := true, apart := false, narrowed := true }
def FnExactBlockingPairUptoSaid : Prop := fnExactBlockingPairUptoRow.holds Try.pinned (OpenSpec.upto fnExactBlockingPairSpec)

/-- 'laws.FnExactMissedBy', WHERE WHAT IT READS IS OF BULK AT MOST 1048576: true; the input reads as it did. -/
def fnExactMissedByUptoRow : OpenClaim := { program := "ytndieicmjdkojaa", sum := "18ae788afd695ec27b03e6aaf031a64ffb3e3005f82cf4ebb7fcc15a57346a65", func := "loop.example/g00852/laws.FnExactMissedBy", spec := "fnExactMissedBy", unfollowed := true, recurses := true, apart := false, narrowed := true }
def FnExactMissedByUptoSaid : Prop := fnExactMissedByUptoRow.holds Try.pinned (OpenSpec.upto fnExactMissedBySpec)

/-- 'laws.FnExactRootRange', WHERE WHAT IT READS IS OF BULK AT MOST 1048576: true; the input reads as it did. -/
def fnExactRootRangeUptoRow : OpenClaim := { program := "ytndieicmjdkojaa", sum := "18ae788afd695ec27b03e6aaf031a64ffb3e3005f82cf4ebb7fcc15a57346a65", func := "loop.example/g00852/laws.FnExactRootRange", spec := "fnExactRootRange", unfollowed := true, recurses := true, apart := false, narrowed := true }
def FnExactRootRangeUptoSaid : Prop := fnExactRootRangeUptoRow.holds Try.pinned (OpenSpec.upto fnExactRootRangeSpec)

end Rows
end Go.Proofs.Ytndieicmjdkojaa
