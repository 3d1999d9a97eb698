/-
  No cell of these rows narrows 'for every input' (looked for: loops, veiled, ifaces, maps, wideKeys, modest, calm, conditions, laid).
  DERIVED. THE GIVEN ROWS OF THIS SEAT. 11 by the template 'for every input the law returns true; each argument reads behind the call as it read before'; 0 by the template 'total and deterministic' (their statements: YtfiikbcffpcbkaaTotals.lean).
  GIVEN WITH THE SEED: the statements are not yours to turn. If you find one false, say at which input.
  Laid BY PROGRAM, IN A SANDBOX (cutbox-rows.mjs): the forced cells as the released guide's own fill.sh prints them over the translation de63002999822743… (all of the seat's roots in one cut). By AI agents, Wed Nov 11 2026. No macro, syntax, notation, axiom, sorry.
-/
import Derived.Test.YtfiikbcffpcbkaaChecked
import GoSem.Claim
import GoSem.ClaimJoined
import GoSem.ClaimMapViews
import Derived.JoinedTies
import Derived.KernelRfl
namespace Go.Proofs.Ytfiikbcffpcbkaa
/- THE CELL 'sum', in the pinned program and in every row, IS THE sha256 OF THE DUMP (.gsa) THAT YtfiikbcffpcbkaaProg.lean LOADS. Nothing in Lean hashes anything: it is a label: what it is worth is what the hold of that sum in a sandbox is worth. -/
noncomputable def Try.pinned : Pinned := { name := "ytfiikbcffpcbkaa", sum := "de63002999822743d7bc0ccea48240ffabcb2b60db3820a901b7ff8dc50eb09a", checked := Try.checked }
namespace Rows
def none {H : Type} : Left H := { results := [], args := [] }

/-- 'laws.FnCirculations': WHATEVER THE INPUT: true; the input reads as it did. -/
def fnCirculationsSpec : ChangeSpec := { name := "fnCirculations", fn := fun _ => fun
  | [d] => { results := [.lit (.bool true)], args := [d] }
  | _ => none }
def fnCirculationsRow : OpenClaim := { program := "ytfiikbcffpcbkaa", sum := "de63002999822743d7bc0ccea48240ffabcb2b60db3820a901b7ff8dc50eb09a", func := "loop.example/g00852/laws.FnCirculations", spec := "fnCirculations", unfollowed := true, recurses := true, apart := false }
def FnCirculationsSaid : Prop := fnCirculationsRow.holds Try.pinned (OpenSpec.ofChange fnCirculationsSpec)

/-- ITS FALSE NEIGHBOUR: 'it returns false'. Refute it at one input. -/
def fnCirculationsWrong : ChangeSpec := { name := "fnCirculations", fn := fun _ => fun
  | [d] => { results := [.lit (.bool false)], args := [d] }
  | _ => none }
def FnCirculationsWrongFalsely : Prop := fnCirculationsRow.holds Try.pinned (OpenSpec.ofChange fnCirculationsWrong)

/-- 'laws.FnExactEnergyChange': WHATEVER THE INPUT: true; the input reads as it did. -/
def fnExactEnergyChangeSpec : ChangeSpec := { name := "fnExactEnergyChange", fn := fun _ => fun
  | [d1, d2, d3, d4] => { results := [.lit (.bool true)], args := [d1, d2, d3, d4] }
  | _ => none }
def fnExactEnergyChangeRow : OpenClaim := { program := "ytfiikbcffpcbkaa", sum := "de63002999822743d7bc0ccea48240ffabcb2b60db3820a901b7ff8dc50eb09a", func := "loop.example/g00852/laws.FnExactEnergyChange", spec := "fnExactEnergyChange", unfollowed := true, recurses := true, apart := false }
def FnExactEnergyChangeSaid : Prop := fnExactEnergyChangeRow.holds Try.pinned (OpenSpec.ofChange fnExactEnergyChangeSpec)

/-- ITS FALSE NEIGHBOUR: 'it returns false'. Refute it at one input. -/
def fnExactEnergyChangeWrong : ChangeSpec := { name := "fnExactEnergyChange", fn := fun _ => fun
  | [d1, d2, d3, d4] => { results := [.lit (.bool false)], args := [d1, d2, d3, d4] }
  | _ => none }
def FnExactEnergyChangeWrongFalsely : Prop := fnExactEnergyChangeRow.holds Try.pinned (OpenSpec.ofChange fnExactEnergyChangeWrong)

/-- 'laws.FnForestFlows': WHATEVER THE INPUT: true; the input reads as it did. -/
def fnForestFlowsSpec : ChangeSpec := { name := "fnForestFlows", fn := fun _ => fun
  | [d] => { results := [.lit (.bool true)], args := [d] }
  | _ => none }
def fnForestFlowsRow : OpenClaim := { program := "ytfiikbcffpcbkaa", sum := "de63002999822743d7bc0ccea48240ffabcb2b60db3820a901b7ff8dc50eb09a", func := "loop.example/g00852/laws.FnForestFlows", spec := "fnForestFlows", unfollowed := true, recurses := true, apart := false }
def FnForestFlowsSaid : Prop := fnForestFlowsRow.holds Try.pinned (OpenSpec.ofChange fnForestFlowsSpec)

/-- ITS FALSE NEIGHBOUR: 'it returns false'. Refute it at one input. -/
def fnForestFlowsWrong : ChangeSpec := { name := "fnForestFlows", fn := fun _ => fun
  | [d] => { results := [.lit (.bool false)], args := [d] }
  | _ => none }
def FnForestFlowsWrongFalsely : Prop := fnForestFlowsRow.holds Try.pinned (OpenSpec.ofChange fnForestFlowsWrong)

/-- 'laws.FnExactFromChords': WHATEVER THE INPUT: true; the input reads as it did. -/
def fnExactFromChordsSpec : ChangeSpec := { name := "fnExactFromChords", fn := fun _ => fun
  | [d1, d2] => { results := [.lit (.bool true)], args := [d1, d2] }
  | _ => none }
def fnExactFromChordsRow : OpenClaim := { program := "ytfiikbcffpcbkaa", sum := "de63002999822743d7bc0ccea48240ffabcb2b60db3820a901b7ff8dc50eb09a", func := "loop.example/g00852/laws.FnExactFromChords", spec := "fnExactFromChords", unfollowed := true, recurses := true, apart := false }
def FnExactFromChordsSaid : Prop := fnExactFromChordsRow.holds Try.pinned (OpenSpec.ofChange fnExactFromChordsSpec)

/-- ITS FALSE NEIGHBOUR: 'it returns false'. Refute it at one input. -/
def fnExactFromChordsWrong : ChangeSpec := { name := "fnExactFromChords", fn := fun _ => fun
  | [d1, d2] => { results := [.lit (.bool false)], args := [d1, d2] }
  | _ => none }
def FnExactFromChordsWrongFalsely : Prop := fnExactFromChordsRow.holds Try.pinned (OpenSpec.ofChange fnExactFromChordsWrong)

/-- 'laws.FnEnergy': WHATEVER THE INPUT: true; the input reads as it did. -/
def fnEnergySpec : ChangeSpec := { name := "fnEnergy", fn := fun _ => fun
  | [d] => { results := [.lit (.bool true)], args := [d] }
  | _ => none }
def fnEnergyRow : OpenClaim := { program := "ytfiikbcffpcbkaa", sum := "de63002999822743d7bc0ccea48240ffabcb2b60db3820a901b7ff8dc50eb09a", func := "loop.example/g00852/laws.FnEnergy", spec := "fnEnergy", unfollowed := true, recurses := true, apart := false }
def FnEnergySaid : Prop := fnEnergyRow.holds Try.pinned (OpenSpec.ofChange fnEnergySpec)

/-- ITS FALSE NEIGHBOUR: 'it returns false'. Refute it at one input. -/
def fnEnergyWrong : ChangeSpec := { name := "fnEnergy", fn := fun _ => fun
  | [d] => { results := [.lit (.bool false)], args := [d] }
  | _ => none }
def FnEnergyWrongFalsely : Prop := fnEnergyRow.holds Try.pinned (OpenSpec.ofChange fnEnergyWrong)

/-- 'laws.FnWorstResiduals': WHATEVER THE INPUT: true; the input reads as it did. -/
def fnWorstResidualsSpec : ChangeSpec := { name := "fnWorstResiduals", fn := fun _ => fun
  | [d] => { results := [.lit (.bool true)], args := [d] }
  | _ => none }
def fnWorstResidualsRow : OpenClaim := { program := "ytfiikbcffpcbkaa", sum := "de63002999822743d7bc0ccea48240ffabcb2b60db3820a901b7ff8dc50eb09a", func := "loop.example/g00852/laws.FnWorstResiduals", spec := "fnWorstResiduals", unfollowed := true, recurses := true, apart := false }
def FnWorstResidualsSaid : Prop := fnWorstResidualsRow.holds Try.pinned (OpenSpec.ofChange fnWorstResidualsSpec)

/-- ITS FALSE NEIGHBOUR: 'it returns false'. Refute it at one input. -/
def fnWorstResidualsWrong : ChangeSpec := { name := "fnWorstResiduals", fn := fun _ => fun
  | [d] => { results := [.lit (.bool false)], args := [d] }
  | _ => none }
def FnWorstResidualsWrongFalsely : Prop := fnWorstResidualsRow.holds Try.pinned (OpenSpec.ofChange fnWorstResidualsWrong)

/-- 'laws.FnExactAddCycle': WHATEVER THE INPUT: true; the input reads as it did. -/
def fnExactAddCycleSpec : ChangeSpec := { name := "fnExactAddCycle", fn := fun _ => fun
  | [d1, d2, d3, d4] => { results := [.lit (.bool true)], args := [d1, d2, d3, d4] }
  | _ => none }
def fnExactAddCycleRow : OpenClaim := { program := "ytfiikbcffpcbkaa", sum := "de63002999822743d7bc0ccea48240ffabcb2b60db3820a901b7ff8dc50eb09a", func := "loop.example/g00852/laws.FnExactAddCycle", spec := "fnExactAddCycle", unfollowed := true, recurses := true, apart := false }
def FnExactAddCycleSaid : Prop := fnExactAddCycleRow.holds Try.pinned (OpenSpec.ofChange fnExactAddCycleSpec)

/-- ITS FALSE NEIGHBOUR: 'it returns false'. Refute it at one input. -/
def fnExactAddCycleWrong : ChangeSpec := { name := "fnExactAddCycle", fn := fun _ => fun
  | [d1, d2, d3, d4] => { results := [.lit (.bool false)], args := [d1, d2, d3, d4] }
  | _ => none }
def FnExactAddCycleWrongFalsely : Prop := fnExactAddCycleRow.holds Try.pinned (OpenSpec.ofChange fnExactAddCycleWrong)

/-- 'laws.FnExactResidualsOf': WHATEVER THE INPUT: true; the input reads as it did. -/
def fnExactResidualsOfSpec : ChangeSpec := { name := "fnExactResidualsOf", fn := fun _ => fun
  | [d1, d2] => { results := [.lit (.bool true)], args := [d1, d2] }
  | _ => none }
def fnExactResidualsOfRow : OpenClaim := { program := "ytfiikbcffpcbkaa", sum := "de63002999822743d7bc0ccea48240ffabcb2b60db3820a901b7ff8dc50eb09a", func := "loop.example/g00852/laws.FnExactResidualsOf", spec := "fnExactResidualsOf", unfollowed := true, recurses := true, apart := false }
def FnExactResidualsOfSaid : Prop := fnExactResidualsOfRow.holds Try.pinned (OpenSpec.ofChange fnExactResidualsOfSpec)

/-- ITS FALSE NEIGHBOUR: 'it returns false'. Refute it at one input. -/
def fnExactResidualsOfWrong : ChangeSpec := { name := "fnExactResidualsOf", fn := fun _ => fun
  | [d1, d2] => { results := [.lit (.bool false)], args := [d1, d2] }
  | _ => none }
def FnExactResidualsOfWrongFalsely : Prop := fnExactResidualsOfRow.holds Try.pinned (OpenSpec.ofChange fnExactResidualsOfWrong)

/-- 'laws.FnRelaxed': WHATEVER THE INPUT: true; the input reads as it did. -/
def fnRelaxedSpec : ChangeSpec := { name := "fnRelaxed", fn := fun _ => fun
  | [d] => { results := [.lit (.bool true)], args := [d] }
  | _ => none }
def fnRelaxedRow : OpenClaim := { program := "ytfiikbcffpcbkaa", sum := "de63002999822743d7bc0ccea48240ffabcb2b60db3820a901b7ff8dc50eb09a", func := "loop.example/g00852/laws.FnRelaxed", spec := "fnRelaxed", unfollowed := true, recurses := true, apart := false }
def FnRelaxedSaid : Prop := fnRelaxedRow.holds Try.pinned (OpenSpec.ofChange fnRelaxedSpec)

/-- ITS FALSE NEIGHBOUR: 'it returns false'. Refute it at one input. -/
def fnRelaxedWrong : ChangeSpec := { name := "fnRelaxed", fn := fun _ => fun
  | [d] => { results := [.lit (.bool false)], args := [d] }
  | _ => none }
def FnRelaxedWrongFalsely : Prop := fnRelaxedRow.holds Try.pinned (OpenSpec.ofChange fnRelaxedWrong)

/-- 'laws.FnRelaxedChords': WHATEVER THE INPUT: true; the input reads as it did. -/
def fnRelaxedChordsSpec : ChangeSpec := { name := "fnRelaxedChords", fn := fun _ => fun
  | [d] => { results := [.lit (.bool true)], args := [d] }
  | _ => none }
def fnRelaxedChordsRow : OpenClaim := { program := "ytfiikbcffpcbkaa", sum := "de63002999822743d7bc0ccea48240ffabcb2b60db3820a901b7ff8dc50eb09a", func := "loop.example/g00852/laws.FnRelaxedChords", spec := "fnRelaxedChords", unfollowed := true, recurses := true, apart := false }
def FnRelaxedChordsSaid : Prop := fnRelaxedChordsRow.holds Try.pinned (OpenSpec.ofChange fnRelaxedChordsSpec)

/-- ITS FALSE NEIGHBOUR: 'it returns false'. Refute it at one input. -/
def fnRelaxedChordsWrong : ChangeSpec := { name := "fnRelaxedChords", fn := fun _ => fun
  | [d] => { results := [.lit (.bool false)], args := [d] }
  | _ => none }
def FnRelaxedChordsWrongFalsely : Prop := fnRelaxedChordsRow.holds Try.pinned (OpenSpec.ofChange fnRelaxedChordsWrong)

/-- 'laws.FnExactRelaxFlows': WHATEVER THE INPUT: true; the input reads as it did. -/
def fnExactRelaxFlowsSpec : ChangeSpec := { name := "fnExactRelaxFlows", fn := fun _ => fun
  | [d1, d2, d3] => { results := [.lit (.bool true)], args := [d1, d2, d3] }
  | _ => none }
def fnExactRelaxFlowsRow : OpenClaim := { program := "ytfiikbcffpcbkaa", sum := "de63002999822743d7bc0ccea48240ffabcb2b60db3820a901b7ff8dc50eb09a", func := "loop.example/g00852/laws.FnExactRelaxFlows", spec := "fnExactRelaxFlows", unfollowed := true, recurses := true, apart := false }
def FnExactRelaxFlowsSaid : Prop := fnExactRelaxFlowsRow.holds Try.pinned (OpenSpec.ofChange fnExactRelaxFlowsSpec)

/-- ITS FALSE NEIGHBOUR: 'it returns false'. Refute it at one input. -/
def fnExactRelaxFlowsWrong : ChangeSpec := { name := "fnExactRelaxFlows", fn := fun _ => fun
  | [d1, d2, d3] => { results := [.lit (.bool false)], args := [d1, d2, d3] }
  | _ => none }
def FnExactRelaxFlowsWrongFalsely : Prop := fnExactRelaxFlowsRow.holds Try.pinned (OpenSpec.ofChange fnExactRelaxFlowsWrong)

/- THE SECOND FORM. 'bulk': how many values and letters a reading holds, each counted each time it is reached (what is shared counts as often as it is met; a slice's spare places count too). A statement '..UptoSaid' is the law's where the arguments, and the package variables that the reading takes, are together of bulk at most 1048576: NARROWER than '..Said'. Prove '..Said' where nothing that the law and all that it calls make is longer than what came in: it says more and counts as full. Else prove '..UptoSaid'. A law counts once. -/
mutual
def uptoBulk {H : Type} : DataW H → Nat
  | .lit (.string bytes) => bytes.length + 1
  | .lit _ => 1
  | .nil => 1
  | .ptr d => uptoBulk d + 1
  | .slice elems spare => uptoBulkAll elems + uptoBulkAll spare + 1
  | .agg parts => uptoBulkAll parts + 1
  | .iface _ d => uptoBulk d + 1
  | .map entries => uptoBulkEntries entries + 1
  | .held _ => 1
def uptoBulkAll {H : Type} : List (DataW H) → Nat
  | [] => 0
  | d :: r => uptoBulk d + uptoBulkAll r
def uptoBulkEntries {H : Type} : List (Lit × DataW H) → Nat
  | [] => 0
  | x :: r => uptoBulkEntry x + uptoBulkEntries r
def uptoBulkEntry {H : Type} : Lit × DataW H → Nat
  | (.string bytes, d) => bytes.length + uptoBulk d + 1
  | (_, d) => uptoBulk d + 1
 end
def uptoSmall : (H : Type) → List (DataW H) → Bool := fun _ ds => decide (uptoBulkAll ds ≤ 1048576)
def OpenSpec.upto (s : _root_.Go.ChangeSpec) : _root_.Go.OpenSpec := { _root_.Go.OpenSpec.ofChange s with cond := some uptoSmall }

/-- 'laws.FnCirculations', WHERE WHAT IT READS IS OF BULK AT MOST 1048576: true; the input reads as it did. -/
def fnCirculationsUptoRow : OpenClaim := { program := "ytfiikbcffpcbkaa", sum := "de63002999822743d7bc0ccea48240ffabcb2b60db3820a901b7ff8dc50eb09a", func := "loop.example/g00852/laws.FnCirculations", spec := "fnCirculations", unfollowed := true, recurses := true, apart := false, narrowed := true }
def FnCirculationsUptoSaid : Prop := fnCirculationsUptoRow.holds Try.pinned (OpenSpec.upto fnCirculationsSpec)

/-- 'laws.FnExactEnergyChange', WHERE WHAT IT READS IS OF BULK AT MOST 1048576: true; the input reads as it did. -/
def fnExactEnergyChangeUptoRow : OpenClaim := { program := "ytfiikbcffpcbkaa", sum := "de63002999822743d7bc0ccea48240ffabcb2b60db3820a901b7ff8dc50eb09a", func := "loop.example/g00852/laws.FnExactEnergyChange", spec := "fnExactEnergyChange", unfollowed := true, recurses := true, apart := false, narrowed := true }
def FnExactEnergyChangeUptoSaid : Prop := fnExactEnergyChangeUptoRow.holds Try.pinned (OpenSpec.upto fnExactEnergyChangeSpec)

/-- 'laws.FnForestFlows', WHERE WHAT IT READS IS OF BULK AT MOST 1048576: true; the input reads as it did. -/
def fnForestFlowsUptoRow : OpenClaim := { program := "ytfiikbcffpcbkaa", sum := "de63002999822743d7bc0ccea48240ffabcb2b60db3820a901b7ff8dc50eb09a", func := "loop.example/g00852/laws.FnForestFlows", spec := "fnForestFlows", unfollowed := true, recurses := true, apart := false, narrowed := true }
def FnForestFlowsUptoSaid : Prop := fnForestFlowsUptoRow.holds Try.pinned (OpenSpec.upto fnForestFlowsSpec)

/-- 'laws.FnExactFromChords', WHERE WHAT IT READS IS OF BULK AT MOST 1048576: true; the input reads as it did. -/
def fnExactFromChordsUptoRow : OpenClaim := { program := "ytfiikbcffpcbkaa", sum := "de63002999822743d7bc0ccea48240ffabcb2b60db3820a901b7ff8dc50eb09a", func := "loop.example/g00852/laws.FnExactFromChords", spec := "fnExactFromChords", unfollowed := true, recurses := true, apart := false, narrowed := true }
def FnExactFromChordsUptoSaid : Prop := fnExactFromChordsUptoRow.holds Try.pinned (OpenSpec.upto fnExactFromChordsSpec)

/-- 'laws.FnEnergy', WHERE WHAT IT READS IS OF BULK AT MOST 1048576: true; the input reads as it did. -/
def fnEnergyUptoRow : OpenClaim := { program := "ytfiikbcffpcbkaa", sum := "de63002999822743d7bc0ccea48240ffabcb2b60db3820a901b7ff8dc50eb09a", func := "loop.example/g00852/laws.FnEnergy", spec := "fnEnergy", unfollowed := true, recurses := true, apart := false, narrowed := true }
def FnEnergyUptoSaid : Prop := fnEnergyUptoRow.holds Try.pinned (OpenSpec.upto fnEnergySpec)

/-- 'laws.FnWorstResiduals', WHERE WHAT IT READS IS OF BULK AT MOST 1048576: true; the input reads as it did. -/
def fnWorstResidualsUptoRow : OpenClaim := { program := "ytfiikbcffpcbkaa", sum := "de63002999822743d7bc0ccea48240ffabcb2b60db3820a901b7ff8dc50eb09a", func := "loop.example/g00852/laws.FnWorstResiduals", spec := "fnWorstResiduals", unfollowed := true, recurses := true, apart := false, narrowed := true }
def FnWorstResidualsUptoSaid : Prop := fnWorstResidualsUptoRow.holds Try.pinned (OpenSpec.upto fnWorstResidualsSpec)

/-- 'laws.FnExactAddCycle', WHERE WHAT IT READS IS OF BULK AT MOST 1048576: true; the input reads as it did. -/
def fnExactAddCycleUptoRow : OpenClaim := { program := "ytfiikbcffpcbkaa", sum := "de63002999822743d7bc0ccea48240ffabcb2b60db3820a901b7ff8dc50eb09a", func := "loop.example/g00852/laws.FnExactAddCycle", spec := "fnExactAddCycle", unfollowed := true, recurses := true, apart := false, narrowed := true }
def FnExactAddCycleUptoSaid : Prop := fnExactAddCycleUptoRow.holds Try.pinned (OpenSpec.upto fnExactAddCycleSpec)

/-- 'laws.FnExactResidualsOf', WHERE WHAT IT READS IS OF BULK AT MOST 1048576: true; the input reads as it did. -/
def fnExactResidualsOfUptoRow : OpenClaim := { program := "ytfiikbcffpcbkaa", sum := "de63002999822743d7bc0ccea48240ffabcb2b60db3820a901b7ff8dc50eb09a", func := "loop.example/g00852/laws.FnExactResidualsOf", spec := "fnExactResidualsOf", unfollowed := true, recurses := true, apart := false, narrowed := true }
def FnExactResidualsOfUptoSaid : Prop := fnExactResidualsOfUptoRow.holds Try.pinned (OpenSpec.upto fnExactResidualsOfSpec)

/-- 'laws.FnRelaxed', WHERE WHAT IT READS IS OF BULK AT MOST 1048576: true; the input reads as it did. -/
def fnRelaxedUptoRow : OpenClaim := { program := "ytfiikbcffpcbkaa", sum := "de63002999822743d7bc0ccea48240ffabcb2b60db3820a901b7ff8dc50eb09a", func := "loop.example/g00852/laws.FnRelaxed", spec := "fnRelaxed", unfollowed := true, recurses := true, apart := false, narrowed := true }
def FnRelaxedUptoSaid : Prop := fnRelaxedUptoRow.holds Try.pinned (OpenSpec.upto fnRelaxedSpec)

/-- 'laws.FnRelaxedChords', WHERE WHAT IT READS IS OF BULK AT MOST 1048576: true; the input reads as it did. -/
def fnRelaxedChordsUptoRow : OpenClaim := { program := "ytfiikbcffpcbkaa", sum := "de63002999822743d7bc0ccea48240ffabcb2b60db3820a901b7ff8dc50eb09a", func := "loop.example/g00852/laws.FnRelaxedChords", spec := "fnRelaxedChords", unfollowed := true, recurses := true, apart := false, narrowed := true }
def FnRelaxedChordsUptoSaid : Prop := fnRelaxedChordsUptoRow.holds Try.pinned (OpenSpec.upto fnRelaxedChordsSpec)

/-- 'laws.FnExactRelaxFlows', WHERE WHAT IT READS IS OF BULK AT MOST 1048576: true; the input reads as it did. -/
def fnExactRelaxFlowsUptoRow : OpenClaim := { program := "ytfiikbcffpcbkaa", sum := "de63002999822743d7bc0ccea48240ffabcb2b60db3820a901b7ff8dc50eb09a", func := "loop.example/g00852/laws.FnExactRelaxFlows", spec := "fnExactRelaxFlows", unfollowed := true, recurses := true, apart := false, narrowed := true }
def FnExactRelaxFlowsUptoSaid : Prop := fnExactRelaxFlowsUptoRow.holds Try.pinned (OpenSpec.upto fnExactRelaxFlowsSpec)

end Rows
end Go.Proofs.Ytfiikbcffpcbkaa
