/-
  No cell of these rows narrows 'for every input' (looked for: loops, veiled, ifaces, maps, wideKeys, modest, calm, conditions, laid).
  DERIVED. THE GIVEN ROWS OF THIS SEAT. 6 by the template 'for every input the law returns true; each argument reads behind the call as it read before'; 0 by the template 'total and deterministic' (their statements: YtllblmndoigdlaaTotals.lean).
  GIVEN WITH THE SEED: the statements are not yours to turn. If you find one false, say at which input.
  Laid BY PROGRAM, IN A SANDBOX (cutbox-rows.mjs): the forced cells as the released guide's own fill.sh prints them over the translation 555dcc06a3086b7e… (all of the seat's roots in one cut). By AI agents, Wed Nov 11 2026. No macro, syntax, notation, axiom, sorry.
-/
import Derived.Test.YtllblmndoigdlaaChecked
import GoSem.Claim
import GoSem.ClaimJoined
import GoSem.ClaimMapViews
import Derived.JoinedTies
import Derived.KernelRfl
namespace Go.Proofs.Ytllblmndoigdlaa
/- THE CELL 'sum', in the pinned program and in every row, IS THE sha256 OF THE DUMP (.gsa) THAT YtllblmndoigdlaaProg.lean LOADS. Nothing in Lean hashes anything: it is a label: what it is worth is what the hold of that sum in a sandbox is worth. -/
noncomputable def Try.pinned : Pinned := { name := "ytllblmndoigdlaa", sum := "555dcc06a3086b7ebb7ed3a8f47b66f78894d9233f1a213625fe5f5bdac935c5", checked := Try.checked }
namespace Rows
def none {H : Type} : Left H := { results := [], args := [] }

/-- 'laws.FnCirculations': WHATEVER THE INPUT: true; the input reads as it did. -/
def fnCirculationsSpec : ChangeSpec := { name := "fnCirculations", fn := fun _ => fun
  | [d] => { results := [.lit (.bool true)], args := [d] }
  | _ => none }
def fnCirculationsRow : OpenClaim := { program := "ytllblmndoigdlaa", sum := "555dcc06a3086b7ebb7ed3a8f47b66f78894d9233f1a213625fe5f5bdac935c5", func := "loop.example/g00852/laws.FnCirculations", spec := "fnCirculations", unfollowed := true, recurses := true, apart := false }
def FnCirculationsSaid : Prop := fnCirculationsRow.holds Try.pinned (OpenSpec.ofChange fnCirculationsSpec)

/-- ITS FALSE NEIGHBOUR: 'it returns false'. Refute it at one input. -/
def fnCirculationsWrong : ChangeSpec := { name := "fnCirculations", fn := fun _ => fun
  | [d] => { results := [.lit (.bool false)], args := [d] }
  | _ => none }
def FnCirculationsWrongFalsely : Prop := fnCirculationsRow.holds Try.pinned (OpenSpec.ofChange fnCirculationsWrong)

/-- 'laws.FnForestFlows': WHATEVER THE INPUT: true; the input reads as it did. -/
def fnForestFlowsSpec : ChangeSpec := { name := "fnForestFlows", fn := fun _ => fun
  | [d] => { results := [.lit (.bool true)], args := [d] }
  | _ => none }
def fnForestFlowsRow : OpenClaim := { program := "ytllblmndoigdlaa", sum := "555dcc06a3086b7ebb7ed3a8f47b66f78894d9233f1a213625fe5f5bdac935c5", func := "loop.example/g00852/laws.FnForestFlows", spec := "fnForestFlows", unfollowed := true, recurses := true, apart := false }
def FnForestFlowsSaid : Prop := fnForestFlowsRow.holds Try.pinned (OpenSpec.ofChange fnForestFlowsSpec)

/-- ITS FALSE NEIGHBOUR: 'it returns false'. Refute it at one input. -/
def fnForestFlowsWrong : ChangeSpec := { name := "fnForestFlows", fn := fun _ => fun
  | [d] => { results := [.lit (.bool false)], args := [d] }
  | _ => none }
def FnForestFlowsWrongFalsely : Prop := fnForestFlowsRow.holds Try.pinned (OpenSpec.ofChange fnForestFlowsWrong)

/-- 'laws.FnEnergy': WHATEVER THE INPUT: true; the input reads as it did. -/
def fnEnergySpec : ChangeSpec := { name := "fnEnergy", fn := fun _ => fun
  | [d] => { results := [.lit (.bool true)], args := [d] }
  | _ => none }
def fnEnergyRow : OpenClaim := { program := "ytllblmndoigdlaa", sum := "555dcc06a3086b7ebb7ed3a8f47b66f78894d9233f1a213625fe5f5bdac935c5", func := "loop.example/g00852/laws.FnEnergy", spec := "fnEnergy", unfollowed := true, recurses := true, apart := false }
def FnEnergySaid : Prop := fnEnergyRow.holds Try.pinned (OpenSpec.ofChange fnEnergySpec)

/-- ITS FALSE NEIGHBOUR: 'it returns false'. Refute it at one input. -/
def fnEnergyWrong : ChangeSpec := { name := "fnEnergy", fn := fun _ => fun
  | [d] => { results := [.lit (.bool false)], args := [d] }
  | _ => none }
def FnEnergyWrongFalsely : Prop := fnEnergyRow.holds Try.pinned (OpenSpec.ofChange fnEnergyWrong)

/-- 'laws.FnWorstResiduals': WHATEVER THE INPUT: true; the input reads as it did. -/
def fnWorstResidualsSpec : ChangeSpec := { name := "fnWorstResiduals", fn := fun _ => fun
  | [d] => { results := [.lit (.bool true)], args := [d] }
  | _ => none }
def fnWorstResidualsRow : OpenClaim := { program := "ytllblmndoigdlaa", sum := "555dcc06a3086b7ebb7ed3a8f47b66f78894d9233f1a213625fe5f5bdac935c5", func := "loop.example/g00852/laws.FnWorstResiduals", spec := "fnWorstResiduals", unfollowed := true, recurses := true, apart := false }
def FnWorstResidualsSaid : Prop := fnWorstResidualsRow.holds Try.pinned (OpenSpec.ofChange fnWorstResidualsSpec)

/-- ITS FALSE NEIGHBOUR: 'it returns false'. Refute it at one input. -/
def fnWorstResidualsWrong : ChangeSpec := { name := "fnWorstResiduals", fn := fun _ => fun
  | [d] => { results := [.lit (.bool false)], args := [d] }
  | _ => none }
def FnWorstResidualsWrongFalsely : Prop := fnWorstResidualsRow.holds Try.pinned (OpenSpec.ofChange fnWorstResidualsWrong)

/-- 'laws.FnRelaxed': WHATEVER THE INPUT: true; the input reads as it did. -/
def fnRelaxedSpec : ChangeSpec := { name := "fnRelaxed", fn := fun _ => fun
  | [d] => { results := [.lit (.bool true)], args := [d] }
  | _ => none }
def fnRelaxedRow : OpenClaim := { program := "ytllblmndoigdlaa", sum := "555dcc06a3086b7ebb7ed3a8f47b66f78894d9233f1a213625fe5f5bdac935c5", func := "loop.example/g00852/laws.FnRelaxed", spec := "fnRelaxed", unfollowed := true, recurses := true, apart := false }
def FnRelaxedSaid : Prop := fnRelaxedRow.holds Try.pinned (OpenSpec.ofChange fnRelaxedSpec)

/-- ITS FALSE NEIGHBOUR: 'it returns false'. Refute it at one input. -/
def fnRelaxedWrong : ChangeSpec := { name := "fnRelaxed", fn := fun _ => fun
  | [d] => { results := [.lit (.bool false)], args := [d] }
  | _ => none }
def FnRelaxedWrongFalsely : Prop := fnRelaxedRow.holds Try.pinned (OpenSpec.ofChange fnRelaxedWrong)

/-- 'laws.FnRelaxedChords': WHATEVER THE INPUT: true; the input reads as it did. -/
def fnRelaxedChordsSpec : ChangeSpec := { name := "fnRelaxedChords", fn := fun _ => fun
  | [d] => { results := [.lit (.bool true)], args := [d] }
  | _ => none }
def fnRelaxedChordsRow : OpenClaim := { program := "ytllblmndoigdlaa", sum := "555dcc06a3086b7ebb7ed3a8f47b66f78894d9233f1a213625fe5f5bdac935c5", func := "loop.example/g00852/laws.FnRelaxedChords", spec := "fnRelaxedChords", unfollowed := true, recurses := true, apart := false }
def FnRelaxedChordsSaid : Prop := fnRelaxedChordsRow.holds Try.pinned (OpenSpec.ofChange fnRelaxedChordsSpec)

/-- ITS FALSE NEIGHBOUR: 'it returns false'. Refute it at one input. -/
def fnRelaxedChordsWrong : ChangeSpec := { name := "fnRelaxedChords", fn := fun _ => fun
  | [d] => { results := [.lit (.bool false)], args := [d] }
  | _ => none }
def FnRelaxedChordsWrongFalsely : Prop := fnRelaxedChordsRow.holds Try.pinned (OpenSpec.ofChange fnRelaxedChordsWrong)

/- THE SECOND FORM. 'bulk': how many values and letters a reading holds, each counted each time it is reached (what is shared counts as often as it is met; a slice's spare places count too). A statement '..UptoSaid' is the law's where the arguments, and the package variables that the reading takes, are together of bulk at most 1048576: NARROWER than '..Said'. Prove '..Said' where nothing that the law and all that it calls make is longer than what came in: it says more and counts as full. Else prove '..UptoSaid'. A law counts once. -/
mutual
def uptoBulk {H : Type} : DataW H → Nat
  | .lit (.string bytes) => bytes.length + 1
  | .lit _ => 1
  | .nil => 1
  | .ptr d => uptoBulk d + 1
  | .slice elems spare => uptoBulkAll elems + uptoBulkAll spare + 1
  | .agg parts => uptoBulkAll parts + 1
  | .iface _ d => uptoBulk d + 1
  | .map entries => uptoBulkEntries entries + 1
  | .held _ => 1
def uptoBulkAll {H : Type} : List (DataW H) → Nat
  | [] => 0
  | d :: r => uptoBulk d + uptoBulkAll r
def uptoBulkEntries {H : Type} : List (Lit × DataW H) → Nat
  | [] => 0
  | x :: r => uptoBulkEntry x + uptoBulkEntries r
def uptoBulkEntry {H : Type} : Lit × DataW H → Nat
  | (.string bytes, d) => bytes.length + uptoBulk d + 1
  | (_, d) => uptoBulk d + 1
 end
def uptoSmall : (H : Type) → List (DataW H) → Bool := fun _ ds => decide (uptoBulkAll ds ≤ 1048576)
def OpenSpec.upto (s : _root_.Go.ChangeSpec) : _root_.Go.OpenSpec := { _root_.Go.OpenSpec.ofChange s with cond := some uptoSmall }

/-- 'laws.FnCirculations', WHERE WHAT IT READS IS OF BULK AT MOST 1048576: true; the input reads as it did. -/
def fnCirculationsUptoRow : OpenClaim := { program := "ytllblmndoigdlaa", sum := "555dcc06a3086b7ebb7ed3a8f47b66f78894d9233f1a213625fe5f5bdac935c5", func := "loop.example/g00852/laws.FnCirculations", spec := "fnCirculations", unfollowed := true, recurses := true, apart := false, narrowed := true }
def FnCirculationsUptoSaid : Prop := fnCirculationsUptoRow.holds Try.pinned (OpenSpec.upto fnCirculationsSpec)

/-- 'laws.FnForestFlows', WHERE WHAT IT READS IS OF BULK AT MOST 1048576: true; the input reads as it did. -/
def fnForestFlowsUptoRow : OpenClaim := { program := "ytllblmndoigdlaa", sum := "555dcc06a3086b7ebb7ed3a8f47b66f78894d9233f1a213625fe5f5bdac935c5", func := "loop.example/g00852/laws.FnForestFlows", spec := "fnForestFlows", unfollowed := true, recurses := true, apart := false, narrowed := true }
def FnForestFlowsUptoSaid : Prop := fnForestFlowsUptoRow.holds Try.pinned (OpenSpec.upto fnForestFlowsSpec)

/-- 'laws.FnEnergy', WHERE WHAT IT READS IS OF BULK AT MOST 1048576: true; the input reads as it did. -/
def fnEnergyUptoRow : OpenClaim := { program := "ytllblmndoigdlaa", sum := "555dcc06a3086b7ebb7ed3a8f47b66f78894d9233f1a213625fe5f5bdac935c5", func := "loop.example/g00852/laws.FnEnergy", spec := "fnEnergy", unfollowed := true, recurses := true, apart := false, narrowed := true }
def FnEnergyUptoSaid : Prop := fnEnergyUptoRow.holds Try.pinned (OpenSpec.upto fnEnergySpec)

/-- 'laws.FnWorstResiduals', WHERE WHAT IT READS IS OF BULK AT MOST 1048576: true; the input reads as it did. -/
def fnWorstResidualsUptoRow : OpenClaim := { program := "ytllblmndoigdlaa", sum := "555dcc06a3086b7ebb7ed3a8f47b66f78894d9233f1a213625fe5f5bdac935c5", func := "loop.example/g00852/laws.FnWorstResiduals", spec := "fnWorstResiduals", unfollowed := true, recurses := true, apart := false, narrowed := true }
def FnWorstResidualsUptoSaid : Prop := fnWorstResidualsUptoRow.holds Try.pinned (OpenSpec.upto fnWorstResidualsSpec)

/-- 'laws.FnRelaxed', WHERE WHAT IT READS IS OF BULK AT MOST 1048576: true; the input reads as it did. -/
def fnRelaxedUptoRow : OpenClaim := { program := "ytllblmndoigdlaa", sum := "555dcc06a3086b7ebb7ed3a8f47b66f78894d9233f1a213625fe5f5bdac935c5", func := "loop.example/g00852/laws.FnRelaxed", spec := "fnRelaxed", unfollowed := true, recurses := true, apart := false, narrowed := true }
def FnRelaxedUptoSaid : Prop := fnRelaxedUptoRow.holds Try.pinned (OpenSpec.upto fnRelaxedSpec)

/-- 'laws.FnRelaxedChords', WHERE WHAT IT READS IS OF BULK AT MOST 1048576: true; the input reads as it did. -/
def fnRelaxedChordsUptoRow : OpenClaim := { program := "ytllblmndoigdlaa", sum := "555dcc06a3086b7ebb7ed3a8f47b66f78894d9233f1a213625fe5f5bdac935c5", func := "loop.example/g00852/laws.FnRelaxedChords", spec := "fnRelaxedChords", unfollowed := true, recurses := true, apart := false, narrowed := true }
def FnRelaxedChordsUptoSaid : Prop := fnRelaxedChordsUptoRow.holds Try.pinned (OpenSpec.upto fnRelaxedChordsSpec)

end Rows
end Go.Proofs.Ytllblmndoigdlaa
