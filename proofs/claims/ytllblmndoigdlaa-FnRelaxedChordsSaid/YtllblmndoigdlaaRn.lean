/- DrawThroughputOf -/
import Derived.Test.YtllblmndoigdlaaRm
import Derived.Test.YtllblmndoigdlaaK9
namespace Go.Proofs.Ytllblmndoigdlaa
open Go.RowKit

section
variable {w0 w1 W : World} {g : Nat} {A : Option Addr} {n c : Nat} {bs : List Int} {b6 : Nat} {An : Option Addr} {k cn : Nat} {Ap : Option Addr} {m cp : Nat} {ns : List Node} {ps : List Pipe} {Al : Option Addr} {L cl : Nat} {zs : List Int}
theorem DT.fiF (h : DT w0 w1 g A n c bs b6 An k cn Ap m cp ns ps W) (hf : Fresh w1.heap.size Al) : Fresh w0.heap.size Al := fun a ha => by
  have h2 := h.e2; have h3 := h.e3; have := hf a ha; omega
theorem DT.fiO (h : DT w0 w1 g A n c bs b6 An k cn Ap m cp ns ps W) (ho : Own W Al L cl zs) (hf : Fresh w1.heap.size Al) :
    Own ((W.setCell ⟨w0.heap.size, 0, none⟩ (.slice An k cn)).setCell ⟨w0.heap.size, 1, none⟩ (.slice Ap m cp)) Al L cl zs := by
  have h2 := h.e2; have h3 := h.e3
  exact (ho.far (fun a ha => by have := hf a ha; show a.block ≠ w0.heap.size; omega) _).far (fun a ha => by have := hf a ha; show a.block ≠ w0.heap.size; omega) _

end
/-- the answer of a draw at the top: a network and a list, all in rows of their own -/
def DTop (w : World) (e : Ending) (w' : World) : Prop :=
  ∃ An k cn Ap m cp ns ps Al L cl zs, e = .returned (.tuple #[.agg #[.slice An k cn, .slice Ap m cp], .slice Al L cl]) ∧ DN w.heap.size w' An k cn Ap m cp ns ps ∧ Own w' Al L cl zs ∧ Fresh w.heap.size Al ∧ k ≤ 7 ∧ m ≤ 12 ∧ L ≤ 20 ∧ Below w.heap.size w w'

end Go.Proofs.Ytllblmndoigdlaa
