/- draws: DrawLowestNode, DrawBlockingPair -/
import Derived.Test.YtllblmndoigdlaaRn
import Derived.Test.YtllblmndoigdlaaK9
namespace Go.Proofs.Ytllblmndoigdlaa
open Go.RowKit

/-- the answer of a draw: a network, a list in a row of its own, and numbers -/
def DG (w : World) (vs : Int → Int → Array Value) (e : Ending) (w' : World) : Prop :=
  ∃ An k cn Ap m cp ns ps Al L cl zs x y, e = .returned (.tuple (#[.agg #[.slice An k cn, .slice Ap m cp], .slice Al L cl] ++ vs x y)) ∧ DN w.heap.size w' An k cn Ap m cp ns ps ∧ Own w' Al L cl zs ∧ Fresh w.heap.size Al ∧ k ≤ 7 ∧ m ≤ 12 ∧ L ≤ 20 ∧ I64 x ∧ I64 y ∧ Below w.heap.size w w'

theorem DN.out {w : World} {b0 b : Nat} {An : Option Addr} {k cn : Nat} {Ap : Option Addr} {m cp : Nat} {ns : List Node} {ps : List Pipe} (h : DN b0 w An k cn Ap m cp ns ps) (hb : b < b0) (u v : Value) : DN b ((w.setCell ⟨b, 0, none⟩ u).setCell ⟨b, 1, none⟩ v) An k cn Ap m cp ns ps := by
  have g2 : ∀ a, An = some a → a.block ≠ b := fun a ha => by have := h.fn a ha; omega
  have g3 : ∀ a, Ap = some a → a.block ≠ b := fun a ha => by have := h.fp a ha; omega
  exact ⟨(h.on.keepOther g2 _).keepOther g2 _, (h.op.keepOther g3 _).keepOther g3 _, fun a ha => by have := h.fn a ha; omega, fun a ha => by have := h.fp a ha; omega, h.ne, h.np⟩
theorem DT.fnD {w0 w1 W : World} {g : Nat} {A : Option Addr} {n c : Nat} {bs : List Int} {b6 : Nat} {An : Option Addr} {k cn : Nat} {Ap : Option Addr} {m cp : Nat} {ns : List Node} {ps : List Pipe} (h : DT w0 w1 g A n c bs b6 An k cn Ap m cp ns ps W) : DN w0.heap.size ((W.setCell ⟨w0.heap.size, 0, none⟩ (.slice An k cn)).setCell ⟨w0.heap.size, 1, none⟩ (.slice Ap m cp)) An k cn Ap m cp ns ps :=
  h.dn.out (by have := h.e2; have := h.e3; omega) _ _
/-- a draw that hands on another draw's network and list: the result's box lies below all that the other draw made -/
structure DGS (w w1 : World) (An : Option Addr) (k cn : Nat) (Ap : Option Addr) (m cp : Nat) (ns : List Node) (ps : List Pipe) (Al : Option Addr) (L cl : Nat) (zs : List Int) : Prop where
  c0 : w1.cell? ⟨w.heap.size, 0, none⟩ = some (.slice none 0 0)
  c1 : w1.cell? ⟨w.heap.size, 1, none⟩ = some (.slice none 0 0)
  f0 : ∀ i, w1.frozen? ⟨w.heap.size, i, none⟩ = false
  dn : DN w.heap.size ((w1.setCell ⟨w.heap.size, 0, none⟩ (.slice An k cn)).setCell ⟨w.heap.size, 1, none⟩ (.slice Ap m cp)) An k cn Ap m cp ns ps
  own : Own ((w1.setCell ⟨w.heap.size, 0, none⟩ (.slice An k cn)).setCell ⟨w.heap.size, 1, none⟩ (.slice Ap m cp)) Al L cl zs
  fr : Fresh w.heap.size Al
  bel : Below w.heap.size w ((w1.setCell ⟨w.heap.size, 0, none⟩ (.slice An k cn)).setCell ⟨w.heap.size, 1, none⟩ (.slice Ap m cp))
theorem DGS.mk' {w w1 : World} {An : Option Addr} {k cn : Nat} {Ap : Option Addr} {m cp : Nat} {ns : List Node} {ps : List Pipe} {Al : Option Addr} {L cl : Nat} {zs : List Int} (hn : DN (w.alloc (.cells #[.slice none 0 0, .slice none 0 0] 27)).heap.size w1 An k cn Ap m cp ns ps) (ho : Own w1 Al L cl zs) (hf : Fresh (w.alloc (.cells #[.slice none 0 0, .slice none 0 0] 27)).heap.size Al)
    (b1 : Below (w.alloc (.cells #[.slice none 0 0, .slice none 0 0] 27)).heap.size (w.alloc (.cells #[.slice none 0 0, .slice none 0 0] 27)) w1) : DGS w w1 An k cn Ap m cp ns ps Al L cl zs := by
  have hx : w1.heap[w.heap.size]? = some (.cells #[.slice none 0 0, .slice none 0 0] 27 (0, 0)) := (b1.block _ (by simp)).trans (heap_alloc_new _ _)
  have hs : (w.alloc (.cells #[.slice none 0 0, .slice none 0 0] 27)).heap.size = w.heap.size + 1 := World.size_alloc _ _
  have g1 : ∀ a, Al = some a → a.block ≠ w.heap.size := fun a ha => by have := hf a ha; omega
  exact ⟨by rw [cell_blk hx]; rfl, by rw [cell_blk hx]; rfl, fun i => frozen_blk hx i, hn.out (by omega) _ _, (ho.far g1 _).far g1 _, fun a ha => by have := hf a ha; omega, ((below_step (bel1 w _) b1).setCell (p := ⟨w.heap.size, 0, none⟩) (Nat.le_refl _) _).setCell (p := ⟨w.heap.size, 1, none⟩) (Nat.le_refl _) _⟩

theorem dg_alloc {w w' : World} {vs : Int → Int → Array Value} {e : Ending} (h : Hid (DG w vs e w')) (o : Obj) : Hid (DG w vs e (w'.alloc o)) := by
  obtain ⟨An, k, cn, Ap, m, cp, ns, ps, Al, L, cl, zs, x, y, he, hn, hz, hf, h1, h2, h3, h4, h5, hb⟩ := h.out
  exact Lib.hid ⟨An, k, cn, Ap, m, cp, ns, ps, Al, L, cl, zs, x, y, he, hn.later (bel1 _ _), hz.later (bel1 _ _), hf, h1, h2, h3, h4, h5, below_step hb (bel1 _ _)⟩

end Go.Proofs.Ytllblmndoigdlaa
