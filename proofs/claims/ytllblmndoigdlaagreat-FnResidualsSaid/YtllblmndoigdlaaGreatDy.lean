/- what lies while a law goes on: the network's box, the network, two lists -/
import Derived.Test.YtllblmndoigdlaaGreatF6
import Derived.Test.YtllblmndoigdlaaGreatMk
namespace Go.Proofs.YtllblmndoigdlaaGreat
open Go.RowKit

structure LB (w0 : World) (g : Nat) (An : Option Addr) (k cn : Nat) (Ap : Option Addr) (m cp : Nat) (net : Net) (A : Option Addr) (L c : Nat) (zs : List Int) (X : Option Addr) (M d : Nat) (xs : List Int) (W : World) : Prop where
  bx : BX W g An k cn Ap m cp
  hn : NetAt W An k cn Ap m cp net
  oz : Own W A L c zs
  ox : Own W X M d xs
  t : Below w0.heap.size w0 W
theorem LB.step {w0 : World} {g : Nat} {An : Option Addr} {k cn : Nat} {Ap : Option Addr} {m cp : Nat} {net : Net} {A : Option Addr} {L c : Nat} {zs : List Int} {X : Option Addr} {M d : Nat} {xs : List Int} {W W' : World}
    (h : LB w0 g An k cn Ap m cp net A L c zs X M d xs W) (b : Below W.heap.size W W') : LB w0 g An k cn Ap m cp net A L c zs X M d xs W' :=
  ⟨h.bx.step b, h.hn.later b, h.oz.later b, h.ox.later b, below_step h.t b⟩
theorem LB.drewN {w0 : World} {g : Nat} {An : Option Addr} {k cn : Nat} {Ap : Option Addr} {m cp : Nat} {net : Net} {A : Option Addr} {L c : Nat} {zs : List Int} {X : Option Addr} {M d : Nat} {xs : List Int} {W : World}
    (h : LB w0 g An k cn Ap m cp net A L c zs X M d xs W) (q : Nat) : LB w0 g An k cn Ap m cp net A L c zs X M d xs (W.drewN q) := h.step (below_drew (Below.refl _ _) q)

end Go.Proofs.YtllblmndoigdlaaGreat
