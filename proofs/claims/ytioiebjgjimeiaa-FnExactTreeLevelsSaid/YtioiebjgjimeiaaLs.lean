/- what the exact laws over networks share -/
import Derived.Test.YtioiebjgjimeiaaN3
import Derived.Deep.RegionWith
namespace Go.Proofs.Ytioiebjgjimeiaa
open Go.RowKit

/-- the box of the law's network, and that nothing old has turned -/
structure LS (w wr : World) (A : Option Addr) (n c : Nat) (B : Option Addr) (m d : Nat) : Prop where
  below : Below w.heap.size w wr
  box : wr.heap[w.heap.size]? = some (.cells #[.slice A n c, .slice B m d] 52 (0, 0))
theorem LS.start (w : World) (A : Option Addr) (n c : Nat) (B : Option Addr) (m d : Nat) : LS w (w.alloc (.cells #[.slice A n c, .slice B m d] 52)) A n c B m d := ⟨bel1 _ _, heap_alloc_new w _⟩
theorem LS.lt {w wr : World} {A B : Option Addr} {n c m d : Nat} (h : LS w wr A n c B m d) : w.heap.size < wr.heap.size := (Array.getElem?_eq_some_iff.1 h.box).1
theorem LS.step {w wr wr' : World} {A B : Option Addr} {n c m d : Nat} (h : LS w wr A n c B m d) (hb : Below wr.heap.size wr wr') : LS w wr' A n c B m d := ⟨below_step h.below hb, (hb.block _ h.lt).trans h.box⟩
theorem LS.c0 {w wr : World} {A B : Option Addr} {n c m d : Nat} (h : LS w wr A n c B m d) : wr.cell? ⟨w.heap.size, 0, none⟩ = some (.slice A n c) := by rw [cell_blk h.box]; rfl
theorem LS.c1 {w wr : World} {A B : Option Addr} {n c m d : Nat} (h : LS w wr A n c B m d) : wr.cell? ⟨w.heap.size, 1, none⟩ = some (.slice B m d) := by rw [cell_blk h.box]; rfl
/-- the box of the program's network -/
structure BX (wr : World) (g : Nat) (A : Option Addr) (n c : Nat) (B : Option Addr) (m d : Nat) : Prop where
  box : wr.heap[g]? = some (.cells #[.slice A n c, .slice B m d] 27 (0, 0))
theorem BX.lt {wr : World} {g : Nat} {A B : Option Addr} {n c m d : Nat} (h : BX wr g A n c B m d) : g < wr.heap.size := (Array.getElem?_eq_some_iff.1 h.box).1
theorem BX.step {wr wr' : World} {g : Nat} {A B : Option Addr} {n c m d : Nat} (h : BX wr g A n c B m d) (hb : Below wr.heap.size wr wr') : BX wr' g A n c B m d := ⟨(hb.block _ h.lt).trans h.box⟩
theorem BX.c0 {wr : World} {g : Nat} {A B : Option Addr} {n c m d : Nat} (h : BX wr g A n c B m d) : wr.cell? ⟨g, 0, none⟩ = some (.slice A n c) := by rw [cell_blk h.box]; rfl
theorem BX.c1 {wr : World} {g : Nat} {A B : Option Addr} {n c m d : Nat} (h : BX wr g A n c B m d) : wr.cell? ⟨g, 1, none⟩ = some (.slice B m d) := by rw [cell_blk h.box]; rfl

end Go.Proofs.Ytioiebjgjimeiaa
