/- draws at the top: networks with numbers -/
import Derived.Test.YtllblmndoigdlaaK7
import Derived.Test.YtllblmndoigdlaaJ4
namespace Go.Proofs.Ytllblmndoigdlaa
open Go.RowKit

set_option maxHeartbeats 400000 in
theorem big_any (A : Option Addr) (n c : Nat) (w : World) :
    Calls Try.prog 9 #[.slice A n c] w fun e w' => e = .returned (.bool (decide (4096 < n))) ∧ w = w' := by
  by_cases h : 4096 < n
  · go_enter Try.func9, Try.ntmps9
    go_wp2_with fail
    go_ret
    exact ⟨ret_bool (by simp [h]; omega), rfl⟩
  · go_enter Try.func9, Try.ntmps9
    go_wp2_with fail
    go_ret
    exact ⟨ret_bool (by simp [h]; omega), rfl⟩

/-- what lies in a draw at the top -/
structure DT (w0 w1 : World) (g : Nat) (A : Option Addr) (n c : Nat) (bs : List Int) (b6 : Nat) (An : Option Addr) (k cn : Nat) (Ap : Option Addr) (m cp : Nat) (ns : List Node) (ps : List Pipe) (W : World) : Prop where
  dn : DN w1.heap.size W An k cn Ap m cp ns ps
  xb : W.heap[b6]? = some (.cells #[.slice An k cn, .slice Ap m cp] 27 (0, 0))
  src : Src W g A n c bs
  gr : w1.grownBy W (some g)
  x2 : w1.heap[w0.heap.size]? = some (.cells #[.slice none 0 0, .slice none 0 0] 27 (0, 0))
  bel : Below w0.heap.size w0 w1
  e2 : w0.heap.size < g
  e3 : g < w1.heap.size
  e4 : w1.heap.size ≤ b6

section
variable {w0 w1 W W' : World} {g : Nat} {A : Option Addr} {n c : Nat} {bs : List Int} {b6 : Nat} {An : Option Addr} {k cn : Nat} {Ap : Option Addr} {m cp : Nat} {ns : List Node} {ps : List Pipe}
theorem DT.next (h : DT w0 w1 g A n c bs b6 An k cn Ap m cp ns ps W) (hg : W.grownBy W' (some g)) (hs : Src W' g A n c bs) : DT w0 w1 g A n c bs b6 An k cn Ap m cp ns ps W' := by
  have h3 := h.e3; have h4 := h.e4
  exact ⟨h.dn.lone hg h.e3, (grown_at hg (Array.getElem?_eq_some_iff.1 h.xb).1 (by omega)).trans h.xb, hs, only_trans h.gr hg, h.x2, h.bel, h.e2, h.e3, h.e4⟩
theorem DT.later (h : DT w0 w1 g A n c bs b6 An k cn Ap m cp ns ps W) (hb : Below W.heap.size W W') : DT w0 w1 g A n c bs b6 An k cn Ap m cp ns ps W' := h.next (only_below hb) (h.src.keep hb)
theorem DT.c60 (h : DT w0 w1 g A n c bs b6 An k cn Ap m cp ns ps W) : W.cell? ⟨b6, 0, none⟩ = some (.slice An k cn) := by rw [cell_blk h.xb]; rfl
theorem DT.c61 (h : DT w0 w1 g A n c bs b6 An k cn Ap m cp ns ps W) : W.cell? ⟨b6, 1, none⟩ = some (.slice Ap m cp) := by rw [cell_blk h.xb]; rfl
theorem DT.xx (h : DT w0 w1 g A n c bs b6 An k cn Ap m cp ns ps W) : W.heap[w0.heap.size]? = some (.cells #[.slice none 0 0, .slice none 0 0] 27 (0, 0)) := (grown_at h.gr (Array.getElem?_eq_some_iff.1 h.x2).1 (by have := h.e2; omega)).trans h.x2
theorem DT.c20 (h : DT w0 w1 g A n c bs b6 An k cn Ap m cp ns ps W) : W.cell? ⟨w0.heap.size, 0, none⟩ = some (.slice none 0 0) := by rw [cell_blk h.xx]; rfl
theorem DT.c21 (h : DT w0 w1 g A n c bs b6 An k cn Ap m cp ns ps W) : W.cell? ⟨w0.heap.size, 1, none⟩ = some (.slice none 0 0) := by rw [cell_blk h.xx]; rfl
theorem DT.f2 (h : DT w0 w1 g A n c bs b6 An k cn Ap m cp ns ps W) (i : Nat) : W.frozen? ⟨w0.heap.size, i, none⟩ = false := frozen_blk h.xx i
theorem DT.net (h : DT w0 w1 g A n c bs b6 An k cn Ap m cp ns ps W) : NetAt W An k cn Ap m cp ⟨ns, ps⟩ := h.dn.net
theorem DT.belW (h : DT w0 w1 g A n c bs b6 An k cn Ap m cp ns ps W) : Below w0.heap.size w0 W := h.bel.trans (below_only h.gr (by have := h.e2; have := h.e3; omega) (by have := h.e2; omega))
/-- the network is stored into the result -/
theorem DT.fin (h : DT w0 w1 g A n c bs b6 An k cn Ap m cp ns ps W) : NetAt ((W.setCell ⟨w0.heap.size, 0, none⟩ (.slice An k cn)).setCell ⟨w0.heap.size, 1, none⟩ (.slice Ap m cp)) An k cn Ap m cp ⟨ns, ps⟩ ∧ Below w0.heap.size w0 ((W.setCell ⟨w0.heap.size, 0, none⟩ (.slice An k cn)).setCell ⟨w0.heap.size, 1, none⟩ (.slice Ap m cp)) := by
  have h2 := h.e2; have h3 := h.e3
  refine ⟨⟨?_, ?_⟩, (h.belW.setCell (Nat.le_refl _) _).setCell (Nat.le_refl _) _⟩
  · exact ((h.dn.on.keepOther (fun a ha => by have := h.dn.fn a ha; show a.block ≠ w0.heap.size; omega) _).keepOther (fun a ha => by have := h.dn.fn a ha; show a.block ≠ w0.heap.size; omega) _).nodes
  · exact ((h.dn.op.keepOther (fun a ha => by have := h.dn.fp a ha; show a.block ≠ w0.heap.size; omega) _).keepOther (fun a ha => by have := h.dn.fp a ha; show a.block ≠ w0.heap.size; omega) _).pipes
/-- at the start -/
theorem DT.start {w2 : World} (hs1 : Src w1 (w0.heap.size + 1) A n c bs) (hb1 : Below (w0.alloc (.cells #[.slice none 0 0, .slice none 0 0] 27)).heap.size (w0.alloc (.cells #[.slice none 0 0, .slice none 0 0] 27)) w1) (hd : DN w1.heap.size w2 An k cn Ap m cp ns ps) (hs2 : Src w2 (w0.heap.size + 1) A n c bs) (hg2 : w1.grownBy w2 (some (w0.heap.size + 1))) :
    DT w0 w1 (w0.heap.size + 1) A n c bs w2.heap.size An k cn Ap m cp ns ps (w2.alloc (.cells #[.slice An k cn, .slice Ap m cp] 27)) :=
  ⟨hd.alloc _, heap_alloc_new _ _, hs2.alloc _, only_alloc hg2 _, (hb1.block _ (by simp)).trans (heap_alloc_new _ _), below_step (bel1 _ _) hb1, by omega, hs1.lt, hg2.size⟩

end

theorem pick3 {a b d : Int} (ha : I64 a) (hb : I64 b) (hd : I64 d) {Y : Nat} (h : Y < 3) : ∃ z, (#[Value.int .i64 a, .int .i64 b, .int .i64 d] : Array Value)[Y]? = some (.int .i64 z) ∧ (∀ hh, ([Value.int .i64 a, .int .i64 b, .int .i64 d] : List Value)[Y]'hh = .int .i64 z) ∧ I64 z := by
  have hY : Y = 0 ∨ Y = 1 ∨ Y = 2 := by omega
  rcases hY with rfl | rfl | rfl
  · exact ⟨a, rfl, fun _ => rfl, ha⟩
  · exact ⟨b, rfl, fun _ => rfl, hb⟩
  · exact ⟨d, rfl, fun _ => rfl, hd⟩

/-- the answer of a draw: a network and numbers -/
def DNum (w : World) (vs : Int → Int → Array Value) (e : Ending) (w' : World) : Prop :=
  ∃ An k cn Ap m cp ns ps x y, e = .returned (.tuple (#[.agg #[.slice An k cn, .slice Ap m cp]] ++ vs x y)) ∧ NetAt w' An k cn Ap m cp ⟨ns, ps⟩ ∧ k ≤ 7 ∧ m ≤ 12 ∧ I64 x ∧ I64 y ∧ Below w.heap.size w w'

theorem dnum_alloc {w w' : World} {vs : Int → Int → Array Value} {e : Ending} (h : Hid (DNum w vs e w')) (o : Obj) : Hid (DNum w vs e (w'.alloc o)) := by
  obtain ⟨An, k, cn, Ap, m, cp, ns, ps, x, y, he, hn, h1, h2, h3, h4, hb⟩ := h.out
  exact Lib.hid ⟨An, k, cn, Ap, m, cp, ns, ps, x, y, he, hn.later (bel1 _ _), h1, h2, h3, h4, below_step hb (bel1 _ _)⟩

end Go.Proofs.Ytllblmndoigdlaa

/- draws at the top: networks with flow lists -/
namespace Go.Proofs.Ytllblmndoigdlaa
open Go.RowKit

/-- the answer of a draw: a network, a list and numbers -/
def DFl (w : World) (vs : Int → Int → Array Value) (e : Ending) (w' : World) : Prop :=
  ∃ An k cn Ap m cp ns ps Al L cl zs x y, e = .returned (.tuple (#[.agg #[.slice An k cn, .slice Ap m cp], .slice Al L cl] ++ vs x y)) ∧ NetAt w' An k cn Ap m cp ⟨ns, ps⟩ ∧ Ints w' Al L cl zs ∧ k ≤ 7 ∧ m ≤ 12 ∧ L ≤ 13 ∧ I64 x ∧ I64 y ∧ Below w.heap.size w w'
/-- a draw at the top with a list: the end -/
theorem DT.finL {w0 w1 W : World} {g : Nat} {A : Option Addr} {n c : Nat} {bs : List Int} {b6 : Nat} {An : Option Addr} {k cn : Nat} {Ap : Option Addr} {m cp : Nat} {ns : List Node} {ps : List Pipe} {Al : Option Addr} {L cl : Nat} {zs : List Int} (h : DT w0 w1 g A n c bs b6 An k cn Ap m cp ns ps W) (ho : Own W Al L cl zs) (hf : Fresh w1.heap.size Al) :
    Ints ((W.setCell ⟨w0.heap.size, 0, none⟩ (.slice An k cn)).setCell ⟨w0.heap.size, 1, none⟩ (.slice Ap m cp)) Al L cl zs := by
  have h2 := h.e2; have h3 := h.e3
  exact ((ho.far (fun a ha => by have := hf a ha; show a.block ≠ w0.heap.size; omega) _).far (fun a ha => by have := hf a ha; show a.block ≠ w0.heap.size; omega) _).ints

end Go.Proofs.Ytllblmndoigdlaa
