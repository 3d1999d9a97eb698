/- l06Draw -/
import Derived.Test.YtllblmndoigdlaaGreatK7
import Derived.Test.YtllblmndoigdlaaGreatF9
import Derived.Test.YtllblmndoigdlaaGreatH1
namespace Go.Proofs.YtllblmndoigdlaaGreat
open Go.RowKit

theorem wrap_rng (z : Int) : I64 (wrap64 z) := by unfold I64 wrap64; omega
theorem own_lit2 (w : World) (x y : Int) (hx : I64 x) (hy : I64 y) : Own (w.alloc (.cells #[.int .i64 x, .int .i64 y] 2)) (some ⟨w.heap.size, 0, none⟩) 2 2 [x, y] :=
  ⟨⟨by simp, .inr ⟨w.heap.size, 2, #[.int .i64 x, .int .i64 y], rfl, Nat.zero_le _, heap_alloc_new w _, Nat.le_refl _, by decide, rfl, rfl⟩⟩, by simp; exact ⟨hx, hy⟩⟩
theorem flow_mk {net : Net} {zs : List Int} (hl : zs.length = net.pipes.length) (h : ∀ z ∈ zs, -15 ≤ z ∧ z ≤ 24) : flowB net zs = true := by
  unfold flowB
  simp only [Bool.and_eq_true, decide_eq_true_eq]
  refine ⟨hl, allB_yes (k := zs.length) (Nat.le_refl _) fun j hj => ?_⟩
  have := h _ (List.getElem_mem hj)
  have e : ig zs j = zs[j] := ig_lt hj
  rw [e]
  exact inB_iff'.2 (by omega)
/-- what a draw of a network and a list gives -/
def DrawnS (w : World) (g : Nat) (A : Option Addr) (n c : Nat) (bs : List Int) (e : Ending) (w' : World) : Prop :=
  ∃ An k cn Ap m cp ns ps Al L cl zs, e = .returned (.tuple #[.agg #[.slice An k cn, .slice Ap m cp], .slice Al L cl]) ∧ DN w.heap.size w' An k cn Ap m cp ns ps ∧ Own w' Al L cl zs ∧ Fresh w.heap.size Al ∧ k ≤ 7 ∧ m ≤ 12 ∧ L ≤ 20 ∧ Src w' g A n c bs ∧ w.grownBy w' (some g)

end Go.Proofs.YtllblmndoigdlaaGreat
