/- what the exact laws over networks share -/
import Derived.Test.YtllblmndoigdlaaN3
import Derived.Deep.RegionWith
import Derived.Test.YtllblmndoigdlaaDr9
import Derived.Laws.BytesArg
namespace Go.Proofs.Ytllblmndoigdlaa
open Go.RowKit

/-- the box of the program's network -/
structure BX (wr : World) (g : Nat) (A : Option Addr) (n c : Nat) (B : Option Addr) (m d : Nat) : Prop where
  box : wr.heap[g]? = some (.cells #[.slice A n c, .slice B m d] 27 (0, 0))
theorem BX.lt {wr : World} {g : Nat} {A B : Option Addr} {n c m d : Nat} (h : BX wr g A n c B m d) : g < wr.heap.size := (Array.getElem?_eq_some_iff.1 h.box).1
theorem BX.step {wr wr' : World} {g : Nat} {A B : Option Addr} {n c m d : Nat} (h : BX wr g A n c B m d) (hb : Below wr.heap.size wr wr') : BX wr' g A n c B m d := ⟨(hb.block _ h.lt).trans h.box⟩
theorem BX.c0 {wr : World} {g : Nat} {A B : Option Addr} {n c m d : Nat} (h : BX wr g A n c B m d) : wr.cell? ⟨g, 0, none⟩ = some (.slice A n c) := by rw [cell_blk h.box]; rfl
theorem BX.c1 {wr : World} {g : Nat} {A B : Option Addr} {n c m d : Nat} (h : BX wr g A n c B m d) : wr.cell? ⟨g, 1, none⟩ = some (.slice B m d) := by rw [cell_blk h.box]; rfl

end Go.Proofs.Ytllblmndoigdlaa

/- marks in networks -/
namespace Go.Proofs.Ytllblmndoigdlaa
open Go.RowKit

theorem Own.apart {w w' : World} {A X : Option Addr} {n c B : Nat} {zs : List Int} (h : Own w A n c zs) (hf : Fresh B A) (hg : w.grownBy w' (X.map (·.block))) (hx : ∀ a, X = some a → a.block < B) : Own w' A n c zs :=
  h.keep fun a ha => hg.block _ (h.lt a ha) (fun e => by
    cases X with
    | none => cases e
    | some x => have := hf a ha; have := hx x rfl; simp at e; omega)
theorem Own.apart' {w w' : World} {A X : Option Addr} {n c B : Nat} {zs : List Int} (h : Own w A n c zs) (hf : ∀ a, A = some a → a.block < B) (hg : w.grownBy w' (X.map (·.block))) (hx : Fresh B X) : Own w' A n c zs :=
  h.keep fun a ha => hg.block _ (h.lt a ha) (fun e => by
    cases X with
    | none => cases e
    | some x => have := hf a ha; have := hx x rfl; simp at e; omega)
theorem below_mark {w w1 w2 : World} {X : Option Addr} (h : Below w.heap.size w w1) (hg : w1.grownBy w2 (X.map (·.block))) (hf : Fresh w.heap.size X) : Below w.heap.size w w2 := h.grown hg h.size (fresh_row hf)

theorem grown_set {w wr : World} {G : Nat} (hg : w.grownBy wr (some G)) (i : Nat) (u : Value) : w.grownBy (wr.setCell ⟨G, i, none⟩ u) (some G) :=
  ⟨hg.os, hg.tape, hg.output, by simpa [World.setCell] using hg.size, fun j hj hne => (Below.heap_setCell wr ⟨G, i, none⟩ _ j (fun e => hne (by rw [e]))).trans (hg.block j hj hne)⟩
theorem grown_below {w wr w' : World} {row : Option Nat} (hg : w.grownBy wr row) (hb : Below wr.heap.size wr w') : w.grownBy w' row :=
  ⟨hb.os.trans hg.os, hb.tape.trans hg.tape, hb.output.trans hg.output, Nat.le_trans hg.size hb.size, fun j hj hne => (hb.block j (Nat.lt_of_lt_of_le hj hg.size)).trans (hg.block j hj hne)⟩

theorem OwnNet.apart {w : World} {A B : Option Addr} {n c m d : Nat} {net : Net} (h : OwnNet w A n c B m d net) : ∀ a b, A = some a → B = some b → a.block ≠ b.block := by
  intro a b ha hb he
  rcases h.nodes.row.2 with ⟨h1, _⟩ | ⟨g, cap, cur, h1, _, hg, _⟩
  · injection h1 with h1; rw [ha] at h1; cases h1
  · rcases h.pipes.row.2 with ⟨h2, _⟩ | ⟨g', cap', cur', h2, _, hg', _⟩
    · injection h2 with h2; rw [hb] at h2; cases h2
    · injection h1 with h1
      injection h2 with h2
      rw [ha] at h1
      rw [hb] at h2
      injection h1 with h1
      injection h2 with h2
      subst h1 h2
      simp only at he
      subst he
      rw [hg] at hg'
      injection hg' with hg'
      injection hg' with _ hT
      revert hT
      decide

end Go.Proofs.Ytllblmndoigdlaa
