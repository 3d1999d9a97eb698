/- draws: resistances, flows, drops -/
import Derived.Test.YtioiebjgjimeiaaSrc
import Derived.Test.YtioiebjgjimeiaaMark
namespace Go.Proofs.Ytioiebjgjimeiaa
open Go.RowKit

theorem only_trans {a b c : World} {g : Nat} (h : a.grownBy b (some g)) (k : b.grownBy c (some g)) : a.grownBy c (some g) :=
  ⟨k.os.trans h.os, k.tape.trans h.tape, k.output.trans h.output, Nat.le_trans h.size k.size, fun i hi hne => (k.block i (Nat.lt_of_lt_of_le hi h.size) hne).trans (h.block i hi hne)⟩
theorem only_new {a b c : World} {g : Nat} {row : Option Nat} (h : a.grownBy b (some g)) (k : b.grownBy c row) (hr : ∀ i, row = some i → a.heap.size ≤ i) : a.grownBy c (some g) :=
  ⟨k.os.trans h.os, k.tape.trans h.tape, k.output.trans h.output, Nat.le_trans h.size k.size, fun i hi hne => (k.block i (Nat.lt_of_lt_of_le hi h.size) (fun e => by have := hr i e.symm; omega)).trans (h.block i hi hne)⟩
theorem only_alloc {a w : World} {row : Option Nat} (h : a.grownBy w row) (o : Obj) : a.grownBy (w.alloc o) row :=
  ⟨h.os, h.tape, h.output, Nat.le_trans h.size (by simp), fun i hi hne => (Below.heap_alloc w o i (Nat.lt_of_lt_of_le hi h.size)).trans (h.block i hi hne)⟩
theorem below_only {a w : World} {B g : Nat} (h : a.grownBy w (some g)) (hB : B ≤ a.heap.size) (hg : B ≤ g) : Below B a w :=
  ⟨h.os, h.tape, h.output, h.size, fun i hi => h.block i (by omega) (fun e => by injection e; omega)⟩
theorem only_below {a w : World} {row : Option Nat} (h : Below a.heap.size a w) : a.grownBy w row := ⟨h.os, h.tape, h.output, h.size, fun i hi _ => h.block i hi⟩
theorem Src.lt {w : World} {g : Nat} {A : Option Addr} {n c : Nat} {bs : List Int} (h : Src w g A n c bs) : g < w.heap.size := by
  obtain ⟨_, _, t, s, _, _, _, h6⟩ := h
  exact (Array.getElem?_eq_some_iff.1 h6).1
theorem Src.alloc {w : World} {g : Nat} {A : Option Addr} {n c : Nat} {bs : List Int} (h : Src w g A n c bs) (o : Obj) : Src (w.alloc o) g A n c bs := h.keep ((Below.refl _ _).alloc (Nat.le_refl _) o)
theorem Src.other {w w' : World} {g : Nat} {A : Option Addr} {n c : Nat} {bs : List Int} (h : Src w g A n c bs) {row : Option Nat} (hg : w.grownBy w' row) (hr : some g ≠ row) (hr2 : 0 < n → ∀ a, A = some a → some a.block ≠ row) : Src w' g A n c bs := by
  obtain ⟨h1, h2, t, s, h3, h4, h5, h6⟩ := h
  refine ⟨h1.keep hg.size fun hn a ha => hg.block _ (h1.blk hn a ha) (hr2 hn a ha), h2, t, s, h3, h4, h5, (hg.block g (Array.getElem?_eq_some_iff.1 h6).1 hr).trans h6⟩
theorem Own.other {w w' : World} {A : Option Addr} {n c : Nat} {zs : List Int} (h : Own w A n c zs) {row : Option Nat} (hg : w.grownBy w' row) (hr : ∀ a, A = some a → some a.block ≠ row) : Own w' A n c zs :=
  h.keep fun a ha => hg.block _ (h.lt a ha) (hr a ha)

/-- a literal list, indexed -/
theorem lit_cell {W w1 : World} {g B : Nat} {cs : Array Value} {T : TypeId} (hb : W.heap[B]? = some (.cells cs T (0, 0))) (hgr : W.grownBy w1 (some g)) (hne : B ≠ g) (k : Nat) (hk : cs.size = k) (r : Int) (h0 : 0 ≤ r) (h1 : r < k) (hall : ∀ v ∈ cs, ∃ z, v = .int .i64 z ∧ I64 z) :
    ∃ z, w1.cell? ⟨B, r.toNat, none⟩ = some (.int .i64 z) ∧ I64 z := by
  have hlt : B < W.heap.size := (Array.getElem?_eq_some_iff.1 hb).1
  have e := (hgr.block B hlt (fun e => hne (by injection e))).trans hb
  have hr : r.toNat < cs.size := by omega
  obtain ⟨z, hz, hi⟩ := hall cs[r.toNat] (Array.getElem_mem hr)
  exact ⟨z, by rw [cell_blk e, Array.getElem?_eq_getElem hr, hz], hi⟩

def sliceLen : Value → Nat | .slice _ n _ => n | _ => 0
theorem cell_new1 (w : World) (v : Value) (T : TypeId) : (w.alloc (.cells #[v] T)).cell? ⟨w.heap.size, 0, none⟩ = some v := by
  rw [cell_blk (heap_alloc_new w (.cells #[v] T))]; rfl
theorem own_lit0 (w : World) : Own (w.alloc (.cells #[] 2)) (some ⟨w.heap.size, 0, none⟩) 0 0 [] :=
  ⟨⟨by simp, .inr ⟨w.heap.size, 0, #[], rfl, Nat.zero_le _, heap_alloc_new w _, Nat.le_refl _, Nat.zero_le _, rfl, rfl⟩⟩, by simp⟩
theorem fresh_app {A A' : Option Addr} {B x : Nat} (h : Fresh B A) (hx : B ≤ x) (hb : A'.map (·.block) = A.map (·.block) ∨ A'.map (·.block) = some x) : Fresh B A' := by
  intro a ha
  subst ha
  rcases hb with hb | hb
  · cases A with
    | none => simp at hb
    | some a' => simp at hb; rw [hb]; exact h a' rfl
  · simp at hb; omega
theorem Src.new {w w' : World} {g : Nat} {A A' : Option Addr} {n c : Nat} {bs : List Int} {B : Nat} (h : Src w g A n c bs) (hg : w.grownBy w' (A'.map (·.block))) (hf : Fresh B A') (hgB : g < B) (hA : 0 < n → ∀ a, A = some a → a.block < B) : Src w' g A n c bs :=
  h.other hg (fun e => by have := fresh_row hf g e.symm; omega) (fun hn a ha e => by have := fresh_row hf _ e.symm; have := hA hn a ha; omega)
theorem Src.blk {w : World} {g : Nat} {A : Option Addr} {n c : Nat} {bs : List Int} (h : Src w g A n c bs) (hn : 0 < n) : ∀ a, A = some a → a.block < w.heap.size := h.1.blk hn
theorem Own.lone {w w' : World} {A : Option Addr} {n c g B : Nat} {zs : List Int} (h : Own w A n c zs) (hf : Fresh B A) (hg : w.grownBy w' (some g)) (hgB : g < B) : Own w' A n c zs :=
  h.other hg (fun a ha e => by injection e with e; have := hf a ha; omega)

theorem wrap64_i64 (x : Int) : I64 (wrap64 x) := by
  unfold wrap64; exact ⟨by omega, by omega⟩

end Go.Proofs.Ytioiebjgjimeiaa
