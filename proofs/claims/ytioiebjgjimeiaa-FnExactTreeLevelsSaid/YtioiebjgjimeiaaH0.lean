/- memory: slices of the call's own side by side; networks as graphs -/
import Derived.Test.YtioiebjgjimeiaaF9
import Derived.Test.YtioiebjgjimeiaaQ4
import Derived.Test.YtioiebjgjimeiaaDr9
namespace Go.Proofs.Ytioiebjgjimeiaa
open Go.RowKit

/-- two rows in different blocks -/
def Apart (A A' : Option Addr) : Prop := ∀ a a', A = some a → A' = some a' → a.block ≠ a'.block
theorem Apart.symm {A A' : Option Addr} (h : Apart A A') : Apart A' A := fun a a' h1 h2 => Ne.symm (h a' a h2 h1)
theorem apart_new {A A' : Option Addr} {B : Nat} (h : ∀ a, A = some a → a.block < B) (h' : Fresh B A') : Apart A A' := fun a a' h1 h2 => by
  have := h a h1; have := h' a' h2; omega
theorem apart_nil {A : Option Addr} : Apart none A := fun a a' h1 _ => by cases h1
theorem apart_ne {a b : Nat} {o o' : Nat} (h : a ≠ b) : Apart (some ⟨a, o, none⟩) (some ⟨b, o', none⟩) := fun x y hx hy => by
  injection hx with hx; injection hy with hy; subst hx; subst hy; exact h

/-- a change of one row, or growth, leaves another row -/
theorem Own.aside {w w' : World} {A E : Option Addr} {n c : Nat} {zs : List Int} (h : Own w E n c zs) (hp : Apart A E) (hg : w.grownBy w' (A.map (·.block))) : Own w' E n c zs :=
  h.keep fun a ha => hg.block _ (h.lt a ha) (fun e => by
    cases A with
    | none => cases e
    | some x => simp at e; exact hp x a rfl ha e.symm)
theorem apart_app {w : World} {A A' E : Option Addr} (hp : Apart A E) (hl : ∀ a, E = some a → a.block < w.heap.size) (hb : A'.map (·.block) = A.map (·.block) ∨ A'.map (·.block) = some w.heap.size) : Apart A' E := by
  intro a a' h1 h2
  subst h1
  have := hl a' h2
  rcases hb with hb | hb
  · cases A with
    | none => simp at hb
    | some x => simp at hb; rw [hb]; exact hp x a' rfl h2
  · simp at hb; omega
theorem below_app {w0 w w' : World} {A : Option Addr} (h : Below w0.heap.size w0 w) (hf : Fresh w0.heap.size A) (hg : w.grownBy w' (A.map (·.block))) : Below w0.heap.size w0 w' :=
  h.grown hg h.size fun i hi => fresh_row hf i hi
theorem fresh_app' {w0 w : World} {A A' : Option Addr} (hf : Fresh w0.heap.size A) (hs : w0.heap.size ≤ w.heap.size) (hb : A'.map (·.block) = A.map (·.block) ∨ A'.map (·.block) = some w.heap.size) : Fresh w0.heap.size A' := fresh_app hf hs hb

theorem size_alloc1 (w : World) (o : Obj) : (w.alloc o).heap.size = w.heap.size + 1 := by simp
theorem cell_new2 (w : World) (o : Obj) (v : Value) (t : TypeId) : ((w.alloc o).alloc (.cells #[v] t)).cell? ⟨w.heap.size + 1, 0, none⟩ = some v := by
  rw [← size_alloc1 w o]; exact cell_new1 (w.alloc o) v t
theorem cell_new3 (w : World) (o o' : Obj) (v : Value) (t : TypeId) : (((w.alloc o).alloc o').alloc (.cells #[v] t)).cell? ⟨w.heap.size + 1 + 1, 0, none⟩ = some v := by
  rw [← size_alloc1 w o, ← size_alloc1 (w.alloc o) o']; exact cell_new1 ((w.alloc o).alloc o') v t

/-! ### networks as graphs -/
def netG (net : Net) : Gr := ⟨net.nodes.length, net.pipes.length, fun i => (pp net.pipes i).fr.toNat, fun i => (pp net.pipes i).to.toNat⟩
structure NetOK (net : Net) : Prop where
  n1 : 1 ≤ net.nodes.length
  n24 : net.nodes.length ≤ 24
  m40 : net.pipes.length ≤ 40
  pipe : ∀ j, j < net.pipes.length → 0 ≤ (pp net.pipes j).fr ∧ (pp net.pipes j).fr < net.nodes.length ∧ 0 ≤ (pp net.pipes j).to ∧ (pp net.pipes j).to < net.nodes.length ∧ (pp net.pipes j).fr ≠ (pp net.pipes j).to
theorem NetOK.of {net : Net} (h : netB net = true) : NetOK net :=
  ⟨(netB_sizes h).1, (netB_sizes h).2.1, (netB_sizes h).2.2, fun j hj => by have := netB_pipe_at h hj; omega⟩
theorem NetOK.g {net : Net} (h : NetOK net) : (netG net).ok := fun i hi => by
  have := h.pipe i hi
  show (pp net.pipes i).fr.toNat < net.nodes.length ∧ (pp net.pipes i).to.toNat < net.nodes.length ∧ (pp net.pipes i).fr.toNat ≠ (pp net.pipes i).to.toNat
  omega
theorem NetOK.fr {net : Net} (h : NetOK net) {j : Nat} (hj : j < net.pipes.length) : (pp net.pipes j).fr = ((netG net).f j : Nat) := by
  have := h.pipe j hj
  show _ = (((pp net.pipes j).fr.toNat : Nat) : Int)
  omega
theorem NetOK.to {net : Net} (h : NetOK net) {j : Nat} (hj : j < net.pipes.length) : (pp net.pipes j).to = ((netG net).t j : Nat) := by
  have := h.pipe j hj
  show _ = (((pp net.pipes j).to.toNat : Nat) : Int)
  omega

/-- a list of numbers of nodes or pipes in memory -/
def nl (l : List Nat) : List Int := l.map Int.ofNat
theorem nl_len (l : List Nat) : (nl l).length = l.length := by simp [nl]
theorem nl_snoc (l : List Nat) (x : Nat) : nl (l ++ [x]) = nl l ++ [(x : Int)] := by simp [nl]
theorem nl_ig {l : List Nat} {j : Nat} (h : j < l.length) : ig (nl l) j = (l[j] : Nat) := by
  rw [ig_lt (by rw [nl_len]; exact h)]; simp [nl]
theorem Gr.atK_succ (g : Gr) (v k : Nat) : g.atK v (k + 1) = if g.touch v k then g.atK v k ++ [k] else g.atK v k := by
  unfold Gr.atK
  rw [List.range_succ, List.filter_append]
  by_cases h : g.touch v k = true
  · simp [h]
  · simp [h]
theorem Gr.atK_len (g : Gr) (v k : Nat) : (g.atK v k).length ≤ k := by
  have := List.length_filter_le (g.touch v) (List.range k)
  simpa [Gr.atK] using this

end Go.Proofs.Ytioiebjgjimeiaa
