/- a network that came in -/
import Derived.Test.YtioiebjgjimeiaaN3
import Derived.Lib.SmallJoins
import Derived.Deep.Slices
import Derived.Deep.Fields
import Derived.ChangeSame
namespace Go.Proofs.Ytioiebjgjimeiaa
open Go.RowKit Go.Joins Go.ChangeShapes Go.WideShapes Go.Deep

section
variable {H : Type} {enc : TypeId × Value → H} {w : World} {base : Nat} {held : Bool}

theorem add_is {b off : Nat} {spot : Option Nat} {k : Nat} (h : spot = none) : (⟨b, off, spot⟩ : Addr).add k = ⟨b, off + k, none⟩ := by
  subst h; unfold Addr.add; split
  · rename_i h; rw [h]; rfl
  · rfl

theorem list_of {α : Type} [Inhabited α] (n : Nat) (p : Nat → α → Prop) (h : ∀ i, i < n → ∃ x, p i x) : ∃ l : List α, l.length = n ∧ ∀ i, i < n → ∃ x, l[i]? = some x ∧ p i x := by
  induction n with
  | zero => exact ⟨[], rfl, fun i hi => absurd hi (by omega)⟩
  | succ n ih =>
    obtain ⟨l, hl, hp⟩ := ih (fun i hi => h i (by omega))
    obtain ⟨x, hx⟩ := h n (by omega)
    refine ⟨l ++ [x], by simp [hl], fun i hi => ?_⟩
    rcases Nat.lt_or_ge i n with h' | h'
    · obtain ⟨y, hy, hpy⟩ := hp i h'
      exact ⟨y, by rw [List.getElem?_append_left (by omega)]; exact hy, hpy⟩
    · have : i = n := by omega
      subst this
      exact ⟨x, by rw [List.getElem?_append_right (by omega), hl]; simp, hx⟩

instance : Inhabited Node := ⟨node0⟩
instance : Inhabited Pipe := ⟨pipe0⟩

theorem cells_nodes : Try.prog.cellsOf 128 = 3 := by kernel_rfl
theorem cells_pipes : Try.prog.cellsOf 132 = 5 := by kernel_rfl
theorem cells_net : Try.prog.cellsOf 52 = 2 := by kernel_rfl

theorem cells_str : Try.prog.cellsOf 9 = 1 := by kernel_rfl
theorem cells_i64 : Try.prog.cellsOf 2 = 1 := by kernel_rfl

theorem three {α : Type} {l : List α} (h : l.length = 3) : ∃ a b c, l = [a, b, c] := by
  match l, h with
  | [a, b, c], _ => exact ⟨a, b, c, rfl⟩
theorem five {α : Type} {l : List α} (h : l.length = 5) : ∃ a b c d e, l = [a, b, c, d, e] := by
  match l, h with
  | [a, b, c, d, e], _ => exact ⟨a, b, c, d, e, rfl⟩

theorem open_nodes {fuel : Nat} {v : Value} {x : DataW H × List MemPlace} (h : DataW.trod enc Try.prog w base (fun _ => true) held fuel 49 [v] = some x) :
    ∃ A n c ns, v = .slice A n c ∧ NodesAt w A n c ns := by
  rcases open_slice Try.underlying49 h with ⟨h0, _⟩ | ⟨a, len, cap, m, n, D, Pl, hcs, hb, hl, hm, hmm, hx, hi⟩
  · simp at h0; exact ⟨none, 0, 0, [], h0, NodesAt.nil⟩
  · simp at hcs
    subst hcs
    simp at hmm
    subst hmm
    have key : ∀ i, i < len → ∃ y : Node, (∀ j, j < 3 → w.cell? ((a.add (i * 3)).add j) = [Value.string y.name, .int .i64 y.low, .int .i64 y.high][j]?) ∧ y.ok := by
      intro i hil
      obtain ⟨cs', hc, ht'⟩ := hi i (by omega)
      rw [cells_nodes] at hc
      obtain ⟨ys, n', hn', hy, hlen, hyl, hf⟩ := DataW.trod_struct Try.underlying128 ht'
      rw [cells_nodes] at hlen
      obtain ⟨_, _, hat⟩ := World.cells?_some hc
      obtain ⟨v0, v1, v2, rfl⟩ := three hlen
      obtain ⟨y0, y1, y2, rfl⟩ := three hyl
      have f0 : DataW.trod enc Try.prog w base (fun _ => true) held n' 9 (List.take (Try.prog.cellsOf 9) (List.drop 0 [v0, v1, v2])) = some y0 := hf 0 _ rfl
      have f1 : DataW.trod enc Try.prog w base (fun _ => true) held n' 2 (List.take (Try.prog.cellsOf 2) (List.drop 1 [v0, v1, v2])) = some y1 := hf 1 _ rfl
      have f2 : DataW.trod enc Try.prog w base (fun _ => true) held n' 2 (List.take (Try.prog.cellsOf 2) (List.drop 2 [v0, v1, v2])) = some y2 := hf 2 _ rfl
      rw [cells_str] at f0
      rw [cells_i64] at f1 f2
      obtain ⟨s, e0, _, hs⟩ := DataW.trod_string Try.underlying9 f0
      obtain ⟨lo, e1, _, hlo⟩ := DataW.trod_int Try.underlying2 f1
      obtain ⟨hi', e2, _, hhi⟩ := DataW.trod_int Try.underlying2 f2
      simp at e0 e1 e2
      subst e0 e1 e2
      exact ⟨⟨s, lo, hi'⟩, hat, i64_of_wf hlo, i64_of_wf hhi, by unfold maxLen at hs; omega⟩
    obtain ⟨ns, hnl, hns⟩ := list_of len _ key
    refine ⟨some a, len, _, ns, rfl, hnl, hl, by unfold maxLen at hm; omega, fun y hy => ?_, fun hpos => ?_⟩
    · obtain ⟨i, hi', rfl⟩ := List.getElem_of_mem hy
      obtain ⟨y, hy, hp⟩ := hns i (by omega)
      rw [List.getElem?_eq_getElem hi'] at hy
      injection hy with hy
      rw [hy]; exact hp.2
    · obtain ⟨b, off, spot⟩ := a
      obtain ⟨y, hy, hp⟩ := hns 0 hpos
      have h0 := hp.1 0 (by omega)
      have hspot : spot = none := by simpa [Addr.add] using World.cell?_spot h0
      subst hspot
      refine ⟨b, off, rfl, by simpa [Addr.add] using World.block_lt_of_cell? _ _ h0, fun j hj => ?_⟩
      obtain ⟨y, hy, hp⟩ := hns j hj
      have e : nd ns j = y := by unfold nd; rw [List.getD_eq_getElem?_getD, hy]; rfl
      rw [e]
      have q0 := hp.1 0 (by omega)
      have q1 := hp.1 1 (by omega)
      have q2 := hp.1 2 (by omega)
      rw [add_is rfl, add_is rfl] at q0 q1 q2
      exact ⟨q0, q1, q2⟩

theorem open_pipes {fuel : Nat} {v : Value} {x : DataW H × List MemPlace} (h : DataW.trod enc Try.prog w base (fun _ => true) held fuel 50 [v] = some x) :
    ∃ A n c ns, v = .slice A n c ∧ PipesAt w A n c ns := by
  rcases open_slice Try.underlying50 h with ⟨h0, _⟩ | ⟨a, len, cap, m, n, D, Pl, hcs, hb, hl, hm, hmm, hx, hi⟩
  · simp at h0; exact ⟨none, 0, 0, [], h0, PipesAt.nil⟩
  · simp at hcs
    subst hcs
    simp at hmm
    subst hmm
    have key : ∀ i, i < len → ∃ y : Pipe, (∀ j, j < 5 → w.cell? ((a.add (i * 5)).add j) = [Value.int .i64 y.fr, .int .i64 y.to, .int .i64 y.k, .int .i64 y.vol, .int .i64 y.lim][j]?) ∧ y.ok := by
      intro i hil
      obtain ⟨cs', hc, ht'⟩ := hi i (by omega)
      rw [cells_pipes] at hc
      obtain ⟨ys, n', hn', hy, hlen, hyl, hf⟩ := DataW.trod_struct Try.underlying132 ht'
      rw [cells_pipes] at hlen
      obtain ⟨_, _, hat⟩ := World.cells?_some hc
      obtain ⟨v0, v1, v2, v3, v4, rfl⟩ := five hlen
      obtain ⟨y0, y1, y2, y3, y4, rfl⟩ := five hyl
      have f0 : DataW.trod enc Try.prog w base (fun _ => true) held n' 2 (List.take (Try.prog.cellsOf 2) (List.drop 0 [v0, v1, v2, v3, v4])) = some y0 := hf 0 _ rfl
      have f1 : DataW.trod enc Try.prog w base (fun _ => true) held n' 2 (List.take (Try.prog.cellsOf 2) (List.drop 1 [v0, v1, v2, v3, v4])) = some y1 := hf 1 _ rfl
      have f2 : DataW.trod enc Try.prog w base (fun _ => true) held n' 2 (List.take (Try.prog.cellsOf 2) (List.drop 2 [v0, v1, v2, v3, v4])) = some y2 := hf 2 _ rfl
      have f3 : DataW.trod enc Try.prog w base (fun _ => true) held n' 2 (List.take (Try.prog.cellsOf 2) (List.drop 3 [v0, v1, v2, v3, v4])) = some y3 := hf 3 _ rfl
      have f4 : DataW.trod enc Try.prog w base (fun _ => true) held n' 2 (List.take (Try.prog.cellsOf 2) (List.drop 4 [v0, v1, v2, v3, v4])) = some y4 := hf 4 _ rfl
      rw [cells_i64] at f0 f1 f2 f3 f4
      obtain ⟨z0, e0, _, h0⟩ := DataW.trod_int Try.underlying2 f0
      obtain ⟨z1, e1, _, h1⟩ := DataW.trod_int Try.underlying2 f1
      obtain ⟨z2, e2, _, h2⟩ := DataW.trod_int Try.underlying2 f2
      obtain ⟨z3, e3, _, h3⟩ := DataW.trod_int Try.underlying2 f3
      obtain ⟨z4, e4, _, h4⟩ := DataW.trod_int Try.underlying2 f4
      simp at e0 e1 e2 e3 e4
      subst e0 e1 e2 e3 e4
      exact ⟨⟨z0, z1, z2, z3, z4⟩, hat, i64_of_wf h0, i64_of_wf h1, i64_of_wf h2, i64_of_wf h3, i64_of_wf h4⟩
    obtain ⟨ns, hnl, hns⟩ := list_of len _ key
    refine ⟨some a, len, _, ns, rfl, hnl, hl, by unfold maxLen at hm; omega, fun y hy => ?_, fun hpos => ?_⟩
    · obtain ⟨i, hi', rfl⟩ := List.getElem_of_mem hy
      obtain ⟨y, hy, hp⟩ := hns i (by omega)
      rw [List.getElem?_eq_getElem hi'] at hy
      injection hy with hy
      rw [hy]; exact hp.2
    · obtain ⟨b, off, spot⟩ := a
      obtain ⟨y, hy, hp⟩ := hns 0 hpos
      have h0 := hp.1 0 (by omega)
      have hspot : spot = none := by simpa [Addr.add] using World.cell?_spot h0
      subst hspot
      refine ⟨b, off, rfl, by simpa [Addr.add] using World.block_lt_of_cell? _ _ h0, fun j hj => ?_⟩
      obtain ⟨y, hy, hp⟩ := hns j hj
      have e : pp ns j = y := by unfold pp; rw [List.getD_eq_getElem?_getD, hy]; rfl
      rw [e]
      have q0 := hp.1 0 (by omega)
      have q1 := hp.1 1 (by omega)
      have q2 := hp.1 2 (by omega)
      have q3 := hp.1 3 (by omega)
      have q4 := hp.1 4 (by omega)
      rw [add_is rfl, add_is rfl] at q0 q1 q2 q3 q4
      exact ⟨q0, q1, q2, q3, q4⟩

set_option maxRecDepth 100000 in
theorem open_net {r : Reach} {b0 : Nat} {v : Value} {dd : DataW H} {p : List MemPlace} (hv : Value.okWide Try.prog w r b0 52 v) (h : DataW.Trod enc Try.prog w base (fun _ => true) held 52 v dd p) :
    ∃ A n c B m d net, v = .agg #[.slice A n c, .slice B m d] ∧ NetAt w A n c B m d net := by
  obtain ⟨c0, c1, y0, y1, k, rfl, rfl, rfl, hy0, hy1⟩ := open_agg2 Try.underlying52 (by kernel_rfl) cells_net hv h
  obtain ⟨A, n, c, ns, rfl, hn⟩ := open_nodes hy0
  obtain ⟨B, m, d, ps, rfl, hp⟩ := open_pipes hy1
  exact ⟨A, n, c, B, m, d, ⟨ns, ps⟩, rfl, hn, hp⟩

end
end Go.Proofs.Ytioiebjgjimeiaa
