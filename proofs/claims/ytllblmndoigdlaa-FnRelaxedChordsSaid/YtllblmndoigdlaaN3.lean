/- networks: memory -/
import Derived.Test.YtllblmndoigdlaaMark
import Derived.StillTailTactics
namespace Go.Proofs.Ytllblmndoigdlaa
open Go.RowKit

structure Node where
  name : ByteArray
  low : Int
  high : Int

structure Pipe where
  fr : Int
  to : Int
  k : Int
  vol : Int
  lim : Int

structure Net where
  nodes : List Node
  pipes : List Pipe

def node0 : Node := ⟨⟨#[]⟩, 0, 0⟩
def pipe0 : Pipe := ⟨0, 0, 0, 0, 0⟩
def nd (ns : List Node) (j : Nat) : Node := ns.getD j node0
def pp (ps : List Pipe) (j : Nat) : Pipe := ps.getD j pipe0
theorem nd_lt {ns : List Node} {j : Nat} (h : j < ns.length) : nd ns j = ns[j] := by
  unfold nd; rw [List.getD_eq_getElem?_getD, List.getElem?_eq_getElem h]; rfl
theorem pp_lt {ns : List Pipe} {j : Nat} (h : j < ns.length) : pp ns j = ns[j] := by
  unfold pp; rw [List.getD_eq_getElem?_getD, List.getElem?_eq_getElem h]; rfl

def Node.ok (x : Node) : Prop := I64 x.low ∧ I64 x.high ∧ x.name.size ≤ 9223372036854775807
def Pipe.ok (x : Pipe) : Prop := I64 x.fr ∧ I64 x.to ∧ I64 x.k ∧ I64 x.vol ∧ I64 x.lim
theorem node0_ok : node0.ok := ⟨⟨by decide, by decide⟩, ⟨by decide, by decide⟩, by decide⟩
theorem pipe0_ok : pipe0.ok := ⟨⟨by decide, by decide⟩, ⟨by decide, by decide⟩, ⟨by decide, by decide⟩, ⟨by decide, by decide⟩, ⟨by decide, by decide⟩⟩
theorem nd_ok {ns : List Node} (h : ∀ x ∈ ns, x.ok) (j : Nat) : (nd ns j).ok := by
  rcases Nat.lt_or_ge j ns.length with hj | hj
  · rw [nd_lt hj]; exact h _ (List.getElem_mem hj)
  · unfold nd; rw [List.getD_eq_getElem?_getD, List.getElem?_eq_none hj]; exact node0_ok
theorem pp_ok {ns : List Pipe} (h : ∀ x ∈ ns, x.ok) (j : Nat) : (pp ns j).ok := by
  rcases Nat.lt_or_ge j ns.length with hj | hj
  · rw [pp_lt hj]; exact h _ (List.getElem_mem hj)
  · unfold pp; rw [List.getD_eq_getElem?_getD, List.getElem?_eq_none hj]; exact pipe0_ok

/-- the three cells of a node, the five cells of a pipe -/
def NodeAt (w : World) (b o : Nat) (x : Node) : Prop := w.cell? ⟨b, o, none⟩ = some (.string x.name) ∧ w.cell? ⟨b, o + 1, none⟩ = some (.int .i64 x.low) ∧ w.cell? ⟨b, o + 2, none⟩ = some (.int .i64 x.high)
def PipeAt (w : World) (b o : Nat) (x : Pipe) : Prop := w.cell? ⟨b, o, none⟩ = some (.int .i64 x.fr) ∧ w.cell? ⟨b, o + 1, none⟩ = some (.int .i64 x.to) ∧ w.cell? ⟨b, o + 2, none⟩ = some (.int .i64 x.k) ∧ w.cell? ⟨b, o + 3, none⟩ = some (.int .i64 x.vol) ∧ w.cell? ⟨b, o + 4, none⟩ = some (.int .i64 x.lim)
theorem NodeAt.keep {w w' : World} {b o : Nat} {x : Node} (h : NodeAt w b o x) (hk : w'.heap[b]? = w.heap[b]?) : NodeAt w' b o x :=
  ⟨(World.cell?_of_block (a := ⟨b, o, none⟩) hk).trans h.1, (World.cell?_of_block (a := ⟨b, o + 1, none⟩) hk).trans h.2.1, (World.cell?_of_block (a := ⟨b, o + 2, none⟩) hk).trans h.2.2⟩
theorem PipeAt.keep {w w' : World} {b o : Nat} {x : Pipe} (h : PipeAt w b o x) (hk : w'.heap[b]? = w.heap[b]?) : PipeAt w' b o x :=
  ⟨(World.cell?_of_block (a := ⟨b, o, none⟩) hk).trans h.1, (World.cell?_of_block (a := ⟨b, o + 1, none⟩) hk).trans h.2.1, (World.cell?_of_block (a := ⟨b, o + 2, none⟩) hk).trans h.2.2.1,
   (World.cell?_of_block (a := ⟨b, o + 3, none⟩) hk).trans h.2.2.2.1, (World.cell?_of_block (a := ⟨b, o + 4, none⟩) hk).trans h.2.2.2.2⟩

structure NodesAt (w : World) (A : Option Addr) (n c : Nat) (ns : List Node) : Prop where
  len : ns.length = n
  le : n ≤ c
  cap : c ≤ 9223372036854775807
  ok : ∀ x ∈ ns, x.ok
  cells : 0 < n → ∃ b off, A = some ⟨b, off, none⟩ ∧ b < w.heap.size ∧ ∀ j, j < n → NodeAt w b (off + j * 3) (nd ns j)
structure PipesAt (w : World) (A : Option Addr) (n c : Nat) (ns : List Pipe) : Prop where
  len : ns.length = n
  le : n ≤ c
  cap : c ≤ 9223372036854775807
  ok : ∀ x ∈ ns, x.ok
  cells : 0 < n → ∃ b off, A = some ⟨b, off, none⟩ ∧ b < w.heap.size ∧ ∀ j, j < n → PipeAt w b (off + j * 5) (pp ns j)
/-- '.agg #[.slice A n c, .slice B m d]' is the network net -/
structure NetAt (w : World) (A : Option Addr) (n c : Nat) (B : Option Addr) (m d : Nat) (net : Net) : Prop where
  nodes : NodesAt w A n c net.nodes
  pipes : PipesAt w B m d net.pipes

section
variable {w w' : World} {A B : Option Addr} {n c m d : Nat} {ns : List Node} {ps : List Pipe} {net : Net}
theorem NodesAt.nil : NodesAt w none 0 0 [] := ⟨rfl, by omega, by omega, by simp, fun h => absurd h (by omega)⟩
theorem PipesAt.nil : PipesAt w none 0 0 [] := ⟨rfl, by omega, by omega, by simp, fun h => absurd h (by omega)⟩
theorem NodesAt.later (h : NodesAt w A n c ns) (hb : Below w.heap.size w w') : NodesAt w' A n c ns :=
  ⟨h.len, h.le, h.cap, h.ok, fun hn => by
    obtain ⟨b, off, rfl, hlt, hc⟩ := h.cells hn
    exact ⟨b, off, rfl, by have := hb.size; omega, fun j hj => (hc j hj).keep (hb.block b hlt)⟩⟩
theorem PipesAt.later (h : PipesAt w A n c ps) (hb : Below w.heap.size w w') : PipesAt w' A n c ps :=
  ⟨h.len, h.le, h.cap, h.ok, fun hn => by
    obtain ⟨b, off, rfl, hlt, hc⟩ := h.cells hn
    exact ⟨b, off, rfl, by have := hb.size; omega, fun j hj => (hc j hj).keep (hb.block b hlt)⟩⟩
theorem NetAt.later (h : NetAt w A n c B m d net) (hb : Below w.heap.size w w') : NetAt w' A n c B m d net := ⟨h.nodes.later hb, h.pipes.later hb⟩
theorem NodesAt.sub (h : NodesAt w A n c ns) {k : Nat} (hk : k ≤ n) : NodesAt w A k c (ns.take k) := by
  have hl := h.len
  refine ⟨by rw [List.length_take]; omega, by have := h.le; omega, h.cap, fun x hx => h.ok x (List.mem_of_mem_take hx), fun hn => ?_⟩
  obtain ⟨b, off, rfl, hlt, hc⟩ := h.cells (by omega)
  refine ⟨b, off, rfl, hlt, fun j hj => ?_⟩
  have e : nd (ns.take k) j = nd ns j := by unfold nd; rw [List.getD_eq_getElem?_getD, List.getElem?_take_of_lt hj, List.getD_eq_getElem?_getD]
  rw [e]; exact hc j (by omega)

end

theorem bel1 (w : World) (o : Obj) : Below w.heap.size w (w.alloc o) := (Below.refl _ _).alloc (Nat.le_refl _) o
theorem bel2 (w : World) (o o' : Obj) : Below w.heap.size w ((w.alloc o).alloc o') := (bel1 w o).alloc (by simp) o'
theorem bel3 (w : World) (o o' o'' : Obj) : Below w.heap.size w (((w.alloc o).alloc o').alloc o'') := (bel2 w o o').alloc (by simp; omega) o''

/-! ### slices of nodes and pipes of the call's own -/
def ncells (ns : List Node) : List Value := ns.flatMap (fun x => [.string x.name, .int .i64 x.low, .int .i64 x.high])
def pcells (ps : List Pipe) : List Value := ps.flatMap (fun x => [.int .i64 x.fr, .int .i64 x.to, .int .i64 x.k, .int .i64 x.vol, .int .i64 x.lim])
theorem ncells_cons (x : Node) (ns : List Node) : ncells (x :: ns) = .string x.name :: .int .i64 x.low :: .int .i64 x.high :: ncells ns := rfl
theorem pcells_cons (x : Pipe) (ns : List Pipe) : pcells (x :: ns) = .int .i64 x.fr :: .int .i64 x.to :: .int .i64 x.k :: .int .i64 x.vol :: .int .i64 x.lim :: pcells ns := rfl
theorem ncells_len (ns : List Node) : (ncells ns).length = ns.length * 3 := by
  induction ns with
  | nil => rfl
  | cons x ns ih => rw [ncells_cons]; simp only [List.length_cons, ih]; omega
theorem pcells_len (ns : List Pipe) : (pcells ns).length = ns.length * 5 := by
  induction ns with
  | nil => rfl
  | cons x ns ih => rw [pcells_cons]; simp only [List.length_cons, ih]; omega
theorem ncells_at (ns : List Node) (j : Nat) (h : j < ns.length) : (ncells ns)[j * 3]? = some (.string (nd ns j).name) ∧ (ncells ns)[j * 3 + 1]? = some (.int .i64 (nd ns j).low) ∧ (ncells ns)[j * 3 + 2]? = some (.int .i64 (nd ns j).high) := by
  induction ns generalizing j with
  | nil => simp at h
  | cons x ns ih =>
    rw [ncells_cons]
    cases j with
    | zero => exact ⟨rfl, rfl, rfl⟩
    | succ j =>
      have := ih j (by simpa using h)
      have e : nd (x :: ns) (j + 1) = nd ns j := by simp [nd]
      rw [e, show (j + 1) * 3 = j * 3 + 3 by omega]
      exact this
theorem pcells_at (ns : List Pipe) (j : Nat) (h : j < ns.length) : (pcells ns)[j * 5]? = some (.int .i64 (pp ns j).fr) ∧ (pcells ns)[j * 5 + 1]? = some (.int .i64 (pp ns j).to) ∧ (pcells ns)[j * 5 + 2]? = some (.int .i64 (pp ns j).k) ∧ (pcells ns)[j * 5 + 3]? = some (.int .i64 (pp ns j).vol) ∧ (pcells ns)[j * 5 + 4]? = some (.int .i64 (pp ns j).lim) := by
  induction ns generalizing j with
  | nil => simp at h
  | cons x ns ih =>
    rw [pcells_cons]
    cases j with
    | zero => exact ⟨rfl, rfl, rfl, rfl, rfl⟩
    | succ j =>
      have := ih j (by simpa using h)
      have e : pp (x :: ns) (j + 1) = pp ns j := by simp [pp]
      rw [e, show (j + 1) * 5 = j * 5 + 5 by omega]
      exact this
theorem ncells_set (ns : List Node) (j : Nat) (x : Node) (h : j < ns.length) : (((ncells ns).set (j * 3) (.string x.name)).set (j * 3 + 1) (.int .i64 x.low)).set (j * 3 + 2) (.int .i64 x.high) = ncells (ns.set j x) := by
  induction ns generalizing j with
  | nil => simp at h
  | cons y ns ih =>
    cases j with
    | zero => rfl
    | succ j =>
      rw [List.set_cons_succ, ncells_cons, ncells_cons, ← ih j (by simpa using h), show (j + 1) * 3 = j * 3 + 3 by omega]
      rfl
theorem pcells_set (ns : List Pipe) (j : Nat) (x : Pipe) (h : j < ns.length) : (((((pcells ns).set (j * 5) (.int .i64 x.fr)).set (j * 5 + 1) (.int .i64 x.to)).set (j * 5 + 2) (.int .i64 x.k)).set (j * 5 + 3) (.int .i64 x.vol)).set (j * 5 + 4) (.int .i64 x.lim) = pcells (ns.set j x) := by
  induction ns generalizing j with
  | nil => simp at h
  | cons y ns ih =>
    cases j with
    | zero => rfl
    | succ j =>
      rw [List.set_cons_succ, pcells_cons, pcells_cons, ← ih j (by simpa using h), show (j + 1) * 5 = j * 5 + 5 by omega]
      rfl

/-- T: the type's number -/
structure OwnN (T : TypeId) (w : World) (A : Option Addr) (n c : Nat) (ns : List Node) : Prop where
  row : w.ownsRow 0 T 3 (.slice A n c) n (ncells ns)
  ok : ∀ x ∈ ns, x.ok
structure OwnP (T : TypeId) (w : World) (A : Option Addr) (n c : Nat) (ns : List Pipe) : Prop where
  row : w.ownsRow 0 T 5 (.slice A n c) n (pcells ns)
  ok : ∀ x ∈ ns, x.ok

theorem row_form {w : World} {T sz : Nat} {A : Option Addr} {n c : Nat} {xs : List Value} (h : w.ownsRow 0 T sz (.slice A n c) n xs) : (A = none ∧ n = 0 ∧ c = 0) ∨ ∃ g, A = some ⟨g, 0, none⟩ ∧ g < w.heap.size ∧ n ≤ c ∧ c ≤ 9223372036854775807 := by
  rcases h.2 with ⟨h1, h2⟩ | ⟨g, cap, cur, h1, _, hg, h3, h4, _⟩
  · injection h1 with a b c; exact .inl ⟨a, h2, c⟩
  · injection h1 with a b c; subst c
    exact .inr ⟨g, a, (Array.getElem?_eq_some_iff.1 hg).1, h3, h4⟩
theorem row_lt {w : World} {T sz : Nat} {A : Option Addr} {n c : Nat} {xs : List Value} (h : w.ownsRow 0 T sz (.slice A n c) n xs) : ∀ a, A = some a → a.block < w.heap.size := by
  intro a ha
  rcases row_form h with ⟨h1, _⟩ | ⟨g, h1, h2, _⟩
  · rw [h1] at ha; cases ha
  · rw [h1] at ha; injection ha with ha; subst ha; exact h2
theorem row_keep {w w' : World} {T sz : Nat} {A : Option Addr} {n c : Nat} {xs : List Value} (h : w.ownsRow 0 T sz (.slice A n c) n xs) (hk : ∀ a, A = some a → w'.heap[a.block]? = w.heap[a.block]?) : w'.ownsRow 0 T sz (.slice A n c) n xs := by
  refine ⟨h.1, ?_⟩
  rcases h.2 with hn | ⟨g, cap, cur, h1, hb, hgg, rest⟩
  · exact .inl hn
  · refine .inr ⟨g, cap, cur, h1, hb, ?_, rest⟩
    injection h1 with a _ _
    have := hk _ a
    rw [← hgg]; exact this

section
variable {w w' : World} {T : TypeId} {A : Option Addr} {n c : Nat} {ns : List Node} {ps : List Pipe}
theorem OwnN.len (h : OwnN T w A n c ns) : ns.length = n := by have := h.row.1; rw [ncells_len] at this; omega
theorem OwnP.len (h : OwnP T w A n c ps) : ps.length = n := by have := h.row.1; rw [pcells_len] at this; omega
theorem OwnN.lt (h : OwnN T w A n c ns) : ∀ a, A = some a → a.block < w.heap.size := row_lt h.row
theorem OwnP.lt (h : OwnP T w A n c ps) : ∀ a, A = some a → a.block < w.heap.size := row_lt h.row
theorem OwnN.keep (h : OwnN T w A n c ns) (hk : ∀ a, A = some a → w'.heap[a.block]? = w.heap[a.block]?) : OwnN T w' A n c ns := ⟨row_keep h.row hk, h.ok⟩
theorem OwnP.keep (h : OwnP T w A n c ps) (hk : ∀ a, A = some a → w'.heap[a.block]? = w.heap[a.block]?) : OwnP T w' A n c ps := ⟨row_keep h.row hk, h.ok⟩
theorem OwnN.later (h : OwnN T w A n c ns) (hb : Below w.heap.size w w') : OwnN T w' A n c ns := h.keep fun a ha => hb.block _ (h.lt a ha)
theorem OwnP.later (h : OwnP T w A n c ps) (hb : Below w.heap.size w w') : OwnP T w' A n c ps := h.keep fun a ha => hb.block _ (h.lt a ha)
theorem OwnN.pos (h : OwnN T w A n c ns) (hn : 0 < n) : ∃ g, A = some ⟨g, 0, none⟩ ∧ g < w.heap.size := by
  rcases row_form h.row with ⟨_, h0, _⟩ | ⟨g, h1, h2, _⟩
  · omega
  · exact ⟨g, h1, h2⟩
theorem OwnP.pos (h : OwnP T w A n c ps) (hn : 0 < n) : ∃ g, A = some ⟨g, 0, none⟩ ∧ g < w.heap.size := by
  rcases row_form h.row with ⟨_, h0, _⟩ | ⟨g, h1, h2, _⟩
  · omega
  · exact ⟨g, h1, h2⟩
theorem OwnN.cell {g : Nat} (h : OwnN T w (some ⟨g, 0, none⟩) n c ns) {j : Nat} (hj : j < n) : NodeAt w g (j * 3) (nd ns j) := by
  have hl := h.len
  obtain ⟨a, b, e⟩ := ncells_at ns j (by omega)
  exact ⟨by rw [h.row.cellAt _ (by omega), a], by rw [h.row.cellAt _ (by omega), b], by rw [h.row.cellAt _ (by omega), e]⟩
theorem OwnP.cell {g : Nat} (h : OwnP T w (some ⟨g, 0, none⟩) n c ps) {j : Nat} (hj : j < n) : PipeAt w g (j * 5) (pp ps j) := by
  have hl := h.len
  obtain ⟨a, b, e, f, k⟩ := pcells_at ps j (by omega)
  exact ⟨by rw [h.row.cellAt _ (by omega), a], by rw [h.row.cellAt _ (by omega), b], by rw [h.row.cellAt _ (by omega), e], by rw [h.row.cellAt _ (by omega), f], by rw [h.row.cellAt _ (by omega), k]⟩
theorem OwnN.nodes (h : OwnN T w A n c ns) : NodesAt w A n c ns := by
  rcases row_form h.row with ⟨rfl, rfl, rfl⟩ | ⟨g, rfl, hg, hn, hc⟩
  · have := h.len
    cases ns with
    | nil => exact NodesAt.nil
    | cons => simp at this
  · exact ⟨h.len, hn, hc, h.ok, fun _ => ⟨g, 0, rfl, hg, fun j hj => by rw [Nat.zero_add]; exact h.cell hj⟩⟩
theorem OwnP.pipes (h : OwnP T w A n c ps) : PipesAt w A n c ps := by
  rcases row_form h.row with ⟨rfl, rfl, rfl⟩ | ⟨g, rfl, hg, hn, hc⟩
  · have := h.len
    cases ps with
    | nil => exact PipesAt.nil
    | cons => simp at this
  · exact ⟨h.len, hn, hc, h.ok, fun _ => ⟨g, 0, rfl, hg, fun j hj => by rw [Nat.zero_add]; exact h.cell hj⟩⟩
theorem OwnN.store {g : Nat} (h : OwnN T w (some ⟨g, 0, none⟩) n c ns) {j : Nat} (hj : j < n) {x : Node} (hx : x.ok) :
    OwnN T (((w.setCell ⟨g, j * 3, none⟩ (.string x.name)).setCell ⟨g, j * 3 + 1, none⟩ (.int .i64 x.low)).setCell ⟨g, j * 3 + 2, none⟩ (.int .i64 x.high)) (some ⟨g, 0, none⟩) n c (ns.set j x) := by
  have hl := h.len
  refine ⟨?_, fun y hy => ?_⟩
  · rw [← ncells_set ns j x (by omega)]
    exact (((h.row.stored (j * 3) _).1.stored (j * 3 + 1) _).1.stored (j * 3 + 2) _).1
  · rcases List.mem_or_eq_of_mem_set hy with hy | rfl
    · exact h.ok y hy
    · exact hx
theorem OwnP.store {g : Nat} (h : OwnP T w (some ⟨g, 0, none⟩) n c ps) {j : Nat} (hj : j < n) {x : Pipe} (hx : x.ok) :
    OwnP T (((((w.setCell ⟨g, j * 5, none⟩ (.int .i64 x.fr)).setCell ⟨g, j * 5 + 1, none⟩ (.int .i64 x.to)).setCell ⟨g, j * 5 + 2, none⟩ (.int .i64 x.k)).setCell ⟨g, j * 5 + 3, none⟩ (.int .i64 x.vol)).setCell ⟨g, j * 5 + 4, none⟩ (.int .i64 x.lim)) (some ⟨g, 0, none⟩) n c (ps.set j x) := by
  have hl := h.len
  refine ⟨?_, fun y hy => ?_⟩
  · rw [← pcells_set ps j x (by omega)]
    exact (((((h.row.stored (j * 5) _).1.stored (j * 5 + 1) _).1.stored (j * 5 + 2) _).1.stored (j * 5 + 3) _).1.stored (j * 5 + 4) _).1
  · rcases List.mem_or_eq_of_mem_set hy with hy | rfl
    · exact h.ok y hy
    · exact hx

end

theorem set_nodes {ns : List Node} {k n : Nat} (hn : ns.length = n) (h : k < n) : (ns.take k ++ List.replicate (n - k) node0).set k (nd ns k) = ns.take (k + 1) ++ List.replicate (n - (k + 1)) node0 := by
  have hk : (ns.take k).length = k := by rw [List.length_take]; omega
  rw [List.set_append_right k _ (by omega), hk, Nat.sub_self, show n - k = (n - (k + 1)) + 1 by omega, List.replicate_succ, List.set_cons_zero, List.take_succ_eq_append_getElem (by omega), nd_lt (by omega), List.append_assoc]
  rfl
theorem set_pipes {ns : List Pipe} {k n : Nat} (hn : ns.length = n) (h : k < n) : (ns.take k ++ List.replicate (n - k) pipe0).set k (pp ns k) = ns.take (k + 1) ++ List.replicate (n - (k + 1)) pipe0 := by
  have hk : (ns.take k).length = k := by rw [List.length_take]; omega
  rw [List.set_append_right k _ (by omega), hk, Nat.sub_self, show n - k = (n - (k + 1)) + 1 by omega, List.replicate_succ, List.set_cons_zero, List.take_succ_eq_append_getElem (by omega), pp_lt (by omega), List.append_assoc]
  rfl

theorem info_node : (Try.prog.info? 92).map (fun i => (i.zero, i.size, i.bytes)) = some (some (.agg #[.string ⟨#[]⟩, .int .i64 0, .int .i64 0]), 3, 32) := by kernel_rfl
theorem info_pipe : (Try.prog.info? 76).map (fun i => (i.zero, i.size, i.bytes)) = some (some (.agg #[.int .i64 0, .int .i64 0, .int .i64 0, .int .i64 0, .int .i64 0]), 5, 40) := by kernel_rfl

theorem made_list (z : Array Value) (l : List Value) (hz : z.toList = l) (k : Nat) (hk : l.length = k) (hk0 : 0 < k) : ∀ n, (madeCells z (n * k)).toList = (List.replicate n ()).flatMap (fun _ => l) := by
  intro n
  apply List.ext_getElem?
  intro i
  have hlen : ∀ n, ((List.replicate n ()).flatMap (fun _ => l)).length = n * k := by
    intro n
    induction n with
    | zero => simp
    | succ n ih => rw [List.replicate_succ, List.flatMap_cons, List.length_append, ih, hk, Nat.succ_mul]; omega
  have hget : ∀ n i, i < n * k → ((List.replicate n ()).flatMap (fun _ => l))[i]? = l[i % k]? := by
    intro n
    induction n with
    | zero => intro i hi; omega
    | succ n ih =>
      intro i hi
      rw [List.replicate_succ, List.flatMap_cons]
      rcases Nat.lt_or_ge i k with h | h
      · rw [List.getElem?_append_left (by omega), Nat.mod_eq_of_lt h]
      · rw [List.getElem?_append_right (by omega), hk, ih _ (by rw [Nat.succ_mul] at hi; omega), Nat.mod_eq_sub_mod h]
  have hzs : z.size = k := by rw [← hk, ← hz]; simp
  rcases Nat.lt_or_ge i (n * k) with h | h
  · rw [hget n i h]
    have hm : i % k < k := Nat.mod_lt _ hk0
    simp only [madeCells, Array.toList_map, List.getElem?_map, Array.getElem?_toList, Array.getElem?_range, h, if_true, Option.map_some, hzs]
    rw [← hz, Array.getElem?_toList, Array.getElem?_eq_getElem (by omega), getElem!_pos z (i % k) (by omega)]
  · rw [List.getElem?_eq_none (by simp [madeCells]; omega), List.getElem?_eq_none (by rw [hlen]; omega)]

/-- make([]impl.Node, n) -/
theorem law_makeN (w : World) {ops : Array Oper} {rest : List Oper} {o : Oper} {a : Act} {Q : Exit → Act → World → Prop}
    (hg : o.guard = none) (l c : Operand) (hop : o.op = Op.makeSlice 24 l c) (n : Nat) (L C : Int) (hl : a.eval l = .int .i64 L) (hc : a.eval c = .int .i64 C) (hL : L = (n : Int)) (hC : C = (n : Int))
    (hn : n ≤ 1099511627776) (hK : ∀ w', OwnN 92 w' (some ⟨w.heap.size, 0, none⟩) n n (List.replicate n node0) → Below w.heap.size w w' → w.heap.size < w'.heap.size → wpList Try.prog ops Q rest (a.put o.dst (.slice (some ⟨w.heap.size, 0, none⟩) n n)) w') :
    wpList Try.prog ops Q (o :: rest) a w := by
  obtain ⟨i, hi, h1, h2, h3⟩ := info_parts info_node
  refine wpList_make_full w hg l c _ hop 0 92 i _ 3 Try.underlying24 hi h1 h2 .i64 .i64 L C n hl hc hL hC (by rw [h3]; omega) (by unfold maxLen; omega) (Nat.zero_le _) fun w' ho hgr => ?_
  have ho' : OwnN 92 w' (some ⟨w.heap.size, 0, none⟩) n n (List.replicate n node0) := by
    refine ⟨?_, fun z hz => by rw [List.eq_of_mem_replicate hz]; exact node0_ok⟩
    have e : (madeCells (Value.agg #[.string ⟨#[]⟩, .int .i64 0, .int .i64 0]).cells (n * 3)).toList = ncells (List.replicate n node0) := by
      refine (made_list _ [.string ⟨#[]⟩, .int .i64 0, .int .i64 0] rfl 3 rfl (by omega) n).trans ?_
      have : ∀ m, (List.replicate m ()).flatMap (fun _ => [Value.string ⟨#[]⟩, .int .i64 0, .int .i64 0]) = ncells (List.replicate m node0) := by
        intro m
        induction m with
        | zero => rfl
        | succ m ih => simp only [List.replicate_succ, List.flatMap_cons, ih, ncells_cons]; rfl
      exact this n
    rw [← e]; exact ho
  exact hK w' ho' ((Below.refl _ _).grown hgr (Nat.le_refl _) (by simp)) (ho'.lt _ rfl)

/-- make([]impl.Pipe, n) -/
theorem law_makeP (w : World) {ops : Array Oper} {rest : List Oper} {o : Oper} {a : Act} {Q : Exit → Act → World → Prop}
    (hg : o.guard = none) (l c : Operand) (hop : o.op = Op.makeSlice 25 l c) (n : Nat) (L C : Int) (hl : a.eval l = .int .i64 L) (hc : a.eval c = .int .i64 C) (hL : L = (n : Int)) (hC : C = (n : Int))
    (hn : n ≤ 1099511627776) (hK : ∀ w', OwnP 76 w' (some ⟨w.heap.size, 0, none⟩) n n (List.replicate n pipe0) → Below w.heap.size w w' → w.heap.size < w'.heap.size → wpList Try.prog ops Q rest (a.put o.dst (.slice (some ⟨w.heap.size, 0, none⟩) n n)) w') :
    wpList Try.prog ops Q (o :: rest) a w := by
  obtain ⟨i, hi, h1, h2, h3⟩ := info_parts info_pipe
  refine wpList_make_full w hg l c _ hop 0 76 i _ 5 Try.underlying25 hi h1 h2 .i64 .i64 L C n hl hc hL hC (by rw [h3]; omega) (by unfold maxLen; omega) (Nat.zero_le _) fun w' ho hgr => ?_
  have ho' : OwnP 76 w' (some ⟨w.heap.size, 0, none⟩) n n (List.replicate n pipe0) := by
    refine ⟨?_, fun z hz => by rw [List.eq_of_mem_replicate hz]; exact pipe0_ok⟩
    have e : (madeCells (Value.agg #[.int .i64 0, .int .i64 0, .int .i64 0, .int .i64 0, .int .i64 0]).cells (n * 5)).toList = pcells (List.replicate n pipe0) := by
      refine (made_list _ [.int .i64 0, .int .i64 0, .int .i64 0, .int .i64 0, .int .i64 0] rfl 5 rfl (by omega) n).trans ?_
      have : ∀ m, (List.replicate m ()).flatMap (fun _ => [Value.int .i64 0, .int .i64 0, .int .i64 0, .int .i64 0, .int .i64 0]) = pcells (List.replicate m pipe0) := by
        intro m
        induction m with
        | zero => rfl
        | succ m ih => simp only [List.replicate_succ, List.flatMap_cons, ih, pcells_cons]; rfl
      exact this n
    rw [← e]; exact ho
  exact hK w' ho' ((Below.refl _ _).grown hgr (Nat.le_refl _) (by simp)) (ho'.lt _ rfl)

end Go.Proofs.Ytllblmndoigdlaa

/- networks: sizes, copies, comparisons -/
namespace Go.Proofs.Ytllblmndoigdlaa
open Go.RowKit

theorem alloc3_at2 (w : World) (a b c : Obj) : (((w.alloc a).alloc b).alloc c).heap[w.heap.size + 1 + 1]? = some c := by
  have := heap_alloc_new ((w.alloc a).alloc b) c; simpa using this
theorem alloc3_at1 (w : World) (a b c : Obj) : (((w.alloc a).alloc b).alloc c).heap[w.heap.size + 1]? = some b := by
  have := heap_alloc_new (w.alloc a) b
  exact (Below.heap_alloc _ c _ (by simp)).trans (by simpa using this)
theorem alloc3_at0 (w : World) (a b c : Obj) : (((w.alloc a).alloc b).alloc c).heap[w.heap.size]? = some a :=
  (Below.heap_alloc _ c _ (by simp; omega)).trans ((Below.heap_alloc _ b _ (by simp)).trans (heap_alloc_new w a))
theorem bcell {W w1 : World} (hb : Below W.heap.size W w1) : (∀ b o, b < W.heap.size → w1.cell? ⟨b, o, none⟩ = W.cell? ⟨b, o, none⟩) ∧ (∀ b o, b < W.heap.size → w1.frozen? ⟨b, o, none⟩ = W.frozen? ⟨b, o, none⟩) :=
  ⟨fun b o h => hb.cell (p := ⟨b, o, none⟩) h, fun b o h => hb.frozen (p := ⟨b, o, none⟩) h⟩

/-- a network of the call's own -/
structure OwnNet (w : World) (A : Option Addr) (n c : Nat) (B : Option Addr) (m d : Nat) (net : Net) : Prop where
  nodes : OwnN 92 w A n c net.nodes
  pipes : OwnP 76 w B m d net.pipes
theorem OwnNet.net {w : World} {A B : Option Addr} {n c m d : Nat} {net : Net} (h : OwnNet w A n c B m d net) : NetAt w A n c B m d net := ⟨h.nodes.nodes, h.pipes.pipes⟩
theorem OwnNet.later {w w' : World} {A B : Option Addr} {n c m d : Nat} {net : Net} (h : OwnNet w A n c B m d net) (hb : Below w.heap.size w w') : OwnNet w' A n c B m d net := ⟨h.nodes.later hb, h.pipes.later hb⟩

end Go.Proofs.Ytllblmndoigdlaa

/- networks: comparisons of lists -/
namespace Go.Proofs.Ytllblmndoigdlaa
open Go.RowKit

end Go.Proofs.Ytllblmndoigdlaa
