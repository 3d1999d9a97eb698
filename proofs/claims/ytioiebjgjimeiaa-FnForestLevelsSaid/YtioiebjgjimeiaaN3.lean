/- networks: memory -/
import Derived.Test.YtioiebjgjimeiaaMark
import Derived.StillTailTactics
namespace Go.Proofs.Ytioiebjgjimeiaa
open Go.RowKit

structure Node where
  name : ByteArray
  low : Int
  high : Int

structure Pipe where
  fr : Int
  to : Int
  k : Int
  vol : Int
  lim : Int

structure Net where
  nodes : List Node
  pipes : List Pipe

def node0 : Node := ⟨⟨#[]⟩, 0, 0⟩
def pipe0 : Pipe := ⟨0, 0, 0, 0, 0⟩
def nd (ns : List Node) (j : Nat) : Node := ns.getD j node0
def pp (ps : List Pipe) (j : Nat) : Pipe := ps.getD j pipe0
theorem nd_lt {ns : List Node} {j : Nat} (h : j < ns.length) : nd ns j = ns[j] := by
  unfold nd; rw [List.getD_eq_getElem?_getD, List.getElem?_eq_getElem h]; rfl
theorem pp_lt {ns : List Pipe} {j : Nat} (h : j < ns.length) : pp ns j = ns[j] := by
  unfold pp; rw [List.getD_eq_getElem?_getD, List.getElem?_eq_getElem h]; rfl

def Node.ok (x : Node) : Prop := I64 x.low ∧ I64 x.high ∧ x.name.size ≤ 9223372036854775807
def Pipe.ok (x : Pipe) : Prop := I64 x.fr ∧ I64 x.to ∧ I64 x.k ∧ I64 x.vol ∧ I64 x.lim
theorem node0_ok : node0.ok := ⟨⟨by decide, by decide⟩, ⟨by decide, by decide⟩, by decide⟩
theorem pipe0_ok : pipe0.ok := ⟨⟨by decide, by decide⟩, ⟨by decide, by decide⟩, ⟨by decide, by decide⟩, ⟨by decide, by decide⟩, ⟨by decide, by decide⟩⟩
theorem nd_ok {ns : List Node} (h : ∀ x ∈ ns, x.ok) (j : Nat) : (nd ns j).ok := by
  rcases Nat.lt_or_ge j ns.length with hj | hj
  · rw [nd_lt hj]; exact h _ (List.getElem_mem hj)
  · unfold nd; rw [List.getD_eq_getElem?_getD, List.getElem?_eq_none hj]; exact node0_ok
theorem pp_ok {ns : List Pipe} (h : ∀ x ∈ ns, x.ok) (j : Nat) : (pp ns j).ok := by
  rcases Nat.lt_or_ge j ns.length with hj | hj
  · rw [pp_lt hj]; exact h _ (List.getElem_mem hj)
  · unfold pp; rw [List.getD_eq_getElem?_getD, List.getElem?_eq_none hj]; exact pipe0_ok

/-- the three cells of a node, the five cells of a pipe -/
def NodeAt (w : World) (b o : Nat) (x : Node) : Prop := w.cell? ⟨b, o, none⟩ = some (.string x.name) ∧ w.cell? ⟨b, o + 1, none⟩ = some (.int .i64 x.low) ∧ w.cell? ⟨b, o + 2, none⟩ = some (.int .i64 x.high)
def PipeAt (w : World) (b o : Nat) (x : Pipe) : Prop := w.cell? ⟨b, o, none⟩ = some (.int .i64 x.fr) ∧ w.cell? ⟨b, o + 1, none⟩ = some (.int .i64 x.to) ∧ w.cell? ⟨b, o + 2, none⟩ = some (.int .i64 x.k) ∧ w.cell? ⟨b, o + 3, none⟩ = some (.int .i64 x.vol) ∧ w.cell? ⟨b, o + 4, none⟩ = some (.int .i64 x.lim)
theorem NodeAt.keep {w w' : World} {b o : Nat} {x : Node} (h : NodeAt w b o x) (hk : w'.heap[b]? = w.heap[b]?) : NodeAt w' b o x :=
  ⟨(World.cell?_of_block (a := ⟨b, o, none⟩) hk).trans h.1, (World.cell?_of_block (a := ⟨b, o + 1, none⟩) hk).trans h.2.1, (World.cell?_of_block (a := ⟨b, o + 2, none⟩) hk).trans h.2.2⟩
theorem PipeAt.keep {w w' : World} {b o : Nat} {x : Pipe} (h : PipeAt w b o x) (hk : w'.heap[b]? = w.heap[b]?) : PipeAt w' b o x :=
  ⟨(World.cell?_of_block (a := ⟨b, o, none⟩) hk).trans h.1, (World.cell?_of_block (a := ⟨b, o + 1, none⟩) hk).trans h.2.1, (World.cell?_of_block (a := ⟨b, o + 2, none⟩) hk).trans h.2.2.1,
   (World.cell?_of_block (a := ⟨b, o + 3, none⟩) hk).trans h.2.2.2.1, (World.cell?_of_block (a := ⟨b, o + 4, none⟩) hk).trans h.2.2.2.2⟩

structure NodesAt (w : World) (A : Option Addr) (n c : Nat) (ns : List Node) : Prop where
  len : ns.length = n
  le : n ≤ c
  cap : c ≤ 9223372036854775807
  ok : ∀ x ∈ ns, x.ok
  cells : 0 < n → ∃ b off, A = some ⟨b, off, none⟩ ∧ b < w.heap.size ∧ ∀ j, j < n → NodeAt w b (off + j * 3) (nd ns j)
structure PipesAt (w : World) (A : Option Addr) (n c : Nat) (ns : List Pipe) : Prop where
  len : ns.length = n
  le : n ≤ c
  cap : c ≤ 9223372036854775807
  ok : ∀ x ∈ ns, x.ok
  cells : 0 < n → ∃ b off, A = some ⟨b, off, none⟩ ∧ b < w.heap.size ∧ ∀ j, j < n → PipeAt w b (off + j * 5) (pp ns j)
/-- '.agg #[.slice A n c, .slice B m d]' is the network net -/
structure NetAt (w : World) (A : Option Addr) (n c : Nat) (B : Option Addr) (m d : Nat) (net : Net) : Prop where
  nodes : NodesAt w A n c net.nodes
  pipes : PipesAt w B m d net.pipes

section
variable {w w' : World} {A B : Option Addr} {n c m d : Nat} {ns : List Node} {ps : List Pipe} {net : Net}
theorem NodesAt.nil : NodesAt w none 0 0 [] := ⟨rfl, by omega, by omega, by simp, fun h => absurd h (by omega)⟩
theorem PipesAt.nil : PipesAt w none 0 0 [] := ⟨rfl, by omega, by omega, by simp, fun h => absurd h (by omega)⟩
theorem NodesAt.later (h : NodesAt w A n c ns) (hb : Below w.heap.size w w') : NodesAt w' A n c ns :=
  ⟨h.len, h.le, h.cap, h.ok, fun hn => by
    obtain ⟨b, off, rfl, hlt, hc⟩ := h.cells hn
    exact ⟨b, off, rfl, by have := hb.size; omega, fun j hj => (hc j hj).keep (hb.block b hlt)⟩⟩
theorem PipesAt.later (h : PipesAt w A n c ps) (hb : Below w.heap.size w w') : PipesAt w' A n c ps :=
  ⟨h.len, h.le, h.cap, h.ok, fun hn => by
    obtain ⟨b, off, rfl, hlt, hc⟩ := h.cells hn
    exact ⟨b, off, rfl, by have := hb.size; omega, fun j hj => (hc j hj).keep (hb.block b hlt)⟩⟩
theorem NetAt.later (h : NetAt w A n c B m d net) (hb : Below w.heap.size w w') : NetAt w' A n c B m d net := ⟨h.nodes.later hb, h.pipes.later hb⟩
theorem NodesAt.sub (h : NodesAt w A n c ns) {k : Nat} (hk : k ≤ n) : NodesAt w A k c (ns.take k) := by
  have hl := h.len
  refine ⟨by rw [List.length_take]; omega, by have := h.le; omega, h.cap, fun x hx => h.ok x (List.mem_of_mem_take hx), fun hn => ?_⟩
  obtain ⟨b, off, rfl, hlt, hc⟩ := h.cells (by omega)
  refine ⟨b, off, rfl, hlt, fun j hj => ?_⟩
  have e : nd (ns.take k) j = nd ns j := by unfold nd; rw [List.getD_eq_getElem?_getD, List.getElem?_take_of_lt hj, List.getD_eq_getElem?_getD]
  rw [e]; exact hc j (by omega)

end

theorem bel1 (w : World) (o : Obj) : Below w.heap.size w (w.alloc o) := (Below.refl _ _).alloc (Nat.le_refl _) o
theorem bel2 (w : World) (o o' : Obj) : Below w.heap.size w ((w.alloc o).alloc o') := (bel1 w o).alloc (by simp) o'
theorem bel3 (w : World) (o o' o'' : Obj) : Below w.heap.size w (((w.alloc o).alloc o').alloc o'') := (bel2 w o o').alloc (by simp; omega) o''

/-! ### slices of nodes and pipes of the call's own -/
def ncells (ns : List Node) : List Value := ns.flatMap (fun x => [.string x.name, .int .i64 x.low, .int .i64 x.high])
def pcells (ps : List Pipe) : List Value := ps.flatMap (fun x => [.int .i64 x.fr, .int .i64 x.to, .int .i64 x.k, .int .i64 x.vol, .int .i64 x.lim])
theorem ncells_cons (x : Node) (ns : List Node) : ncells (x :: ns) = .string x.name :: .int .i64 x.low :: .int .i64 x.high :: ncells ns := rfl
theorem pcells_cons (x : Pipe) (ns : List Pipe) : pcells (x :: ns) = .int .i64 x.fr :: .int .i64 x.to :: .int .i64 x.k :: .int .i64 x.vol :: .int .i64 x.lim :: pcells ns := rfl
theorem ncells_len (ns : List Node) : (ncells ns).length = ns.length * 3 := by
  induction ns with
  | nil => rfl
  | cons x ns ih => rw [ncells_cons]; simp only [List.length_cons, ih]; omega
theorem pcells_len (ns : List Pipe) : (pcells ns).length = ns.length * 5 := by
  induction ns with
  | nil => rfl
  | cons x ns ih => rw [pcells_cons]; simp only [List.length_cons, ih]; omega
theorem ncells_at (ns : List Node) (j : Nat) (h : j < ns.length) : (ncells ns)[j * 3]? = some (.string (nd ns j).name) ∧ (ncells ns)[j * 3 + 1]? = some (.int .i64 (nd ns j).low) ∧ (ncells ns)[j * 3 + 2]? = some (.int .i64 (nd ns j).high) := by
  induction ns generalizing j with
  | nil => simp at h
  | cons x ns ih =>
    rw [ncells_cons]
    cases j with
    | zero => exact ⟨rfl, rfl, rfl⟩
    | succ j =>
      have := ih j (by simpa using h)
      have e : nd (x :: ns) (j + 1) = nd ns j := by simp [nd]
      rw [e, show (j + 1) * 3 = j * 3 + 3 by omega]
      exact this
theorem pcells_at (ns : List Pipe) (j : Nat) (h : j < ns.length) : (pcells ns)[j * 5]? = some (.int .i64 (pp ns j).fr) ∧ (pcells ns)[j * 5 + 1]? = some (.int .i64 (pp ns j).to) ∧ (pcells ns)[j * 5 + 2]? = some (.int .i64 (pp ns j).k) ∧ (pcells ns)[j * 5 + 3]? = some (.int .i64 (pp ns j).vol) ∧ (pcells ns)[j * 5 + 4]? = some (.int .i64 (pp ns j).lim) := by
  induction ns generalizing j with
  | nil => simp at h
  | cons x ns ih =>
    rw [pcells_cons]
    cases j with
    | zero => exact ⟨rfl, rfl, rfl, rfl, rfl⟩
    | succ j =>
      have := ih j (by simpa using h)
      have e : pp (x :: ns) (j + 1) = pp ns j := by simp [pp]
      rw [e, show (j + 1) * 5 = j * 5 + 5 by omega]
      exact this
theorem ncells_set (ns : List Node) (j : Nat) (x : Node) (h : j < ns.length) : (((ncells ns).set (j * 3) (.string x.name)).set (j * 3 + 1) (.int .i64 x.low)).set (j * 3 + 2) (.int .i64 x.high) = ncells (ns.set j x) := by
  induction ns generalizing j with
  | nil => simp at h
  | cons y ns ih =>
    cases j with
    | zero => rfl
    | succ j =>
      rw [List.set_cons_succ, ncells_cons, ncells_cons, ← ih j (by simpa using h), show (j + 1) * 3 = j * 3 + 3 by omega]
      rfl
theorem pcells_set (ns : List Pipe) (j : Nat) (x : Pipe) (h : j < ns.length) : (((((pcells ns).set (j * 5) (.int .i64 x.fr)).set (j * 5 + 1) (.int .i64 x.to)).set (j * 5 + 2) (.int .i64 x.k)).set (j * 5 + 3) (.int .i64 x.vol)).set (j * 5 + 4) (.int .i64 x.lim) = pcells (ns.set j x) := by
  induction ns generalizing j with
  | nil => simp at h
  | cons y ns ih =>
    cases j with
    | zero => rfl
    | succ j =>
      rw [List.set_cons_succ, pcells_cons, pcells_cons, ← ih j (by simpa using h), show (j + 1) * 5 = j * 5 + 5 by omega]
      rfl

/-- T: the type's number -/
structure OwnN (T : TypeId) (w : World) (A : Option Addr) (n c : Nat) (ns : List Node) : Prop where
  row : w.ownsRow 0 T 3 (.slice A n c) n (ncells ns)
  ok : ∀ x ∈ ns, x.ok
structure OwnP (T : TypeId) (w : World) (A : Option Addr) (n c : Nat) (ns : List Pipe) : Prop where
  row : w.ownsRow 0 T 5 (.slice A n c) n (pcells ns)
  ok : ∀ x ∈ ns, x.ok

theorem row_form {w : World} {T sz : Nat} {A : Option Addr} {n c : Nat} {xs : List Value} (h : w.ownsRow 0 T sz (.slice A n c) n xs) : (A = none ∧ n = 0 ∧ c = 0) ∨ ∃ g, A = some ⟨g, 0, none⟩ ∧ g < w.heap.size ∧ n ≤ c ∧ c ≤ 9223372036854775807 := by
  rcases h.2 with ⟨h1, h2⟩ | ⟨g, cap, cur, h1, _, hg, h3, h4, _⟩
  · injection h1 with a b c; exact .inl ⟨a, h2, c⟩
  · injection h1 with a b c; subst c
    exact .inr ⟨g, a, (Array.getElem?_eq_some_iff.1 hg).1, h3, h4⟩
theorem row_lt {w : World} {T sz : Nat} {A : Option Addr} {n c : Nat} {xs : List Value} (h : w.ownsRow 0 T sz (.slice A n c) n xs) : ∀ a, A = some a → a.block < w.heap.size := by
  intro a ha
  rcases row_form h with ⟨h1, _⟩ | ⟨g, h1, h2, _⟩
  · rw [h1] at ha; cases ha
  · rw [h1] at ha; injection ha with ha; subst ha; exact h2
theorem row_keep {w w' : World} {T sz : Nat} {A : Option Addr} {n c : Nat} {xs : List Value} (h : w.ownsRow 0 T sz (.slice A n c) n xs) (hk : ∀ a, A = some a → w'.heap[a.block]? = w.heap[a.block]?) : w'.ownsRow 0 T sz (.slice A n c) n xs := by
  refine ⟨h.1, ?_⟩
  rcases h.2 with hn | ⟨g, cap, cur, h1, hb, hgg, rest⟩
  · exact .inl hn
  · refine .inr ⟨g, cap, cur, h1, hb, ?_, rest⟩
    injection h1 with a _ _
    have := hk _ a
    rw [← hgg]; exact this

section
variable {w w' : World} {T : TypeId} {A : Option Addr} {n c : Nat} {ns : List Node} {ps : List Pipe}
theorem OwnN.len (h : OwnN T w A n c ns) : ns.length = n := by have := h.row.1; rw [ncells_len] at this; omega
theorem OwnP.len (h : OwnP T w A n c ps) : ps.length = n := by have := h.row.1; rw [pcells_len] at this; omega
theorem OwnN.lt (h : OwnN T w A n c ns) : ∀ a, A = some a → a.block < w.heap.size := row_lt h.row
theorem OwnP.lt (h : OwnP T w A n c ps) : ∀ a, A = some a → a.block < w.heap.size := row_lt h.row
theorem OwnN.keep (h : OwnN T w A n c ns) (hk : ∀ a, A = some a → w'.heap[a.block]? = w.heap[a.block]?) : OwnN T w' A n c ns := ⟨row_keep h.row hk, h.ok⟩
theorem OwnP.keep (h : OwnP T w A n c ps) (hk : ∀ a, A = some a → w'.heap[a.block]? = w.heap[a.block]?) : OwnP T w' A n c ps := ⟨row_keep h.row hk, h.ok⟩
theorem OwnN.later (h : OwnN T w A n c ns) (hb : Below w.heap.size w w') : OwnN T w' A n c ns := h.keep fun a ha => hb.block _ (h.lt a ha)
theorem OwnP.later (h : OwnP T w A n c ps) (hb : Below w.heap.size w w') : OwnP T w' A n c ps := h.keep fun a ha => hb.block _ (h.lt a ha)
theorem OwnN.pos (h : OwnN T w A n c ns) (hn : 0 < n) : ∃ g, A = some ⟨g, 0, none⟩ ∧ g < w.heap.size := by
  rcases row_form h.row with ⟨_, h0, _⟩ | ⟨g, h1, h2, _⟩
  · omega
  · exact ⟨g, h1, h2⟩
theorem OwnP.pos (h : OwnP T w A n c ps) (hn : 0 < n) : ∃ g, A = some ⟨g, 0, none⟩ ∧ g < w.heap.size := by
  rcases row_form h.row with ⟨_, h0, _⟩ | ⟨g, h1, h2, _⟩
  · omega
  · exact ⟨g, h1, h2⟩
theorem OwnN.cell {g : Nat} (h : OwnN T w (some ⟨g, 0, none⟩) n c ns) {j : Nat} (hj : j < n) : NodeAt w g (j * 3) (nd ns j) := by
  have hl := h.len
  obtain ⟨a, b, e⟩ := ncells_at ns j (by omega)
  exact ⟨by rw [h.row.cellAt _ (by omega), a], by rw [h.row.cellAt _ (by omega), b], by rw [h.row.cellAt _ (by omega), e]⟩
theorem OwnP.cell {g : Nat} (h : OwnP T w (some ⟨g, 0, none⟩) n c ps) {j : Nat} (hj : j < n) : PipeAt w g (j * 5) (pp ps j) := by
  have hl := h.len
  obtain ⟨a, b, e, f, k⟩ := pcells_at ps j (by omega)
  exact ⟨by rw [h.row.cellAt _ (by omega), a], by rw [h.row.cellAt _ (by omega), b], by rw [h.row.cellAt _ (by omega), e], by rw [h.row.cellAt _ (by omega), f], by rw [h.row.cellAt _ (by omega), k]⟩
theorem OwnN.nodes (h : OwnN T w A n c ns) : NodesAt w A n c ns := by
  rcases row_form h.row with ⟨rfl, rfl, rfl⟩ | ⟨g, rfl, hg, hn, hc⟩
  · have := h.len
    cases ns with
    | nil => exact NodesAt.nil
    | cons => simp at this
  · exact ⟨h.len, hn, hc, h.ok, fun _ => ⟨g, 0, rfl, hg, fun j hj => by rw [Nat.zero_add]; exact h.cell hj⟩⟩
theorem OwnP.pipes (h : OwnP T w A n c ps) : PipesAt w A n c ps := by
  rcases row_form h.row with ⟨rfl, rfl, rfl⟩ | ⟨g, rfl, hg, hn, hc⟩
  · have := h.len
    cases ps with
    | nil => exact PipesAt.nil
    | cons => simp at this
  · exact ⟨h.len, hn, hc, h.ok, fun _ => ⟨g, 0, rfl, hg, fun j hj => by rw [Nat.zero_add]; exact h.cell hj⟩⟩
theorem OwnN.store {g : Nat} (h : OwnN T w (some ⟨g, 0, none⟩) n c ns) {j : Nat} (hj : j < n) {x : Node} (hx : x.ok) :
    OwnN T (((w.setCell ⟨g, j * 3, none⟩ (.string x.name)).setCell ⟨g, j * 3 + 1, none⟩ (.int .i64 x.low)).setCell ⟨g, j * 3 + 2, none⟩ (.int .i64 x.high)) (some ⟨g, 0, none⟩) n c (ns.set j x) := by
  have hl := h.len
  refine ⟨?_, fun y hy => ?_⟩
  · rw [← ncells_set ns j x (by omega)]
    exact (((h.row.stored (j * 3) _).1.stored (j * 3 + 1) _).1.stored (j * 3 + 2) _).1
  · rcases List.mem_or_eq_of_mem_set hy with hy | rfl
    · exact h.ok y hy
    · exact hx
theorem OwnP.store {g : Nat} (h : OwnP T w (some ⟨g, 0, none⟩) n c ps) {j : Nat} (hj : j < n) {x : Pipe} (hx : x.ok) :
    OwnP T (((((w.setCell ⟨g, j * 5, none⟩ (.int .i64 x.fr)).setCell ⟨g, j * 5 + 1, none⟩ (.int .i64 x.to)).setCell ⟨g, j * 5 + 2, none⟩ (.int .i64 x.k)).setCell ⟨g, j * 5 + 3, none⟩ (.int .i64 x.vol)).setCell ⟨g, j * 5 + 4, none⟩ (.int .i64 x.lim)) (some ⟨g, 0, none⟩) n c (ps.set j x) := by
  have hl := h.len
  refine ⟨?_, fun y hy => ?_⟩
  · rw [← pcells_set ps j x (by omega)]
    exact (((((h.row.stored (j * 5) _).1.stored (j * 5 + 1) _).1.stored (j * 5 + 2) _).1.stored (j * 5 + 3) _).1.stored (j * 5 + 4) _).1
  · rcases List.mem_or_eq_of_mem_set hy with hy | rfl
    · exact h.ok y hy
    · exact hx

end

theorem set_nodes {ns : List Node} {k n : Nat} (hn : ns.length = n) (h : k < n) : (ns.take k ++ List.replicate (n - k) node0).set k (nd ns k) = ns.take (k + 1) ++ List.replicate (n - (k + 1)) node0 := by
  have hk : (ns.take k).length = k := by rw [List.length_take]; omega
  rw [List.set_append_right k _ (by omega), hk, Nat.sub_self, show n - k = (n - (k + 1)) + 1 by omega, List.replicate_succ, List.set_cons_zero, List.take_succ_eq_append_getElem (by omega), nd_lt (by omega), List.append_assoc]
  rfl
theorem set_pipes {ns : List Pipe} {k n : Nat} (hn : ns.length = n) (h : k < n) : (ns.take k ++ List.replicate (n - k) pipe0).set k (pp ns k) = ns.take (k + 1) ++ List.replicate (n - (k + 1)) pipe0 := by
  have hk : (ns.take k).length = k := by rw [List.length_take]; omega
  rw [List.set_append_right k _ (by omega), hk, Nat.sub_self, show n - k = (n - (k + 1)) + 1 by omega, List.replicate_succ, List.set_cons_zero, List.take_succ_eq_append_getElem (by omega), pp_lt (by omega), List.append_assoc]
  rfl

theorem info_node : (Try.prog.info? 48).map (fun i => (i.zero, i.size, i.bytes)) = some (some (.agg #[.string ⟨#[]⟩, .int .i64 0, .int .i64 0]), 3, 32) := by kernel_rfl
theorem info_pipe : (Try.prog.info? 64).map (fun i => (i.zero, i.size, i.bytes)) = some (some (.agg #[.int .i64 0, .int .i64 0, .int .i64 0, .int .i64 0, .int .i64 0]), 5, 40) := by kernel_rfl

theorem made_list (z : Array Value) (l : List Value) (hz : z.toList = l) (k : Nat) (hk : l.length = k) (hk0 : 0 < k) : ∀ n, (madeCells z (n * k)).toList = (List.replicate n ()).flatMap (fun _ => l) := by
  intro n
  apply List.ext_getElem?
  intro i
  have hlen : ∀ n, ((List.replicate n ()).flatMap (fun _ => l)).length = n * k := by
    intro n
    induction n with
    | zero => simp
    | succ n ih => rw [List.replicate_succ, List.flatMap_cons, List.length_append, ih, hk, Nat.succ_mul]; omega
  have hget : ∀ n i, i < n * k → ((List.replicate n ()).flatMap (fun _ => l))[i]? = l[i % k]? := by
    intro n
    induction n with
    | zero => intro i hi; omega
    | succ n ih =>
      intro i hi
      rw [List.replicate_succ, List.flatMap_cons]
      rcases Nat.lt_or_ge i k with h | h
      · rw [List.getElem?_append_left (by omega), Nat.mod_eq_of_lt h]
      · rw [List.getElem?_append_right (by omega), hk, ih _ (by rw [Nat.succ_mul] at hi; omega), Nat.mod_eq_sub_mod h]
  have hzs : z.size = k := by rw [← hk, ← hz]; simp
  rcases Nat.lt_or_ge i (n * k) with h | h
  · rw [hget n i h]
    have hm : i % k < k := Nat.mod_lt _ hk0
    simp only [madeCells, Array.toList_map, List.getElem?_map, Array.getElem?_toList, Array.getElem?_range, h, if_true, Option.map_some, hzs]
    rw [← hz, Array.getElem?_toList, Array.getElem?_eq_getElem (by omega), getElem!_pos z (i % k) (by omega)]
  · rw [List.getElem?_eq_none (by simp [madeCells]; omega), List.getElem?_eq_none (by rw [hlen]; omega)]

/-- make([]impl.Node, n) -/
theorem law_makeN (w : World) {ops : Array Oper} {rest : List Oper} {o : Oper} {a : Act} {Q : Exit → Act → World → Prop}
    (hg : o.guard = none) (l c : Operand) (hop : o.op = Op.makeSlice 24 l c) (n : Nat) (L C : Int) (hl : a.eval l = .int .i64 L) (hc : a.eval c = .int .i64 C) (hL : L = (n : Int)) (hC : C = (n : Int))
    (hn : n ≤ 1099511627776) (hK : ∀ w', OwnN 48 w' (some ⟨w.heap.size, 0, none⟩) n n (List.replicate n node0) → Below w.heap.size w w' → w.heap.size < w'.heap.size → wpList Try.prog ops Q rest (a.put o.dst (.slice (some ⟨w.heap.size, 0, none⟩) n n)) w') :
    wpList Try.prog ops Q (o :: rest) a w := by
  obtain ⟨i, hi, h1, h2, h3⟩ := info_parts info_node
  refine wpList_make_full w hg l c _ hop 0 48 i _ 3 Try.underlying24 hi h1 h2 .i64 .i64 L C n hl hc hL hC (by rw [h3]; omega) (by unfold maxLen; omega) (Nat.zero_le _) fun w' ho hgr => ?_
  have ho' : OwnN 48 w' (some ⟨w.heap.size, 0, none⟩) n n (List.replicate n node0) := by
    refine ⟨?_, fun z hz => by rw [List.eq_of_mem_replicate hz]; exact node0_ok⟩
    have e : (madeCells (Value.agg #[.string ⟨#[]⟩, .int .i64 0, .int .i64 0]).cells (n * 3)).toList = ncells (List.replicate n node0) := by
      refine (made_list _ [.string ⟨#[]⟩, .int .i64 0, .int .i64 0] rfl 3 rfl (by omega) n).trans ?_
      have : ∀ m, (List.replicate m ()).flatMap (fun _ => [Value.string ⟨#[]⟩, .int .i64 0, .int .i64 0]) = ncells (List.replicate m node0) := by
        intro m
        induction m with
        | zero => rfl
        | succ m ih => simp only [List.replicate_succ, List.flatMap_cons, ih, ncells_cons]; rfl
      exact this n
    rw [← e]; exact ho
  exact hK w' ho' ((Below.refl _ _).grown hgr (Nat.le_refl _) (by simp)) (ho'.lt _ rfl)

/-- make([]impl.Pipe, n) -/
theorem law_makeP (w : World) {ops : Array Oper} {rest : List Oper} {o : Oper} {a : Act} {Q : Exit → Act → World → Prop}
    (hg : o.guard = none) (l c : Operand) (hop : o.op = Op.makeSlice 25 l c) (n : Nat) (L C : Int) (hl : a.eval l = .int .i64 L) (hc : a.eval c = .int .i64 C) (hL : L = (n : Int)) (hC : C = (n : Int))
    (hn : n ≤ 1099511627776) (hK : ∀ w', OwnP 64 w' (some ⟨w.heap.size, 0, none⟩) n n (List.replicate n pipe0) → Below w.heap.size w w' → w.heap.size < w'.heap.size → wpList Try.prog ops Q rest (a.put o.dst (.slice (some ⟨w.heap.size, 0, none⟩) n n)) w') :
    wpList Try.prog ops Q (o :: rest) a w := by
  obtain ⟨i, hi, h1, h2, h3⟩ := info_parts info_pipe
  refine wpList_make_full w hg l c _ hop 0 64 i _ 5 Try.underlying25 hi h1 h2 .i64 .i64 L C n hl hc hL hC (by rw [h3]; omega) (by unfold maxLen; omega) (Nat.zero_le _) fun w' ho hgr => ?_
  have ho' : OwnP 64 w' (some ⟨w.heap.size, 0, none⟩) n n (List.replicate n pipe0) := by
    refine ⟨?_, fun z hz => by rw [List.eq_of_mem_replicate hz]; exact pipe0_ok⟩
    have e : (madeCells (Value.agg #[.int .i64 0, .int .i64 0, .int .i64 0, .int .i64 0, .int .i64 0]).cells (n * 5)).toList = pcells (List.replicate n pipe0) := by
      refine (made_list _ [.int .i64 0, .int .i64 0, .int .i64 0, .int .i64 0, .int .i64 0] rfl 5 rfl (by omega) n).trans ?_
      have : ∀ m, (List.replicate m ()).flatMap (fun _ => [Value.int .i64 0, .int .i64 0, .int .i64 0, .int .i64 0, .int .i64 0]) = pcells (List.replicate m pipe0) := by
        intro m
        induction m with
        | zero => rfl
        | succ m ih => simp only [List.replicate_succ, List.flatMap_cons, ih, pcells_cons]; rfl
      exact this n
    rw [← e]; exact ho
  exact hK w' ho' ((Below.refl _ _).grown hgr (Nat.le_refl _) (by simp)) (ho'.lt _ rfl)

end Go.Proofs.Ytioiebjgjimeiaa

/- networks: sizes, copies, comparisons -/
namespace Go.Proofs.Ytioiebjgjimeiaa
open Go.RowKit

theorem alloc3_at2 (w : World) (a b c : Obj) : (((w.alloc a).alloc b).alloc c).heap[w.heap.size + 1 + 1]? = some c := by
  have := heap_alloc_new ((w.alloc a).alloc b) c; simpa using this
theorem alloc3_at1 (w : World) (a b c : Obj) : (((w.alloc a).alloc b).alloc c).heap[w.heap.size + 1]? = some b := by
  have := heap_alloc_new (w.alloc a) b
  exact (Below.heap_alloc _ c _ (by simp)).trans (by simpa using this)
theorem alloc3_at0 (w : World) (a b c : Obj) : (((w.alloc a).alloc b).alloc c).heap[w.heap.size]? = some a :=
  (Below.heap_alloc _ c _ (by simp; omega)).trans ((Below.heap_alloc _ b _ (by simp)).trans (heap_alloc_new w a))
theorem bcell {W w1 : World} (hb : Below W.heap.size W w1) : (∀ b o, b < W.heap.size → w1.cell? ⟨b, o, none⟩ = W.cell? ⟨b, o, none⟩) ∧ (∀ b o, b < W.heap.size → w1.frozen? ⟨b, o, none⟩ = W.frozen? ⟨b, o, none⟩) :=
  ⟨fun b o h => hb.cell (p := ⟨b, o, none⟩) h, fun b o h => hb.frozen (p := ⟨b, o, none⟩) h⟩

set_option maxHeartbeats 400000 in
theorem szNode_any (s : ByteArray) (l h left : Int) (w : World) (hs : s.size ≤ 9223372036854775807) (h0 : 0 ≤ left) (h1 : left ≤ 1048576) :
    Calls Try.prog 163 #[.agg #[.string s, .int .i64 l, .int .i64 h], .int .i64 left] w fun e w' => ∃ r : Int, e = .returned (.int .i64 r) ∧ r ≤ left ∧ -1 ≤ r ∧ Below w.heap.size w w' := by
  go_enter Try.func163, Try.ntmps163
  go_wp2
  all_goals go_ret
  · exact ⟨_, rfl, by omega, by omega, bel1 _ _⟩
  · exact ⟨_, rfl, by omega, by omega, bel1 _ _⟩

set_option maxHeartbeats 1000000 in
theorem szNodeS_any (A : Option Addr) (n c : Nat) (ns : List Node) (left : Int) (w : World) (h : NodesAt w A n c ns) (h0 : 0 ≤ left) (h1 : left ≤ 1048576) :
    Calls Try.prog 99 #[.slice A n c, .int .i64 left] w fun e w' => ∃ r : Int, e = .returned (.int .i64 r) ∧ r ≤ left ∧ -1 ≤ r ∧ (0 ≤ r → n ≤ 1048576) ∧ Below w.heap.size w w' := by
  have hle := h.le
  have hcap := h.cap
  by_cases hn : left - n < 0
  · go_enter Try.func99, Try.ntmps99
    go_wp2_with fail
    go_ret
    exact ⟨_, rfl, by omega, by omega, fun h => absurd h (by omega), Below.refl _ _⟩
  · go_enter Try.func99, Try.ntmps99
    go_wp2_with fail
    go_loopw [1, 5] (fun q i wr => ∃ (j : Nat) (r : Int), j ≤ n ∧ i = .int .i64 j ∧ q = .int .i64 r ∧ r ≤ left ∧ 0 ≤ r ∧ Below w.heap.size w wr) (fun _ i _ => n - (intOf i).toNat)
    case atStart => exact ⟨0, left - n, by omega, rfl, rfl, by omega, by omega, Below.refl _ _⟩
    case round =>
      obtain ⟨j, r, hj, rfl, rfl, hr, hr0, hb⟩ := hrel
      by_cases hlt : j < n
      · obtain ⟨b, off, rfl, hbl, hc⟩ := (h.later hb).cells (by omega)
        obtain ⟨c0, c1, c2⟩ := hc j hlt
        have hsz := (nd_ok h.ok j).2.2
        clear hc
        go_wp2_with fail
        refine (szNode_any _ _ _ _ _ hsz (by omega) (by omega)).mono ?_
        rintro e w2 ⟨q, rfl, q0, q1, b2⟩
        by_cases hq : q < 0
        · go_wp2_with fail
          go_ret
          exact ⟨_, rfl, by omega, by omega, fun h => absurd h (by omega), below_step hb b2⟩
        · go_wp2_with fail
          go_roundw
          case rel => exact ⟨j + 1, q, by omega, by go_num, rfl, by omega, by omega, below_step hb b2⟩
          case measure => simp [intOf]; omega
      · go_wp2_with fail
        go_ret
        exact ⟨_, rfl, by omega, by omega, fun _ => by omega, hb⟩

set_option maxHeartbeats 400000 in
theorem szPipeS_any (A : Option Addr) (n c : Nat) (left : Int) (w : World) (hle : n ≤ c) (hcap : c ≤ 9223372036854775807) (h0 : 0 ≤ left) (h1 : left ≤ 1048576) :
    Calls Try.prog 100 #[.slice A n c, .int .i64 left] w fun e w' => ∃ r : Int, e = .returned (.int .i64 r) ∧ r ≤ left ∧ -1 ≤ r ∧ (0 ≤ r → n ≤ 1048576) ∧ w = w' := by
  by_cases hn : left - n < 0
  · go_enter Try.func100, Try.ntmps100
    go_wp2_with fail
    go_ret
    exact ⟨_, rfl, by omega, by omega, fun h => absurd h (by omega), rfl⟩
  · go_enter Try.func100, Try.ntmps100
    go_wp2_with fail
    go_ret
    exact ⟨_, rfl, by omega, by omega, fun _ => by omega, rfl⟩

set_option maxHeartbeats 1000000 in
theorem szNetwork_any (A B : Option Addr) (n c m d : Nat) (net : Net) (w : World) (h : NetAt w A n c B m d net) :
    Calls Try.prog 37 #[.agg #[.slice A n c, .slice B m d], .int .i64 1048576] w fun e w' => ∃ r : Int, e = .returned (.int .i64 r) ∧ (0 ≤ r → n ≤ 1048576 ∧ m ≤ 1048576) ∧ Below w.heap.size w w' := by
  go_enter Try.func37, Try.ntmps37
  go_wp2_with fail
  refine (szNodeS_any _ _ _ _ _ _ (h.nodes.later (bel1 _ _)) (by omega) (by omega)).mono ?_
  rintro e w2 ⟨q, rfl, q0, q1, q2, b2⟩
  have t2 := below_step (bel1 w _) b2
  have hc1 := cell_blk (heap_alloc_new w (.cells #[.slice A n c, .slice B m d] 52)) 1
  have hc1' := (b2.cell (p := ⟨w.heap.size, 1, none⟩) (by simp)).trans hc1
  simp at hc1'
  have hp1 := h.pipes.le
  have hp2 := h.pipes.cap
  by_cases hq : q < 0
  · go_wp2_with fail
    go_ret
    exact ⟨_, rfl, fun h => absurd h (by omega), t2⟩
  · have hn' := q2 (by omega)
    clear hc1 q2
    go_wp2_with fail
    refine (szPipeS_any _ _ _ _ _ hp1 hp2 (by omega) (by omega)).mono ?_
    rintro e w' ⟨r, rfl, r0, r1, r2, rfl⟩
    by_cases hr : r < 0
    · clear r2
      go_wp2_with fail
      go_ret
      exact ⟨_, rfl, fun h => absurd h (by omega), t2⟩
    · have hm' := r2 (by omega)
      clear r2
      go_wp2_with fail
      go_ret
      exact ⟨_, rfl, fun _ => ⟨hn', hm'⟩, t2⟩

set_option maxHeartbeats 400000 in
theorem toNode_any (s : ByteArray) (l h : Int) (w : World) :
    Calls Try.prog 167 #[.agg #[.string s, .int .i64 l, .int .i64 h]] w fun e w' => e = .returned (.agg #[.string s, .int .i64 l, .int .i64 h]) ∧ Below w.heap.size w w' := by
  go_enter Try.func167, Try.ntmps167
  go_wp2
  exact bodyPost_ret (v := .agg #[.string s, .int .i64 l, .int .i64 h]) (by simp [results, Try.results167, go_sem]) rfl ⟨rfl, bel3 _ _ _ _⟩

set_option maxHeartbeats 400000 in
theorem toPipe_any (a b k v l : Int) (w : World) :
    Calls Try.prog 168 #[.agg #[.int .i64 a, .int .i64 b, .int .i64 k, .int .i64 v, .int .i64 l]] w fun e w' => e = .returned (.agg #[.int .i64 a, .int .i64 b, .int .i64 k, .int .i64 v, .int .i64 l]) ∧ Below w.heap.size w w' := by
  go_enter Try.func168, Try.ntmps168
  go_wp2
  exact bodyPost_ret (v := .agg #[.int .i64 a, .int .i64 b, .int .i64 k, .int .i64 v, .int .i64 l]) (by simp [results, Try.results168, go_sem]) rfl ⟨rfl, bel3 _ _ _ _⟩

set_option maxHeartbeats 1000000 in
theorem toNodeS_any (A : Option Addr) (n c : Nat) (ns : List Node) (w : World) (h : NodesAt w A n c ns) (hn : n ≤ 1048576) :
    Calls Try.prog 104 #[.slice A n c] w fun e w' => ∃ A' c', e = .returned (.slice A' n c') ∧ OwnN 48 w' A' n c' ns ∧ Fresh w.heap.size A' ∧ Below w.heap.size w w' := by
  have hlen := Lib.hid h.len
  go_enter Try.func104, Try.ntmps104
  go_wp2_with (at_make; refine law_makeN _ rfl _ _ rfl n _ _ rfl rfl rfl rfl (by omega) ?_; intro w1 ho1 hb1 hs1)
  go_loopw [4] (fun i wr => ∃ k : Nat, k ≤ n ∧ i = .int .i64 k ∧ OwnN 48 wr (some ⟨w.heap.size, 0, none⟩) n n (ns.take k ++ List.replicate (n - k) node0) ∧ Below w.heap.size w wr) (fun i _ => n - (intOf i).toNat)
  case atStart => exact ⟨0, by omega, rfl, by simpa using ho1, hb1⟩
  case round =>
    obtain ⟨k, hk, rfl, ho, hb⟩ := hrel
    by_cases hlt : k < n
    · obtain ⟨b, off, rfl, hbl, hc⟩ := (h.later hb).cells (by omega)
      obtain ⟨c0, c1, c2⟩ := hc k hlt
      have hok := nd_ok h.ok k
      clear hc
      go_wp2_with fail
      refine (toNode_any _ _ _ _).mono ?_
      rintro e w2 ⟨rfl, b2⟩
      have ho2 := ho.later b2
      obtain ⟨d0, d1, d2⟩ := ho2.cell hlt
      have f0 := ho2.row.frozenAt (k * 3)
      have f1 := ho2.row.frozenAt (k * 3 + 1)
      have f2 := ho2.row.frozenAt (k * 3 + 2)
      have hst := ho2.store hlt hok
      rw [set_nodes hlen.out hlt] at hst
      have HST := Lib.hid hst
      clear hst c0 c1 c2
      go_wp2_with fail
      go_roundw
      case rel => exact ⟨k + 1, by omega, by go_num, HST.out, (((below_step hb b2).setCell (p := ⟨w.heap.size, k * 3, none⟩) (Nat.le_refl _) _).setCell (p := ⟨w.heap.size, k * 3 + 1, none⟩) (Nat.le_refl _) _).setCell (p := ⟨w.heap.size, k * 3 + 2, none⟩) (Nat.le_refl _) _⟩
      case measure => simp [intOf]; omega
    · go_wp2_with fail
      go_ret
      have hkn : k = n := by omega
      subst hkn
      refine ⟨_, _, rfl, ?_, fun a ha => ?_, hb⟩
      · have := ho; rw [List.take_of_length_le (by rw [hlen.out]; omega), Nat.sub_self] at this; simpa using this
      · injection ha with ha; subst ha; exact Nat.le_refl _

set_option maxHeartbeats 1000000 in
theorem toPipeS_any (A : Option Addr) (n c : Nat) (ns : List Pipe) (w : World) (h : PipesAt w A n c ns) (hn : n ≤ 1048576) :
    Calls Try.prog 105 #[.slice A n c] w fun e w' => ∃ A' c', e = .returned (.slice A' n c') ∧ OwnP 64 w' A' n c' ns ∧ Fresh w.heap.size A' ∧ Below w.heap.size w w' := by
  have hlen := Lib.hid h.len
  go_enter Try.func105, Try.ntmps105
  go_wp2_with (at_make; refine law_makeP _ rfl _ _ rfl n _ _ rfl rfl rfl rfl (by omega) ?_; intro w1 ho1 hb1 hs1)
  go_loopw [4] (fun i wr => ∃ k : Nat, k ≤ n ∧ i = .int .i64 k ∧ OwnP 64 wr (some ⟨w.heap.size, 0, none⟩) n n (ns.take k ++ List.replicate (n - k) pipe0) ∧ Below w.heap.size w wr) (fun i _ => n - (intOf i).toNat)
  case atStart => exact ⟨0, by omega, rfl, by simpa using ho1, hb1⟩
  case round =>
    obtain ⟨k, hk, rfl, ho, hb⟩ := hrel
    by_cases hlt : k < n
    · obtain ⟨b, off, rfl, hbl, hc⟩ := (h.later hb).cells (by omega)
      obtain ⟨c0, c1, c2, c3, c4⟩ := hc k hlt
      have hok := pp_ok h.ok k
      clear hc
      go_wp2_with fail
      refine (toPipe_any _ _ _ _ _ _).mono ?_
      rintro e w2 ⟨rfl, b2⟩
      have ho2 := ho.later b2
      obtain ⟨d0, d1, d2, d3, d4⟩ := ho2.cell hlt
      have f0 := ho2.row.frozenAt (k * 5)
      have f1 := ho2.row.frozenAt (k * 5 + 1)
      have f2 := ho2.row.frozenAt (k * 5 + 2)
      have f3 := ho2.row.frozenAt (k * 5 + 3)
      have f4 := ho2.row.frozenAt (k * 5 + 4)
      have hst := ho2.store hlt hok
      rw [set_pipes hlen.out hlt] at hst
      have HST := Lib.hid hst
      clear hst c0 c1 c2 c3 c4
      go_wp2_with fail
      go_roundw
      case rel => exact ⟨k + 1, by omega, by go_num, HST.out, (((((below_step hb b2).setCell (p := ⟨w.heap.size, k * 5, none⟩) (Nat.le_refl _) _).setCell (p := ⟨w.heap.size, k * 5 + 1, none⟩) (Nat.le_refl _) _).setCell (p := ⟨w.heap.size, k * 5 + 2, none⟩) (Nat.le_refl _) _).setCell (p := ⟨w.heap.size, k * 5 + 3, none⟩) (Nat.le_refl _) _).setCell (p := ⟨w.heap.size, k * 5 + 4, none⟩) (Nat.le_refl _) _⟩
      case measure => simp [intOf]; omega
    · go_wp2_with fail
      go_ret
      have hkn : k = n := by omega
      subst hkn
      refine ⟨_, _, rfl, ?_, fun a ha => ?_, hb⟩
      · have := ho; rw [List.take_of_length_le (by rw [hlen.out]; omega), Nat.sub_self] at this; simpa using this
      · injection ha with ha; subst ha; exact Nat.le_refl _

/-- a network of the call's own -/
structure OwnNet (w : World) (A : Option Addr) (n c : Nat) (B : Option Addr) (m d : Nat) (net : Net) : Prop where
  nodes : OwnN 48 w A n c net.nodes
  pipes : OwnP 64 w B m d net.pipes
theorem OwnNet.net {w : World} {A B : Option Addr} {n c m d : Nat} {net : Net} (h : OwnNet w A n c B m d net) : NetAt w A n c B m d net := ⟨h.nodes.nodes, h.pipes.pipes⟩
theorem OwnNet.later {w w' : World} {A B : Option Addr} {n c m d : Nat} {net : Net} (h : OwnNet w A n c B m d net) (hb : Below w.heap.size w w') : OwnNet w' A n c B m d net := ⟨h.nodes.later hb, h.pipes.later hb⟩

set_option maxHeartbeats 1000000 in
theorem toNetwork_any (A B : Option Addr) (n c m d : Nat) (net : Net) (w : World) (h : NetAt w A n c B m d net) (hn : n ≤ 1048576) (hm : m ≤ 1048576) :
    Calls Try.prog 39 #[.agg #[.slice A n c, .slice B m d]] w fun e w' => ∃ A' c' B' d', e = .returned (.agg #[.slice A' n c', .slice B' m d']) ∧ OwnNet w' A' n c' B' m d' net ∧ Fresh w.heap.size A' ∧ Fresh w.heap.size B' ∧ Below w.heap.size w w' := by
  go_enter Try.func39, Try.ntmps39
  go_wp2_with fail
  refine (toNodeS_any _ _ _ _ _ (h.nodes.later (bel3 _ _ _ _)) hn).mono ?_
  rintro e w1 ⟨A1, c1, rfl, o1, f1, b1⟩
  have hz1 := b1.size
  simp at hz1
  have g0 := (b1.block w.heap.size (by simp; omega)).trans (alloc3_at0 _ _ _ _)
  have g1 := (b1.block (w.heap.size + 1) (by simp)).trans (alloc3_at1 _ _ _ _)
  have g2 := (b1.block (w.heap.size + 1 + 1) (by simp)).trans (alloc3_at2 _ _ _ _)
  have t1 := below_step (bel3 w _ _ _) b1
  have f1' : Fresh (w.heap.size + 1 + 1 + 1) A1 := by simpa using f1
  have o1' : OwnN 48 (w1.setCell ⟨w.heap.size + 1 + 1, 0, none⟩ (.slice A1 n c1)) A1 n c1 net.nodes :=
    o1.keep fun a ha => Below.heap_setCell w1 _ _ _ (by have := f1' a ha; show a.block ≠ w.heap.size + 1 + 1; omega)
  have t1' : Below w.heap.size w (w1.setCell ⟨w.heap.size + 1 + 1, 0, none⟩ (.slice A1 n c1)) := t1.setCell (by show w.heap.size ≤ w.heap.size + 1 + 1; omega) _
  have k1 := cell_blk g0 1
  have k2 := cell_blk g2 0
  have j2 := frozen_blk g2 0
  simp at k1 k2
  have G1 := Lib.hid g1
  have G2 := Lib.hid g2
  clear f1 b1 o1 t1 g0 g1 g2
  go_wp2_with fail
  refine (toPipeS_any _ _ _ _ _ (h.pipes.later t1') hm).mono ?_
  rintro e w2 ⟨B2, d2, rfl, o2, f2, b2⟩
  have t2 := below_step t1' b2
  have f2' : Fresh (w.heap.size + 1 + 1 + 1) B2 := fresh_up f2 (by simp [World.setCell]; omega)
  have o12 := o1'.later b2
  have hz2 := b2.size
  simp [World.setCell] at hz2
  have g2' := (b2.block (w.heap.size + 1 + 1) (by simp [World.setCell]; omega)).trans (heap_set G2.out 0 (.slice A1 n c1))
  have g1' := (b2.block (w.heap.size + 1) (by simp [World.setCell]; omega)).trans ((Below.heap_setCell w1 ⟨w.heap.size + 1 + 1, 0, none⟩ (.slice A1 n c1) (w.heap.size + 1) (by show w.heap.size + 1 ≠ w.heap.size + 1 + 1; omega)).trans G1.out)
  have k20 := cell_blk g2' 0
  have k21 := cell_blk g2' 1
  have j21 := frozen_blk g2' 1
  have k10 := cell_blk g1' 0
  have k11 := cell_blk g1' 1
  have j10 := frozen_blk g1' 0
  have j11 := frozen_blk g1' 1
  simp at k20 k21 k10 k11
  have q := heap_set (heap_set ((Below.heap_setCell w2 ⟨w.heap.size + 1 + 1, 1, none⟩ (.slice B2 m d2) (w.heap.size + 1) (by show w.heap.size + 1 ≠ w.heap.size + 1 + 1; omega)).trans g1') 0 (.slice A1 n c1)) 1 (.slice B2 m d2)
  have q0 := cell_blk q 0
  have q1 := cell_blk q 1
  simp at q0 q1
  have Q0 := Lib.hid q0
  have Q1 := Lib.hid q1
  have hne : ∀ X : Option Addr, Fresh (w.heap.size + 1 + 1 + 1) X → ∀ a, X = some a → (((w2.setCell ⟨w.heap.size + 1 + 1, 1, none⟩ (.slice B2 m d2)).setCell ⟨w.heap.size + 1, 0, none⟩ (.slice A1 n c1)).setCell ⟨w.heap.size + 1, 1, none⟩ (.slice B2 m d2)).heap[a.block]? = w2.heap[a.block]? := by
    intro X hX a ha
    have hlt := hX a ha
    exact (Below.heap_setCell _ _ _ _ (by show a.block ≠ w.heap.size + 1; omega)).trans ((Below.heap_setCell _ _ _ _ (by show a.block ≠ w.heap.size + 1; omega)).trans (Below.heap_setCell _ _ _ _ (by show a.block ≠ w.heap.size + 1 + 1; omega)))
  have HNE := Lib.hid hne
  clear k1 k2 j2 G1 G2 g2' g1' b2 f2 o1' t1' q q0 q1 hne
  go_wp2_with fail
  refine bodyPost_ret (v := .agg #[.slice A1 n c1, .slice B2 m d2]) (by simp [results, Try.results39, go_sem, Q0.out, Q1.out]) rfl ⟨A1, c1, B2, d2, rfl, ⟨o12.keep (HNE.out A1 f1'), o2.keep (HNE.out B2 f2')⟩, fresh_up f1' (by omega), fresh_up f2' (by omega), ?_⟩
  exact ((t2.setCell (by show w.heap.size ≤ w.heap.size + 1 + 1; omega) _).setCell (by show w.heap.size ≤ w.heap.size + 1; omega) _).setCell (by show w.heap.size ≤ w.heap.size + 1; omega) _

set_option maxHeartbeats 400000 in
theorem eqNode_any (s : ByteArray) (l h : Int) (w : World) :
    Calls Try.prog 170 #[.agg #[.string s, .int .i64 l, .int .i64 h], .agg #[.string s, .int .i64 l, .int .i64 h]] w fun e w' => e = .returned (.bool true) ∧ Below w.heap.size w w' := by
  go_enter Try.func170, Try.ntmps170
  go_wp2
  go_ret
  exact ⟨rfl, bel2 _ _ _⟩

set_option maxHeartbeats 400000 in
theorem eqPipe_any (a b k v l : Int) (w : World) :
    Calls Try.prog 171 #[.agg #[.int .i64 a, .int .i64 b, .int .i64 k, .int .i64 v, .int .i64 l], .agg #[.int .i64 a, .int .i64 b, .int .i64 k, .int .i64 v, .int .i64 l]] w fun e w' => e = .returned (.bool true) ∧ Below w.heap.size w w' := by
  go_enter Try.func171, Try.ntmps171
  go_wp2
  go_ret
  exact ⟨rfl, bel2 _ _ _⟩

end Go.Proofs.Ytioiebjgjimeiaa

/- networks: comparisons of lists -/
namespace Go.Proofs.Ytioiebjgjimeiaa
open Go.RowKit

set_option maxRecDepth 100000 in
set_option maxHeartbeats 1000000 in
theorem eqNodeS_any (A B : Option Addr) (n c d : Nat) (ns : List Node) (w : World) (h : NodesAt w A n c ns) (g : NodesAt w B n d ns) :
    Calls Try.prog 109 #[.slice A n c, .slice B n d] w fun e w' => e = .returned (.bool true) ∧ Below w.heap.size w w' := by
  have hle := h.le
  have hcap := h.cap
  go_enter Try.func109, Try.ntmps109
  go_wp2_with fail
  go_loopw [5] (fun i wr => ∃ k : Nat, k ≤ n ∧ i = .int .i64 k ∧ Below w.heap.size w wr) (fun i _ => n - (intOf i).toNat)
  case atStart => exact ⟨0, by omega, rfl, Below.refl _ _⟩
  case round =>
    obtain ⟨k, hk, rfl, hb⟩ := hrel
    by_cases hlt : k < n
    · obtain ⟨b, off, rfl, hbl, hc⟩ := (h.later hb).cells (by omega)
      obtain ⟨b', off', rfl, hbl', hc'⟩ := (g.later hb).cells (by omega)
      obtain ⟨c0, c1, c2⟩ := hc k hlt
      obtain ⟨d0, d1, d2⟩ := hc' k hlt
      clear hc hc'
      go_wp2_with fail
      go_still_tail 8, (by kernel_rfl)
      change wpList _ _ _ _ _ wr.drew
      go_wp2_with fail
      refine (eqNode_any _ _ _ _).mono ?_
      rintro e w2 ⟨rfl, b2⟩
      have b2' : Below wr.heap.size wr w2 := (Below.refl _ _).drew.trans b2
      go_wp2_with fail
      go_roundw
      case rel => exact ⟨k + 1, by omega, by go_num, below_step hb b2'⟩
      case measure => simp [intOf]; omega
    · go_wp2_with fail
      go_ret
      exact ⟨rfl, hb⟩

set_option maxRecDepth 100000 in
set_option maxHeartbeats 1000000 in
theorem eqPipeS_any (A B : Option Addr) (n c d : Nat) (ns : List Pipe) (w : World) (h : PipesAt w A n c ns) (g : PipesAt w B n d ns) :
    Calls Try.prog 110 #[.slice A n c, .slice B n d] w fun e w' => e = .returned (.bool true) ∧ Below w.heap.size w w' := by
  have hle := h.le
  have hcap := h.cap
  go_enter Try.func110, Try.ntmps110
  go_wp2_with fail
  go_loopw [5] (fun i wr => ∃ k : Nat, k ≤ n ∧ i = .int .i64 k ∧ Below w.heap.size w wr) (fun i _ => n - (intOf i).toNat)
  case atStart => exact ⟨0, by omega, rfl, Below.refl _ _⟩
  case round =>
    obtain ⟨k, hk, rfl, hb⟩ := hrel
    by_cases hlt : k < n
    · obtain ⟨b, off, rfl, hbl, hc⟩ := (h.later hb).cells (by omega)
      obtain ⟨b', off', rfl, hbl', hc'⟩ := (g.later hb).cells (by omega)
      obtain ⟨c0, c1, c2, c3, c4⟩ := hc k hlt
      obtain ⟨d0, d1, d2, d3, d4⟩ := hc' k hlt
      clear hc hc'
      go_wp2_with fail
      go_still_tail 8, (by kernel_rfl)
      change wpList _ _ _ _ _ wr.drew
      go_wp2_with fail
      refine (eqPipe_any _ _ _ _ _ _).mono ?_
      rintro e w2 ⟨rfl, b2⟩
      have b2' : Below wr.heap.size wr w2 := (Below.refl _ _).drew.trans b2
      go_wp2_with fail
      go_roundw
      case rel => exact ⟨k + 1, by omega, by go_num, below_step hb b2'⟩
      case measure => simp [intOf]; omega
    · go_wp2_with fail
      go_ret
      exact ⟨rfl, hb⟩

set_option maxHeartbeats 1000000 in
theorem eqNetwork_any (A B A' B' : Option Addr) (n c m d c' d' : Nat) (net : Net) (w : World) (h : NetAt w A n c B m d net) (g : NetAt w A' n c' B' m d' net) :
    Calls Try.prog 43 #[.agg #[.slice A n c, .slice B m d], .agg #[.slice A' n c', .slice B' m d']] w fun e w' => e = .returned (.bool true) ∧ Below w.heap.size w w' := by
  go_enter Try.func43, Try.ntmps43
  go_wp2_with fail
  refine (eqNodeS_any _ _ _ _ _ _ _ (h.nodes.later (bel2 _ _ _)) (g.nodes.later (bel2 _ _ _))).mono ?_
  rintro e w1 ⟨rfl, b1⟩
  obtain ⟨hc1, hf1⟩ := bcell b1
  have t1 := below_step (bel2 w _ _) b1
  go_wp2_with fail
  refine (eqPipeS_any _ _ _ _ _ _ _ (h.pipes.later t1) (g.pipes.later t1)).mono ?_
  rintro e w2 ⟨rfl, b2⟩
  go_wp2_with fail
  go_ret
  exact ⟨rfl, below_step t1 b2⟩

end Go.Proofs.Ytioiebjgjimeiaa
