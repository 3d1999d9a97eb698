/- slices of bool of the call's own -/
import Derived.Test.YtioiebjgjimeiaaH1
namespace Go.Proofs.Ytioiebjgjimeiaa
open Go.RowKit

def bg (bs : List Bool) (j : Nat) : Bool := bs.getD j false
theorem bg_get {bs : List Bool} {j : Nat} (h : j < bs.length) : bs[j]? = some (bg bs j) := by
  unfold bg; rw [List.getD_eq_getElem?_getD, List.getElem?_eq_getElem h]; rfl
structure OwnB (w : World) (A : Option Addr) (n c : Nat) (bs : List Bool) : Prop where
  row : w.ownsRow 0 4 1 (.slice A n c) n (bs.map Value.bool)

section
variable {w w' : World} {A : Option Addr} {n c : Nat} {bs : List Bool}
theorem OwnB.len (h : OwnB w A n c bs) : bs.length = n := by have := h.row.1; simpa using this
theorem OwnB.lt (h : OwnB w A n c bs) : ∀ a, A = some a → a.block < w.heap.size := row_lt h.row
theorem OwnB.keep (h : OwnB w A n c bs) (hk : ∀ a, A = some a → w'.heap[a.block]? = w.heap[a.block]?) : OwnB w' A n c bs := ⟨row_keep h.row hk⟩
theorem OwnB.later (h : OwnB w A n c bs) (hb : Below w.heap.size w w') : OwnB w' A n c bs := h.keep fun a ha => hb.block _ (h.lt a ha)
theorem OwnB.far (h : OwnB w A n c bs) {p : Addr} (hp : ∀ a, A = some a → a.block ≠ p.block) (u : Value) : OwnB (w.setCell p u) A n c bs :=
  h.keep fun a ha => Below.heap_setCell w p u _ (hp a ha)
theorem OwnB.store {g : Nat} (h : OwnB w (some ⟨g, 0, none⟩) n c bs) (j : Nat) (z : Bool) : OwnB (w.setCell ⟨g, j, none⟩ (.bool z)) (some ⟨g, 0, none⟩) n c (bs.set j z) := by
  refine ⟨?_⟩
  rw [List.map_set]; exact (h.row.stored j _).1
theorem OwnB.cell {g : Nat} (h : OwnB w (some ⟨g, 0, none⟩) n c bs) {j : Nat} (hj : j < n) : w.cell? ⟨g, j, none⟩ = some (.bool (bg bs j)) := by
  have hl := h.len
  rw [h.row.cellAt j (by omega), List.getElem?_map, bg_get (by omega)]; rfl
theorem OwnB.unfrozen {g : Nat} (h : OwnB w (some ⟨g, 0, none⟩) n c bs) (j : Nat) : w.frozen? ⟨g, j, none⟩ = false := h.row.frozenAt j
theorem OwnB.aside {A E : Option Addr} (h : OwnB w E n c bs) (hp : Apart A E) (hg : w.grownBy w' (A.map (·.block))) : OwnB w' E n c bs :=
  h.keep fun a ha => hg.block _ (h.lt a ha) (fun e => by
    cases A with
    | none => cases e
    | some x => simp at e; exact hp x a rfl ha e.symm)

end

theorem info_bool : (Try.prog.info? 4).map (fun i => (i.zero, i.size, i.bytes)) = some (some (.bool false), 1, 1) := by kernel_rfl

/-- make([]bool, n) -/
theorem law_makeB (w : World) {ops : Array Oper} {rest : List Oper} {o : Oper} {a : Act} {Q : Exit → Act → World → Prop}
    (hg : o.guard = none) (l c : Operand) (hop : o.op = Op.makeSlice 147 l c) (n : Nat) (L C : Int) (hl : a.eval l = .int .i64 L) (hc : a.eval c = .int .i64 C) (hL : L = (n : Int)) (hC : C = (n : Int))
    (hn : n ≤ 17592186044416) (hK : ∀ w', OwnB w' (some ⟨w.heap.size, 0, none⟩) n n (List.replicate n false) → Below w.heap.size w w' → w.heap.size < w'.heap.size → wpList Try.prog ops Q rest (a.put o.dst (.slice (some ⟨w.heap.size, 0, none⟩) n n)) w') :
    wpList Try.prog ops Q (o :: rest) a w := by
  obtain ⟨i, hi, h1, h2, h3⟩ := info_parts info_bool
  refine wpList_make_full w hg l c _ hop 0 4 i (.bool false) 1 Try.underlying147 hi h1 h2 .i64 .i64 L C n hl hc hL hC (by rw [h3]; omega) (by unfold maxLen; omega) (Nat.zero_le _) fun w' ho hgr => ?_
  have ho' : OwnB w' (some ⟨w.heap.size, 0, none⟩) n n (List.replicate n false) := by
    refine ⟨?_⟩
    have e : (madeCells (Value.bool false).cells (n * 1)).toList = (List.replicate n false).map Value.bool := by
      rw [Nat.mul_one, List.map_replicate]; exact toList_madeCells_one _ _
    rw [← e]; exact ho
  exact hK w' ho' ((Below.refl _ _).grown hgr (Nat.le_refl _) (by simp)) (ho'.lt _ rfl)

/-- which of the first n numbers are in a list -/
def memL (n : Nat) (l : List Nat) : List Bool := (List.range n).map fun v => decide (v ∈ l)
theorem memL_len (n : Nat) (l : List Nat) : (memL n l).length = n := by simp [memL]
theorem memL_bg {n v : Nat} {l : List Nat} (h : v < n) : bg (memL n l) v = decide (v ∈ l) := by
  have := bg_get (bs := memL n l) (j := v) (by rw [memL_len]; exact h)
  rw [show (memL n l)[v]? = some (decide (v ∈ l)) by simp [memL, h]] at this
  injection this with this; exact this.symm
theorem memL_set {n q : Nat} {l : List Nat} : (memL n l).set q true = memL n (l ++ [q]) := by
  refine List.ext_getElem? fun v => ?_
  rw [List.getElem?_set]
  by_cases hv : v < n
  · by_cases e : q = v
    · subst e
      simp [memL, hv]
    · have : (v ∈ l ++ [q]) ↔ v ∈ l := by simp; exact fun h => absurd h.symm e
      simp [memL, hv, e, Ne.symm e]
  · simp [memL, hv]
    intro h; omega
theorem memL_nil (n : Nat) : List.replicate n false = memL n [] := by
  simp [memL, List.map_const']

end Go.Proofs.Ytioiebjgjimeiaa
