/- the search from a node: memory -/
import Derived.Test.YtioiebjgjimeiaaH1
import Derived.Test.YtioiebjgjimeiaaTrk
namespace Go.Proofs.Ytioiebjgjimeiaa
open Go.RowKit

/-- what the search has in memory: a box with three rows -/
structure SSt (B : Nat) (w : World) (g5 : Nat) (Ao : Option Addr) (lo co bd be n : Nat) (os ds es : List Int) : Prop where
  box : w.heap[g5]? = some (.cells #[.slice Ao lo co, .slice (some ⟨bd, 0, none⟩) n n, .slice (some ⟨be, 0, none⟩) n n] 118 (0, 0))
  o : Own w Ao lo co os
  d : Own w (some ⟨bd, 0, none⟩) n n ds
  e : Own w (some ⟨be, 0, none⟩) n n es
  n1 : bd ≠ be
  n2 : g5 ≠ bd
  n3 : g5 ≠ be
  n4 : ∀ a, Ao = some a → a.block ≠ g5 ∧ a.block ≠ bd ∧ a.block ≠ be
  f5 : B ≤ g5
  fd : B ≤ bd
  fe : B ≤ be
  fo : Fresh B Ao

section
variable {B g5 lo co bd be n : Nat} {w w' : World} {Ao : Option Addr} {os ds es : List Int}
theorem SSt.lt (h : SSt B w g5 Ao lo co bd be n os ds es) : g5 < w.heap.size := (Array.getElem?_eq_some_iff.1 h.box).1
theorem SSt.c0 (h : SSt B w g5 Ao lo co bd be n os ds es) : w.cell? ⟨g5, 0, none⟩ = some (.slice Ao lo co) := by rw [cell_blk h.box]; rfl
theorem SSt.c1 (h : SSt B w g5 Ao lo co bd be n os ds es) : w.cell? ⟨g5, 1, none⟩ = some (.slice (some ⟨bd, 0, none⟩) n n) := by rw [cell_blk h.box]; rfl
theorem SSt.c2 (h : SSt B w g5 Ao lo co bd be n os ds es) : w.cell? ⟨g5, 2, none⟩ = some (.slice (some ⟨be, 0, none⟩) n n) := by rw [cell_blk h.box]; rfl
theorem SSt.u (h : SSt B w g5 Ao lo co bd be n os ds es) (i : Nat) : w.frozen? ⟨g5, i, none⟩ = false := frozen_blk h.box i
theorem SSt.later (h : SSt B w g5 Ao lo co bd be n os ds es) (hb : Below w.heap.size w w') : SSt B w' g5 Ao lo co bd be n os ds es :=
  ⟨(hb.block g5 h.lt).trans h.box, h.o.later hb, h.d.later hb, h.e.later hb, h.n1, h.n2, h.n3, h.n4, h.f5, h.fd, h.fe, h.fo⟩
theorem SSt.putD (h : SSt B w g5 Ao lo co bd be n os ds es) (j : Nat) {z : Int} (hz : I64 z) : SSt B (w.setCell ⟨bd, j, none⟩ (.int .i64 z)) g5 Ao lo co bd be n os (ds.set j z) es :=
  ⟨(Below.heap_setCell w _ _ g5 h.n2).trans h.box, h.o.far (fun a ha => (h.n4 a ha).2.1) _, h.d.store j hz, h.e.far (fun a ha => by injection ha with ha; subst ha; exact Ne.symm h.n1) _, h.n1, h.n2, h.n3, h.n4, h.f5, h.fd, h.fe, h.fo⟩
theorem SSt.putE (h : SSt B w g5 Ao lo co bd be n os ds es) (j : Nat) {z : Int} (hz : I64 z) : SSt B (w.setCell ⟨be, j, none⟩ (.int .i64 z)) g5 Ao lo co bd be n os ds (es.set j z) :=
  ⟨(Below.heap_setCell w _ _ g5 h.n3).trans h.box, h.o.far (fun a ha => (h.n4 a ha).2.2) _, h.d.far (fun a ha => by injection ha with ha; subst ha; exact h.n1) _, h.e.store j hz, h.n1, h.n2, h.n3, h.n4, h.f5, h.fd, h.fe, h.fo⟩
theorem SSt.push {A3 : Option Addr} {c3 : Nat} {os' : List Int} (h : SSt B w g5 Ao lo co bd be n os ds es) (hg : w.grownBy w' (Ao.map (·.block))) (hb : A3.map (·.block) = Ao.map (·.block) ∨ A3.map (·.block) = some w.heap.size) (ho : Own w' A3 (lo + 1) c3 os') (hB : B ≤ w.heap.size) :
    SSt B (w'.setCell ⟨g5, 0, none⟩ (.slice A3 (lo + 1) c3)) g5 A3 (lo + 1) c3 bd be n os' ds es := by
  have hne : ∀ k, k < w.heap.size → (∀ a, Ao = some a → a.block ≠ k) → w'.heap[k]? = w.heap[k]? := fun k hk ha => hg.block k hk (fun e => by
    cases Ao with
    | none => cases e
    | some x => injection e with e; exact ha x rfl e.symm)
  have n4 : ∀ a, A3 = some a → a.block ≠ g5 ∧ a.block ≠ bd ∧ a.block ≠ be := by
    intro a ha
    subst ha
    rcases hb with hb | hb
    · cases Ao with
      | none => simp at hb
      | some x => simp at hb; rw [hb]; exact h.n4 x rfl
    · simp at hb
      have h1 := h.lt
      have h2 := h.d.lt _ rfl
      have h3 := h.e.lt _ rfl
      simp at h2 h3
      omega
  have hbx := (hne g5 h.lt fun a ha => (h.n4 a ha).1).trans h.box
  refine ⟨?_, ?_, ?_, ?_, h.n1, h.n2, h.n3, n4, h.f5, h.fd, h.fe, ?_⟩
  · rw [heap_set hbx]; rfl
  · exact ho.far (fun a ha => (n4 a ha).1) _
  · exact (h.d.keep fun a ha => by injection ha with ha; subst ha; exact hne bd (h.d.lt _ rfl) fun a ha => (h.n4 a ha).2.1).far (fun a ha => by injection ha with ha; subst ha; exact Ne.symm h.n2) _
  · exact (h.e.keep fun a ha => by injection ha with ha; subst ha; exact hne be (h.e.lt _ rfl) fun a ha => (h.n4 a ha).2.2).far (fun a ha => by injection ha with ha; subst ha; exact Ne.symm h.n3) _
  · exact fresh_app h.fo hB hb

end

/-- the numbers that the search keeps besides: at least 0 at the nodes that it has met -/
def Met (n : Nat) (ord : List Nat) (dist : Nat → Int) : Prop := ∀ v, v < n → -1 ≤ dist v ∧ dist v < ord.length ∧ (0 ≤ dist v ↔ v ∈ ord)
theorem Met.push {n : Nat} {ord : List Nat} {dist : Nat → Int} (h : Met n ord dist) {x y : Nat} (hx : x < n) (hxm : x ∈ ord) : Met n (ord ++ [y]) (upd dist y (dist x + 1)) := by
  intro v hv
  have h1 := h v hv
  have h2 := h x hx
  have h3 := h2.2.2.2 hxm
  unfold upd
  rw [List.length_append, List.mem_append, List.mem_singleton]
  by_cases e : y = v
  · subst e
    rw [if_pos rfl]
    refine ⟨by omega, by simp; omega, fun _ => .inr rfl, fun _ => by omega⟩
  · rw [if_neg e]
    refine ⟨h1.1, by simp; omega, fun h0 => .inl (h1.2.2.1 h0), fun hm => ?_⟩
    rcases hm with hm | hm
    · exact h1.2.2.2 hm
    · exact absurd hm.symm e
theorem mapTo_upd {n : Nat} {f : Nat → Int} {y : Nat} {z : Int} : (mapTo n f).set y z = mapTo n (upd f y z) := mapTo_set fun _ _ => rfl
theorem mapTo_const (n : Nat) (z : Int) : mapTo n (fun _ => z) = List.replicate n z := by
  refine ext_ig (by simp [mapTo_len]) fun j hj => ?_
  rw [mapTo_len] at hj
  rw [mapTo_ig hj, ig_lt (by simpa using hj)]; simp

end Go.Proofs.Ytioiebjgjimeiaa
