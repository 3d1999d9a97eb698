/- plain graphs: components and the rooted forest -/
import Derived.Test.YtahmhmicegjdkaaQ1
namespace Go.Proofs.Ytahmhmicegjdkaa

section
variable {g : Gr} (ok : g.ok)
include ok
theorem Gr.ord_inv {r : Nat} (hr : r < g.n) : g.Inv r (g.bfs r) := (g.run_inv ok hr g.n).1
theorem Gr.ord_closed {r : Nat} (hr : r < g.n) : ∀ v ∈ g.ord r, ∀ i ∈ g.at v, g.oth i v ∈ g.ord r := by
  intro v hv i hi
  obtain ⟨j, hj, e⟩ := List.getElem_of_mem hv
  have hl := g.run_len ok hr g.n
  exact (g.run_inv ok hr g.n).2 j (Nat.lt_of_lt_of_le hj hl) v (by rw [← e]; exact List.getElem?_eq_getElem hj) i hi
theorem Gr.ord_lt {r : Nat} (hr : r < g.n) : ∀ v ∈ g.ord r, v < g.n := (Gr.ord_inv ok hr).lt
theorem Gr.ord_len {r : Nat} (hr : r < g.n) : (g.ord r).length ≤ g.n := g.run_len ok hr g.n
theorem Gr.ord_r {r : Nat} (hr : r < g.n) : r ∈ g.ord r := (Gr.ord_inv ok hr).mem_r

end

/-- a set of nodes that no pipe leaves -/
def Gr.Closed (g : Gr) (C : Nat → Prop) : Prop := ∀ i, i < g.m → (C (g.f i) ↔ C (g.t i))
theorem Gr.Closed.joins {g : Gr} {C : Nat → Prop} (h : g.Closed C) {i x y : Nat} (hi : i < g.m) (hj : g.joins i x y) : C x ↔ C y := by
  rcases hj with ⟨rfl, rfl⟩ | ⟨rfl, rfl⟩
  · exact h i hi
  · exact (h i hi).symm

theorem Gr.ord_isClosed {g : Gr} (ok : g.ok) {r : Nat} (hr : r < g.n) : g.Closed (· ∈ g.ord r) := by
  intro i hi
  have o := ok i hi
  constructor
  · intro h
    have := Gr.ord_closed ok hr _ h i (Gr.mem_at.2 ⟨hi, .inl rfl⟩)
    rwa [Gr.oth_of_joins (y := g.t i) (.inl ⟨rfl, rfl⟩) o.2.2] at this
  · intro h
    have := Gr.ord_closed ok hr _ h i (Gr.mem_at.2 ⟨hi, .inr rfl⟩)
    rwa [Gr.oth_of_joins (y := g.f i) (.inr ⟨rfl, rfl⟩) (Ne.symm o.2.2)] at this

/-- a closed set holds all visited nodes, or none; only the entries matter -/
theorem Gr.Inv.all {g : Gr} {r : Nat} {s : Vst} (h : g.Inv r s) {C : Nat → Prop} (hC : ∀ x ∈ s.1, x ≠ r → ∀ i : Nat, s.2 x = i → ∀ y, g.joins i x y → (C x ↔ C y)) :
    ∀ x ∈ s.1, (C x ↔ C r) := by
  have : ∀ k, ∀ x ∈ s.1, s.1.idxOf x = k → (C x ↔ C r) := by
    intro k
    induction k using Nat.strongRecOn with
    | _ k ih =>
      intro x hx hk
      by_cases e : x = r
      · rw [e]
      · obtain ⟨i, h1, h2, y, hy, h3, h4⟩ := h.ent x hx e
        exact (hC x hx e i h1 y h4).trans (ih _ (by omega) y hy rfl)
  exact fun x hx => this _ x hx rfl
theorem Gr.Closed.all {g : Gr} {C : Nat → Prop} (h : g.Closed C) {r : Nat} {s : Vst} (hi : g.Inv r s) : ∀ x ∈ s.1, (C x ↔ C r) :=
  hi.all fun x hx hne i h1 y hj => by
    obtain ⟨j, e1, e2, _⟩ := hi.ent x hx hne
    have : j = i := by omega
    subst this
    exact h.joins e2 hj

/-- the least node of the component of each node, as far as the first k nodes have been looked at -/
def Gr.cmp (g : Gr) : Nat → Nat → Int
  | 0 => fun _ => -1
  | k + 1 => if g.cmp k k < 0 then fun v => if v ∈ g.ord k then (k : Int) else g.cmp k v else g.cmp k
def Gr.comp (g : Gr) : Nat → Int := g.cmp g.n

structure Gr.CInv (g : Gr) (k : Nat) (c : Nat → Int) : Prop where
  low : ∀ v, v < k → 0 ≤ c v
  val : ∀ v, 0 ≤ c v → ∃ r : Nat, c v = r ∧ r < k ∧ r < g.n ∧ r ≤ v ∧ c r = r ∧ v ∈ g.ord r
  mem : ∀ r v, r < k → c r = r → v ∈ g.ord r → c v = r

theorem Gr.cmp_inv {g : Gr} (ok : g.ok) (k : Nat) (hk : k ≤ g.n) : g.CInv k (g.cmp k) := by
  induction k with
  | zero => exact ⟨fun v hv => absurd hv (by omega), fun v hv => absurd hv (by simp [Gr.cmp]), fun r v hr => absurd hr (by omega)⟩
  | succ k ih =>
    have h := ih (by omega)
    have hkn : k < g.n := by omega
    by_cases hc : g.cmp k k < 0
    · have e : g.cmp (k + 1) = fun v => if v ∈ g.ord k then (k : Int) else g.cmp k v := by simp [Gr.cmp, hc]
      have hkk : k ∈ g.ord k := Gr.ord_r ok hkn
      -- no visited node has been met
      have hnew : ∀ v ∈ g.ord k, g.cmp k v < 0 := by
        intro v hv
        by_cases hn : g.cmp k v < 0
        · exact hn
        · obtain ⟨r, h1, h2, h3, h4, h5, h6⟩ := h.val v (by omega)
          have := ((Gr.ord_isClosed ok h3).all (Gr.ord_inv ok hkn) v hv).1 h6
          have := h.mem r k h2 h5 this
          omega
      have hself : ∀ r : Nat, g.cmp k r = r → r < g.n → r ∉ g.ord k := by
        intro r hr _ hm
        have := hnew r hm
        omega
      rw [e]
      refine ⟨?_, ?_, ?_⟩
      · intro v hv
        show 0 ≤ if v ∈ g.ord k then (k : Int) else g.cmp k v
        split
        · omega
        · rename_i hvn
          have : v ≠ k := by rintro rfl; exact hvn hkk
          exact h.low v (by omega)
      · intro v hv
        replace hv : 0 ≤ if v ∈ g.ord k then (k : Int) else g.cmp k v := hv
        show ∃ r : Nat, (if v ∈ g.ord k then (k : Int) else g.cmp k v) = r ∧ r < k + 1 ∧ r < g.n ∧ r ≤ v ∧ (if r ∈ g.ord k then (k : Int) else g.cmp k r) = r ∧ v ∈ g.ord r
        by_cases hvk : v ∈ g.ord k
        · refine ⟨k, by rw [if_pos hvk], by omega, hkn, ?_, by rw [if_pos hkk], hvk⟩
          rcases Nat.lt_or_ge v k with hl | hl
          · have := h.low v hl
            have := hnew v hvk
            omega
          · exact hl
        · rw [if_neg hvk] at hv
          obtain ⟨r, h1, h2, h3, h4, h5, h6⟩ := h.val v hv
          exact ⟨r, by rw [if_neg hvk]; exact h1, by omega, h3, h4, by rw [if_neg (hself r h5 h3)]; exact h5, h6⟩
      · intro r v hr hcr hv
        show (if v ∈ g.ord k then (k : Int) else g.cmp k v) = r
        replace hcr : (if r ∈ g.ord k then (k : Int) else g.cmp k r) = r := hcr
        by_cases hrk : r ∈ g.ord k
        · rw [if_pos hrk] at hcr
          have : k = r := by omega
          subst this
          rw [if_pos hv]
        · rw [if_neg hrk] at hcr
          have hrk' : r < k := by
            have : r ≠ k := by rintro rfl; exact hrk hkk
            omega
          have hcv := h.mem r v hrk' hcr hv
          have : v ∉ g.ord k := by intro hm; have := hnew v hm; omega
          rw [if_neg this]; exact hcv
    · have e : g.cmp (k + 1) = g.cmp k := by simp [Gr.cmp, hc]
      rw [e]
      refine ⟨?_, ?_, ?_⟩
      · intro v hv
        by_cases hvk : v = k
        · subst hvk; omega
        · exact h.low v (by omega)
      · intro v hv
        obtain ⟨r, h1, h2, h3⟩ := h.val v hv
        exact ⟨r, h1, by omega, h3⟩
      · intro r v hr hcr hv
        have : r ≠ k := by
          rintro rfl
          obtain ⟨q, h1, h2, _⟩ := h.val r (by omega)
          omega
        exact h.mem r v (by omega) hcr hv

/-- the root of a node's component -/
def Gr.root (g : Gr) (v : Nat) : Nat := (g.comp v).toNat

section
variable {g : Gr} (ok : g.ok)
include ok
theorem Gr.comp_root {v : Nat} (hv : v < g.n) : g.comp v = g.root v := by
  have := (Gr.cmp_inv ok g.n (Nat.le_refl _)).low v hv
  unfold Gr.root Gr.comp; omega
theorem Gr.root_facts {v : Nat} (hv : v < g.n) : g.root v < g.n ∧ g.root v ≤ v ∧ g.root (g.root v) = g.root v ∧ v ∈ g.ord (g.root v) := by
  have hc := Gr.comp_root ok hv
  obtain ⟨r, h1, h2, h3, h4, h5, h6⟩ := (Gr.cmp_inv ok g.n (Nat.le_refl _)).val v (by unfold Gr.comp at hc; rw [hc]; omega)
  have e : g.root v = r := by unfold Gr.root Gr.comp; omega
  rw [e]
  refine ⟨h3, h4, ?_, h6⟩
  unfold Gr.root Gr.comp; omega
theorem Gr.root_of_mem {r v : Nat} (hr : r < g.n) (hrr : g.root r = r) (hv : v ∈ g.ord r) : g.root v = r := by
  have := (Gr.cmp_inv ok g.n (Nat.le_refl _)).mem r v hr (by have := Gr.comp_root ok hr; unfold Gr.comp at this; rw [this, hrr]) hv
  unfold Gr.root Gr.comp; omega
theorem Gr.root_pipe {i : Nat} (hi : i < g.m) : g.root (g.f i) = g.root (g.t i) := by
  have o := ok i hi
  have h := Gr.root_facts ok o.1
  have hm := ((Gr.ord_isClosed ok h.1) i hi).1 h.2.2.2
  exact (Gr.root_of_mem ok h.1 h.2.2.1 hm).symm
theorem Gr.root_joins {i x y : Nat} (hi : i < g.m) (hj : g.joins i x y) : g.root x = g.root y := by
  rcases hj with ⟨rfl, rfl⟩ | ⟨rfl, rfl⟩
  · exact Gr.root_pipe ok hi
  · exact (Gr.root_pipe ok hi).symm

end

/-- the entry of a node in the forest; its rank -/
def Gr.fe (g : Gr) (v : Nat) : Int := g.ent (g.root v) v
def Gr.rank (g : Gr) (v : Nat) : Nat := (g.ord (g.root v)).idxOf v
/-- is a pipe in the forest -/
def Gr.F (g : Gr) (i : Nat) : Prop := ∃ v, v < g.n ∧ g.fe v = i

section
variable {g : Gr} (ok : g.ok)
include ok
theorem Gr.fe_root {v : Nat} (hv : v < g.n) (h : g.root v = v) : g.fe v = -1 := by
  unfold Gr.fe
  rw [h]
  exact (Gr.ord_inv ok hv).none v (.inr rfl)
theorem Gr.fe_some {v : Nat} (hv : v < g.n) (h : g.root v ≠ v) : ∃ i y : Nat, g.fe v = i ∧ i < g.m ∧ y < g.n ∧ g.joins i v y ∧ g.root y = g.root v ∧ g.rank y < g.rank v := by
  obtain ⟨h1, h2, h3, h4⟩ := Gr.root_facts ok hv
  obtain ⟨i, e1, e2, y, hy, e3, e4⟩ := (Gr.ord_inv ok h1).ent v h4 (Ne.symm h)
  have hyr : g.root y = g.root v := Gr.root_of_mem ok h1 h3 hy
  refine ⟨i, y, e1, e2, Gr.ord_lt ok h1 y hy, e4, hyr, ?_⟩
  unfold Gr.rank
  rw [hyr]; exact e3
theorem Gr.F_facts {i : Nat} (h : g.F i) : ∃ v y : Nat, v < g.n ∧ y < g.n ∧ g.root v ≠ v ∧ g.fe v = i ∧ i < g.m ∧ g.joins i v y ∧ g.root y = g.root v ∧ g.rank y < g.rank v := by
  obtain ⟨v, hv, e⟩ := h
  have hne : g.root v ≠ v := by intro h'; have := Gr.fe_root ok hv h'; omega
  obtain ⟨j, y, e1, e2, e3, e4, e5, e6⟩ := Gr.fe_some ok hv hne
  have : j = i := by omega
  subst this
  exact ⟨v, y, hv, e3, hne, e, e2, e4, e5, e6⟩
theorem Gr.fe_inj {v v' : Nat} (hv : v < g.n) (hv' : v' < g.n) (h : g.root v ≠ v) (e : g.fe v = g.fe v') : v = v' := by
  have h' : g.root v' ≠ v' := by
    intro h'
    obtain ⟨i, y, e1, _⟩ := Gr.fe_some ok hv h
    have := Gr.fe_root ok hv' h'
    omega
  obtain ⟨i, y, a1, a2, a3, a4, a5, a6⟩ := Gr.fe_some ok hv h
  obtain ⟨i', y', b1, b2, b3, b4, b5, b6⟩ := Gr.fe_some ok hv' h'
  have : i = i' := by omega
  subst this
  rcases a4 with ⟨p, q⟩ | ⟨p, q⟩ <;> rcases b4 with ⟨p', q'⟩ | ⟨p', q'⟩
  · omega
  · have e1 : v = y' := by omega
    have e2 : y = v' := by omega
    rw [e1] at a6; rw [e2] at a6; omega
  · have e1 : v = y' := by omega
    have e2 : y = v' := by omega
    rw [e1] at a6; rw [e2] at a6; omega
  · omega
theorem Gr.rank_lt {v : Nat} (hv : v < g.n) : g.rank v < g.n := by
  obtain ⟨h1, h2, h3, h4⟩ := Gr.root_facts ok hv
  exact Nat.lt_of_lt_of_le (List.idxOf_lt_length_of_mem h4) (Gr.ord_len ok h1)

end
end Go.Proofs.Ytahmhmicegjdkaa
