/- plain graphs: the search from a node -/
import Derived.Test.YtllblmndoigdlaaF9
namespace Go.Proofs.Ytllblmndoigdlaa

structure Gr where
  n : Nat
  m : Nat
  f : Nat → Nat
  t : Nat → Nat

def Gr.ok (g : Gr) : Prop := ∀ i, i < g.m → g.f i < g.n ∧ g.t i < g.n ∧ g.f i ≠ g.t i
def Gr.oth (g : Gr) (i v : Nat) : Nat := if g.f i = v then g.t i else g.f i
def Gr.joins (g : Gr) (i x y : Nat) : Prop := (g.f i = x ∧ g.t i = y) ∨ (g.f i = y ∧ g.t i = x)
def Gr.touch (g : Gr) (v i : Nat) : Bool := decide (g.f i = v) || decide (g.t i = v)
/-- the pipes at a node among the first k -/
def Gr.atK (g : Gr) (v k : Nat) : List Nat := (List.range k).filter (g.touch v)
def Gr.at (g : Gr) (v : Nat) : List Nat := g.atK v g.m
def upd (h : Nat → Int) (x : Nat) (z : Int) : Nat → Int := fun v => if x = v then z else h v

abbrev Vst := List Nat × (Nat → Int)
def Gr.vis (g : Gr) (v : Nat) (s : Vst) (i : Nat) : Vst := if g.oth i v ∈ s.1 then s else (s.1 ++ [g.oth i v], upd s.2 (g.oth i v) i)
def Gr.visL (g : Gr) (v : Nat) (s : Vst) (l : List Nat) : Vst := l.foldl (g.vis v) s
def Gr.rnd (g : Gr) (s : Vst) (k : Nat) : Vst := match s.1[k]? with
  | some v => g.visL v s (g.at v)
  | none => s
def Gr.run (g : Gr) (r : Nat) : Nat → Vst
  | 0 => ([r], fun _ => -1)
  | k + 1 => g.rnd (g.run r k) k
def Gr.bfs (g : Gr) (r : Nat) : Vst := g.run r g.n
def Gr.ord (g : Gr) (r : Nat) : List Nat := (g.bfs r).1
def Gr.ent (g : Gr) (r : Nat) : Nat → Int := (g.bfs r).2

theorem Gr.mem_at {g : Gr} {v i : Nat} : i ∈ g.at v ↔ i < g.m ∧ (g.f i = v ∨ g.t i = v) := by
  simp [Gr.at, Gr.atK, Gr.touch, List.mem_filter, List.mem_range]
theorem Gr.joins_oth {g : Gr} {v i : Nat} (h : g.f i = v ∨ g.t i = v) : g.joins i v (g.oth i v) := by
  unfold Gr.joins Gr.oth
  by_cases e : g.f i = v
  · rw [if_pos e]; exact .inl ⟨e, rfl⟩
  · rw [if_neg e]; exact .inr ⟨rfl, by rcases h with h | h; exact absurd h e; exact h⟩
theorem Gr.joins_comm {g : Gr} {i x y : Nat} (h : g.joins i x y) : g.joins i y x := h.elim (fun h => .inr h) (fun h => .inl h)
theorem Gr.oth_of_joins {g : Gr} {i x y : Nat} (h : g.joins i x y) (hne : x ≠ y) : g.oth i x = y := by
  unfold Gr.oth
  rcases h with ⟨a, b⟩ | ⟨a, b⟩
  · rw [if_pos a, b]
  · rw [if_neg (by omega), a]
theorem Gr.touch_of_joins {g : Gr} {i x y : Nat} (h : g.joins i x y) : g.f i = x ∨ g.t i = x := h.elim (fun h => .inl h.1) (fun h => .inr h.2)

/-- what holds of a state of the search from r -/
structure Gr.Inv (g : Gr) (r : Nat) (s : Vst) : Prop where
  head : ∃ l, s.1 = r :: l
  nodup : s.1.Nodup
  lt : ∀ x ∈ s.1, x < g.n
  ent : ∀ x ∈ s.1, x ≠ r → ∃ i : Nat, s.2 x = i ∧ i < g.m ∧ ∃ y ∈ s.1, s.1.idxOf y < s.1.idxOf x ∧ g.joins i x y
  none : ∀ x, (x ∉ s.1 ∨ x = r) → s.2 x = -1

theorem Gr.Inv.mem_r {g : Gr} {r : Nat} {s : Vst} (h : g.Inv r s) : r ∈ s.1 := by obtain ⟨l, e⟩ := h.head; rw [e]; exact List.mem_cons_self

theorem idxOf_app_mem {l : List Nat} {x a : Nat} (h : x ∈ l) : (l ++ [a]).idxOf x = l.idxOf x := by rw [List.idxOf_append, if_pos h]
theorem idxOf_app_new {l : List Nat} {a : Nat} (h : a ∉ l) : (l ++ [a]).idxOf a = l.length := by
  rw [List.idxOf_append, if_neg h]; simp

theorem Gr.Inv.vis {g : Gr} (ok : g.ok) {r v i : Nat} {s : Vst} (h : g.Inv r s) (hv : v ∈ s.1) (hi : i ∈ g.at v) : g.Inv r (g.vis v s i) := by
  unfold Gr.vis
  by_cases ho : g.oth i v ∈ s.1
  · rw [if_pos ho]; exact h
  · rw [if_neg ho]
    have hm := Gr.mem_at.1 hi
    have hj := Gr.joins_oth hm.2
    obtain ⟨l, hl⟩ := h.head
    refine ⟨⟨l ++ [g.oth i v], by simp [hl]⟩, ?_, ?_, ?_, ?_⟩
    · rw [List.nodup_append]
      refine ⟨h.nodup, by simp, fun a ha b hb => ?_⟩
      rw [List.mem_singleton] at hb
      rintro rfl
      exact ho (hb ▸ ha)
    · intro x hx
      rcases List.mem_append.1 hx with hx | hx
      · exact h.lt x hx
      · rw [List.mem_singleton.1 hx]
        have := ok i hm.1
        unfold Gr.oth; split <;> omega
    · intro x hx hxr
      rcases List.mem_append.1 hx with hx | hx
      · obtain ⟨j, h1, h2, y, hy, h3, h4⟩ := h.ent x hx hxr
        refine ⟨j, ?_, h2, y, List.mem_append.2 (.inl hy), ?_, h4⟩
        · show upd s.2 _ _ x = _
          unfold upd
          rw [if_neg (by rintro rfl; exact ho hx)]; exact h1
        · show (s.1 ++ [g.oth i v]).idxOf y < (s.1 ++ [g.oth i v]).idxOf x
          rw [idxOf_app_mem hy, idxOf_app_mem hx]; exact h3
      · rw [List.mem_singleton] at hx
        subst hx
        refine ⟨i, by show upd s.2 _ _ _ = _; unfold upd; rw [if_pos rfl], hm.1, v, List.mem_append.2 (.inl hv), ?_, Gr.joins_comm hj⟩
        show (s.1 ++ [g.oth i v]).idxOf v < (s.1 ++ [g.oth i v]).idxOf (g.oth i v)
        rw [idxOf_app_mem hv, idxOf_app_new ho]
        exact List.idxOf_lt_length_of_mem hv
    · intro x hx
      show upd s.2 _ _ x = -1
      unfold upd
      have hr : r ∈ s.1 := h.mem_r
      by_cases e : g.oth i v = x
      · subst e
        rcases hx with hx | hx
        · exact absurd (List.mem_append.2 (.inr (List.mem_singleton.2 rfl))) hx
        · exact absurd (hx ▸ hr) ho
      · rw [if_neg e]
        exact h.none x (hx.imp (fun hx hx' => hx (List.mem_append.2 (.inl hx'))) id)

theorem Gr.vis_mono {g : Gr} {v i : Nat} {s : Vst} : ∃ l, (g.vis v s i).1 = s.1 ++ l := by
  unfold Gr.vis
  split
  · exact ⟨[], by simp⟩
  · exact ⟨[_], rfl⟩
theorem Gr.visL_mono {g : Gr} {v : Nat} (l : List Nat) (s : Vst) : ∃ l', (g.visL v s l).1 = s.1 ++ l' := by
  induction l generalizing s with
  | nil => exact ⟨[], by simp [Gr.visL]⟩
  | cons i l ih =>
    obtain ⟨a, ha⟩ := Gr.vis_mono (g := g) (v := v) (i := i) (s := s)
    obtain ⟨b, hb⟩ := ih (g.vis v s i)
    exact ⟨a ++ b, by rw [show g.visL v s (i :: l) = g.visL v (g.vis v s i) l from rfl, hb, ha, List.append_assoc]⟩
theorem Gr.visL_snoc (g : Gr) (v : Nat) (s : Vst) (l : List Nat) (i : Nat) : g.visL v s (l ++ [i]) = g.vis v (g.visL v s l) i := by
  simp [Gr.visL, List.foldl_append]
theorem Gr.Inv.visL {g : Gr} (ok : g.ok) {r v : Nat} (l : List Nat) {s : Vst} (h : g.Inv r s) (hv : v ∈ s.1) (hl : ∀ i ∈ l, i ∈ g.at v) : g.Inv r (g.visL v s l) := by
  induction l generalizing s with
  | nil => exact h
  | cons i l ih =>
    refine ih (h.vis ok hv (hl i List.mem_cons_self)) ?_ fun j hj => hl j (List.mem_cons_of_mem _ hj)
    obtain ⟨a, ha⟩ := Gr.vis_mono (g := g) (v := v) (i := i) (s := s)
    rw [ha]; exact List.mem_append.2 (.inl hv)
theorem Gr.visL_has {g : Gr} {v : Nat} (l : List Nat) (s : Vst) : ∀ i ∈ l, g.oth i v ∈ (g.visL v s l).1 := by
  induction l generalizing s with
  | nil => intro i hi; cases hi
  | cons j l ih =>
    intro i hi
    rcases List.mem_cons.1 hi with rfl | hi
    · obtain ⟨a, ha⟩ := Gr.visL_mono (g := g) (v := v) l (g.vis v s i)
      show g.oth i v ∈ (g.visL v (g.vis v s i) l).1
      rw [ha]
      refine List.mem_append.2 (.inl ?_)
      unfold Gr.vis
      by_cases ho : g.oth i v ∈ s.1
      · rw [if_pos ho]; exact ho
      · rw [if_neg ho]; exact List.mem_append.2 (.inr (List.mem_singleton.2 rfl))
    · exact ih _ i hi

/-- the first k nodes of the order have been gone through -/
def Gr.Done (g : Gr) (s : Vst) (k : Nat) : Prop := ∀ j, j < k → ∀ v, s.1[j]? = some v → ∀ i ∈ g.at v, g.oth i v ∈ s.1

theorem Gr.rnd_mono {g : Gr} {s : Vst} {k : Nat} : ∃ l, (g.rnd s k).1 = s.1 ++ l := by
  unfold Gr.rnd
  split
  · exact Gr.visL_mono _ _
  · exact ⟨[], by simp⟩
theorem Gr.run_inv {g : Gr} (ok : g.ok) {r : Nat} (hr : r < g.n) (k : Nat) : g.Inv r (g.run r k) ∧ g.Done (g.run r k) k := by
  induction k with
  | zero =>
    refine ⟨⟨⟨[], rfl⟩, by simp [Gr.run], ?_, ?_, fun _ _ => rfl⟩, fun j hj => absurd hj (by omega)⟩
    · intro x hx; simp [Gr.run] at hx; omega
    · intro x hx hne; simp [Gr.run] at hx; exact absurd hx hne
  | succ k ih =>
    obtain ⟨hi, hd⟩ := ih
    have e : g.run r (k + 1) = g.rnd (g.run r k) k := rfl
    obtain ⟨l, hl⟩ := Gr.rnd_mono (g := g) (s := g.run r k) (k := k)
    rw [e]
    constructor
    · unfold Gr.rnd
      split
      · rename_i v hv
        exact hi.visL ok _ (List.mem_of_getElem? hv) fun i h => h
      · exact hi
    · intro j hj v hv i hiv
      rcases Nat.lt_or_ge j (g.run r k).1.length with hlen | hlen
      · have hv' : (g.run r k).1[j]? = some v := by rw [hl, List.getElem?_append_left hlen] at hv; exact hv
        rcases Nat.lt_or_ge j k with h' | h'
        · rw [hl]; exact List.mem_append.2 (.inl (hd j h' v hv' i hiv))
        · have : j = k := by omega
          subst this
          unfold Gr.rnd
          rw [hv']
          exact Gr.visL_has _ _ i hiv
      · have : (g.run r k).1[k]? = none := List.getElem?_eq_none (by omega)
        have e2 : g.rnd (g.run r k) k = g.run r k := by unfold Gr.rnd; rw [this]
        rw [e2] at hv
        rw [List.getElem?_eq_none (by omega)] at hv
        cases hv

theorem nodup_len {l : List Nat} {n : Nat} (h : l.Nodup) (hl : ∀ x ∈ l, x < n) : l.length ≤ n := by
  induction n generalizing l with
  | zero =>
    cases l with
    | nil => simp
    | cons a l => exact absurd (hl a List.mem_cons_self) (by omega)
  | succ n ih =>
    by_cases hn : n ∈ l
    · have := ih (l := l.erase n) (h.erase n) fun x hx => by
        have := (List.Nodup.mem_erase_iff h).1 hx
        have := hl x this.2
        omega
      rw [List.length_erase_of_mem hn] at this
      omega
    · have := ih h fun x hx => by
        have := hl x hx
        have : x ≠ n := by rintro rfl; exact hn hx
        omega
      omega
theorem Gr.run_len {g : Gr} (ok : g.ok) {r : Nat} (hr : r < g.n) (k : Nat) : (g.run r k).1.length ≤ g.n :=
  nodup_len (g.run_inv ok hr k).1.nodup (g.run_inv ok hr k).1.lt
theorem Gr.run_stop {g : Gr} {r k : Nat} (h : (g.run r k).1.length ≤ k) (j : Nat) : g.run r (k + j) = g.run r k := by
  induction j with
  | zero => rfl
  | succ j ih =>
    show g.rnd (g.run r (k + j)) (k + j) = _
    rw [ih]
    unfold Gr.rnd
    rw [List.getElem?_eq_none (by omega)]
theorem Gr.run_end {g : Gr} (ok : g.ok) {r : Nat} (hr : r < g.n) {k : Nat} (h : (g.run r k).1.length ≤ k) : g.run r k = g.bfs r := by
  unfold Gr.bfs
  rcases Nat.le_total k g.n with hk | hk
  · have := Gr.run_stop h (g.n - k)
    rw [show k + (g.n - k) = g.n by omega] at this
    exact this.symm
  · obtain ⟨j, hj⟩ : ∃ j, k = g.n + j := ⟨k - g.n, by omega⟩
    rw [hj, Gr.run_stop (g.run_len ok hr g.n)]

end Go.Proofs.Ytllblmndoigdlaa

/- plain graphs: components and the rooted forest -/
namespace Go.Proofs.Ytllblmndoigdlaa

section
variable {g : Gr} (ok : g.ok)
include ok
theorem Gr.ord_inv {r : Nat} (hr : r < g.n) : g.Inv r (g.bfs r) := (g.run_inv ok hr g.n).1
theorem Gr.ord_closed {r : Nat} (hr : r < g.n) : ∀ v ∈ g.ord r, ∀ i ∈ g.at v, g.oth i v ∈ g.ord r := by
  intro v hv i hi
  obtain ⟨j, hj, e⟩ := List.getElem_of_mem hv
  have hl := g.run_len ok hr g.n
  exact (g.run_inv ok hr g.n).2 j (Nat.lt_of_lt_of_le hj hl) v (by rw [← e]; exact List.getElem?_eq_getElem hj) i hi
theorem Gr.ord_lt {r : Nat} (hr : r < g.n) : ∀ v ∈ g.ord r, v < g.n := (Gr.ord_inv ok hr).lt
theorem Gr.ord_len {r : Nat} (hr : r < g.n) : (g.ord r).length ≤ g.n := g.run_len ok hr g.n
theorem Gr.ord_r {r : Nat} (hr : r < g.n) : r ∈ g.ord r := (Gr.ord_inv ok hr).mem_r

end

/-- a set of nodes that no pipe leaves -/
def Gr.Closed (g : Gr) (C : Nat → Prop) : Prop := ∀ i, i < g.m → (C (g.f i) ↔ C (g.t i))
theorem Gr.Closed.joins {g : Gr} {C : Nat → Prop} (h : g.Closed C) {i x y : Nat} (hi : i < g.m) (hj : g.joins i x y) : C x ↔ C y := by
  rcases hj with ⟨rfl, rfl⟩ | ⟨rfl, rfl⟩
  · exact h i hi
  · exact (h i hi).symm

theorem Gr.ord_isClosed {g : Gr} (ok : g.ok) {r : Nat} (hr : r < g.n) : g.Closed (· ∈ g.ord r) := by
  intro i hi
  have o := ok i hi
  constructor
  · intro h
    have := Gr.ord_closed ok hr _ h i (Gr.mem_at.2 ⟨hi, .inl rfl⟩)
    rwa [Gr.oth_of_joins (y := g.t i) (.inl ⟨rfl, rfl⟩) o.2.2] at this
  · intro h
    have := Gr.ord_closed ok hr _ h i (Gr.mem_at.2 ⟨hi, .inr rfl⟩)
    rwa [Gr.oth_of_joins (y := g.f i) (.inr ⟨rfl, rfl⟩) (Ne.symm o.2.2)] at this

/-- a closed set holds all visited nodes, or none; only the entries matter -/
theorem Gr.Inv.all {g : Gr} {r : Nat} {s : Vst} (h : g.Inv r s) {C : Nat → Prop} (hC : ∀ x ∈ s.1, x ≠ r → ∀ i : Nat, s.2 x = i → ∀ y, g.joins i x y → (C x ↔ C y)) :
    ∀ x ∈ s.1, (C x ↔ C r) := by
  have : ∀ k, ∀ x ∈ s.1, s.1.idxOf x = k → (C x ↔ C r) := by
    intro k
    induction k using Nat.strongRecOn with
    | _ k ih =>
      intro x hx hk
      by_cases e : x = r
      · rw [e]
      · obtain ⟨i, h1, h2, y, hy, h3, h4⟩ := h.ent x hx e
        exact (hC x hx e i h1 y h4).trans (ih _ (by omega) y hy rfl)
  exact fun x hx => this _ x hx rfl
theorem Gr.Closed.all {g : Gr} {C : Nat → Prop} (h : g.Closed C) {r : Nat} {s : Vst} (hi : g.Inv r s) : ∀ x ∈ s.1, (C x ↔ C r) :=
  hi.all fun x hx hne i h1 y hj => by
    obtain ⟨j, e1, e2, _⟩ := hi.ent x hx hne
    have : j = i := by omega
    subst this
    exact h.joins e2 hj

/-- the least node of the component of each node, as far as the first k nodes have been looked at -/
def Gr.cmp (g : Gr) : Nat → Nat → Int
  | 0 => fun _ => -1
  | k + 1 => if g.cmp k k < 0 then fun v => if v ∈ g.ord k then (k : Int) else g.cmp k v else g.cmp k
def Gr.comp (g : Gr) : Nat → Int := g.cmp g.n

structure Gr.CInv (g : Gr) (k : Nat) (c : Nat → Int) : Prop where
  low : ∀ v, v < k → 0 ≤ c v
  val : ∀ v, 0 ≤ c v → ∃ r : Nat, c v = r ∧ r < k ∧ r < g.n ∧ r ≤ v ∧ c r = r ∧ v ∈ g.ord r
  mem : ∀ r v, r < k → c r = r → v ∈ g.ord r → c v = r

theorem Gr.cmp_inv {g : Gr} (ok : g.ok) (k : Nat) (hk : k ≤ g.n) : g.CInv k (g.cmp k) := by
  induction k with
  | zero => exact ⟨fun v hv => absurd hv (by omega), fun v hv => absurd hv (by simp [Gr.cmp]), fun r v hr => absurd hr (by omega)⟩
  | succ k ih =>
    have h := ih (by omega)
    have hkn : k < g.n := by omega
    by_cases hc : g.cmp k k < 0
    · have e : g.cmp (k + 1) = fun v => if v ∈ g.ord k then (k : Int) else g.cmp k v := by simp [Gr.cmp, hc]
      have hkk : k ∈ g.ord k := Gr.ord_r ok hkn
      -- no visited node has been met
      have hnew : ∀ v ∈ g.ord k, g.cmp k v < 0 := by
        intro v hv
        by_cases hn : g.cmp k v < 0
        · exact hn
        · obtain ⟨r, h1, h2, h3, h4, h5, h6⟩ := h.val v (by omega)
          have := ((Gr.ord_isClosed ok h3).all (Gr.ord_inv ok hkn) v hv).1 h6
          have := h.mem r k h2 h5 this
          omega
      have hself : ∀ r : Nat, g.cmp k r = r → r < g.n → r ∉ g.ord k := by
        intro r hr _ hm
        have := hnew r hm
        omega
      rw [e]
      refine ⟨?_, ?_, ?_⟩
      · intro v hv
        show 0 ≤ if v ∈ g.ord k then (k : Int) else g.cmp k v
        split
        · omega
        · rename_i hvn
          have : v ≠ k := by rintro rfl; exact hvn hkk
          exact h.low v (by omega)
      · intro v hv
        replace hv : 0 ≤ if v ∈ g.ord k then (k : Int) else g.cmp k v := hv
        show ∃ r : Nat, (if v ∈ g.ord k then (k : Int) else g.cmp k v) = r ∧ r < k + 1 ∧ r < g.n ∧ r ≤ v ∧ (if r ∈ g.ord k then (k : Int) else g.cmp k r) = r ∧ v ∈ g.ord r
        by_cases hvk : v ∈ g.ord k
        · refine ⟨k, by rw [if_pos hvk], by omega, hkn, ?_, by rw [if_pos hkk], hvk⟩
          rcases Nat.lt_or_ge v k with hl | hl
          · have := h.low v hl
            have := hnew v hvk
            omega
          · exact hl
        · rw [if_neg hvk] at hv
          obtain ⟨r, h1, h2, h3, h4, h5, h6⟩ := h.val v hv
          exact ⟨r, by rw [if_neg hvk]; exact h1, by omega, h3, h4, by rw [if_neg (hself r h5 h3)]; exact h5, h6⟩
      · intro r v hr hcr hv
        show (if v ∈ g.ord k then (k : Int) else g.cmp k v) = r
        replace hcr : (if r ∈ g.ord k then (k : Int) else g.cmp k r) = r := hcr
        by_cases hrk : r ∈ g.ord k
        · rw [if_pos hrk] at hcr
          have : k = r := by omega
          subst this
          rw [if_pos hv]
        · rw [if_neg hrk] at hcr
          have hrk' : r < k := by
            have : r ≠ k := by rintro rfl; exact hrk hkk
            omega
          have hcv := h.mem r v hrk' hcr hv
          have : v ∉ g.ord k := by intro hm; have := hnew v hm; omega
          rw [if_neg this]; exact hcv
    · have e : g.cmp (k + 1) = g.cmp k := by simp [Gr.cmp, hc]
      rw [e]
      refine ⟨?_, ?_, ?_⟩
      · intro v hv
        by_cases hvk : v = k
        · subst hvk; omega
        · exact h.low v (by omega)
      · intro v hv
        obtain ⟨r, h1, h2, h3⟩ := h.val v hv
        exact ⟨r, h1, by omega, h3⟩
      · intro r v hr hcr hv
        have : r ≠ k := by
          rintro rfl
          obtain ⟨q, h1, h2, _⟩ := h.val r (by omega)
          omega
        exact h.mem r v (by omega) hcr hv

/-- the root of a node's component -/
def Gr.root (g : Gr) (v : Nat) : Nat := (g.comp v).toNat

section
variable {g : Gr} (ok : g.ok)
include ok
theorem Gr.comp_root {v : Nat} (hv : v < g.n) : g.comp v = g.root v := by
  have := (Gr.cmp_inv ok g.n (Nat.le_refl _)).low v hv
  unfold Gr.root Gr.comp; omega
theorem Gr.root_facts {v : Nat} (hv : v < g.n) : g.root v < g.n ∧ g.root v ≤ v ∧ g.root (g.root v) = g.root v ∧ v ∈ g.ord (g.root v) := by
  have hc := Gr.comp_root ok hv
  obtain ⟨r, h1, h2, h3, h4, h5, h6⟩ := (Gr.cmp_inv ok g.n (Nat.le_refl _)).val v (by unfold Gr.comp at hc; rw [hc]; omega)
  have e : g.root v = r := by unfold Gr.root Gr.comp; omega
  rw [e]
  refine ⟨h3, h4, ?_, h6⟩
  unfold Gr.root Gr.comp; omega
theorem Gr.root_of_mem {r v : Nat} (hr : r < g.n) (hrr : g.root r = r) (hv : v ∈ g.ord r) : g.root v = r := by
  have := (Gr.cmp_inv ok g.n (Nat.le_refl _)).mem r v hr (by have := Gr.comp_root ok hr; unfold Gr.comp at this; rw [this, hrr]) hv
  unfold Gr.root Gr.comp; omega
theorem Gr.root_pipe {i : Nat} (hi : i < g.m) : g.root (g.f i) = g.root (g.t i) := by
  have o := ok i hi
  have h := Gr.root_facts ok o.1
  have hm := ((Gr.ord_isClosed ok h.1) i hi).1 h.2.2.2
  exact (Gr.root_of_mem ok h.1 h.2.2.1 hm).symm
theorem Gr.root_joins {i x y : Nat} (hi : i < g.m) (hj : g.joins i x y) : g.root x = g.root y := by
  rcases hj with ⟨rfl, rfl⟩ | ⟨rfl, rfl⟩
  · exact Gr.root_pipe ok hi
  · exact (Gr.root_pipe ok hi).symm

end

/-- the entry of a node in the forest; its rank -/
def Gr.fe (g : Gr) (v : Nat) : Int := g.ent (g.root v) v
def Gr.rank (g : Gr) (v : Nat) : Nat := (g.ord (g.root v)).idxOf v
/-- is a pipe in the forest -/
def Gr.F (g : Gr) (i : Nat) : Prop := ∃ v, v < g.n ∧ g.fe v = i

section
variable {g : Gr} (ok : g.ok)
include ok
theorem Gr.fe_root {v : Nat} (hv : v < g.n) (h : g.root v = v) : g.fe v = -1 := by
  unfold Gr.fe
  rw [h]
  exact (Gr.ord_inv ok hv).none v (.inr rfl)
theorem Gr.fe_some {v : Nat} (hv : v < g.n) (h : g.root v ≠ v) : ∃ i y : Nat, g.fe v = i ∧ i < g.m ∧ y < g.n ∧ g.joins i v y ∧ g.root y = g.root v ∧ g.rank y < g.rank v := by
  obtain ⟨h1, h2, h3, h4⟩ := Gr.root_facts ok hv
  obtain ⟨i, e1, e2, y, hy, e3, e4⟩ := (Gr.ord_inv ok h1).ent v h4 (Ne.symm h)
  have hyr : g.root y = g.root v := Gr.root_of_mem ok h1 h3 hy
  refine ⟨i, y, e1, e2, Gr.ord_lt ok h1 y hy, e4, hyr, ?_⟩
  unfold Gr.rank
  rw [hyr]; exact e3
theorem Gr.F_facts {i : Nat} (h : g.F i) : ∃ v y : Nat, v < g.n ∧ y < g.n ∧ g.root v ≠ v ∧ g.fe v = i ∧ i < g.m ∧ g.joins i v y ∧ g.root y = g.root v ∧ g.rank y < g.rank v := by
  obtain ⟨v, hv, e⟩ := h
  have hne : g.root v ≠ v := by intro h'; have := Gr.fe_root ok hv h'; omega
  obtain ⟨j, y, e1, e2, e3, e4, e5, e6⟩ := Gr.fe_some ok hv hne
  have : j = i := by omega
  subst this
  exact ⟨v, y, hv, e3, hne, e, e2, e4, e5, e6⟩
theorem Gr.fe_inj {v v' : Nat} (hv : v < g.n) (hv' : v' < g.n) (h : g.root v ≠ v) (e : g.fe v = g.fe v') : v = v' := by
  have h' : g.root v' ≠ v' := by
    intro h'
    obtain ⟨i, y, e1, _⟩ := Gr.fe_some ok hv h
    have := Gr.fe_root ok hv' h'
    omega
  obtain ⟨i, y, a1, a2, a3, a4, a5, a6⟩ := Gr.fe_some ok hv h
  obtain ⟨i', y', b1, b2, b3, b4, b5, b6⟩ := Gr.fe_some ok hv' h'
  have : i = i' := by omega
  subst this
  rcases a4 with ⟨p, q⟩ | ⟨p, q⟩ <;> rcases b4 with ⟨p', q'⟩ | ⟨p', q'⟩
  · omega
  · have e1 : v = y' := by omega
    have e2 : y = v' := by omega
    rw [e1] at a6; rw [e2] at a6; omega
  · have e1 : v = y' := by omega
    have e2 : y = v' := by omega
    rw [e1] at a6; rw [e2] at a6; omega
  · omega
theorem Gr.rank_lt {v : Nat} (hv : v < g.n) : g.rank v < g.n := by
  obtain ⟨h1, h2, h3, h4⟩ := Gr.root_facts ok hv
  exact Nat.lt_of_lt_of_le (List.idxOf_lt_length_of_mem h4) (Gr.ord_len ok h1)

end
end Go.Proofs.Ytllblmndoigdlaa

/- plain graphs: what flows out; flows through the forest are unique -/
namespace Go.Proofs.Ytllblmndoigdlaa

theorem sumTo_zero {f : Nat → Int} {k : Nat} (h : ∀ j, j < k → f j = 0) : sumTo f k = 0 := by
  induction k with
  | zero => rfl
  | succ k ih => rw [sumTo_succ, ih fun j hj => h j (by omega), h k (by omega)]; rfl
theorem sumTo_one {f : Nat → Int} {k i : Nat} (hi : i < k) (h : ∀ j, j < k → j ≠ i → f j = 0) : sumTo f k = f i := by
  induction k with
  | zero => omega
  | succ k ih =>
    rw [sumTo_succ]
    by_cases e : i = k
    · subst e
      rw [sumTo_zero fun j hj => h j (by omega) (by omega)]; omega
    · rw [ih (by omega) fun j hj hne => h j (by omega) hne, h k (by omega) (Ne.symm e)]; omega
theorem sumTo_add (f g : Nat → Int) (k : Nat) : sumTo (fun j => f j + g j) k = sumTo f k + sumTo g k := by
  induction k with
  | zero => rfl
  | succ k ih => rw [sumTo_succ, sumTo_succ, sumTo_succ, ih]; omega
theorem sumTo_sub (f g : Nat → Int) (k : Nat) : sumTo (fun j => f j - g j) k = sumTo f k - sumTo g k := by
  induction k with
  | zero => rfl
  | succ k ih => rw [sumTo_succ, sumTo_succ, sumTo_succ, ih]; omega
theorem sumTo_mul (c : Int) (f : Nat → Int) (k : Nat) : sumTo (fun j => c * f j) k = c * sumTo f k := by
  induction k with
  | zero => simp [sumTo]
  | succ k ih => rw [sumTo_succ, sumTo_succ, ih, Int.mul_add]
theorem sumTo_swap (f : Nat → Nat → Int) (k l : Nat) : sumTo (fun v => sumTo (fun j => f v j) l) k = sumTo (fun j => sumTo (fun v => f v j) k) l := by
  induction k with
  | zero => exact (sumTo_zero fun j _ => rfl).symm
  | succ k ih => rw [sumTo_succ, ih, ← sumTo_add]; rfl

def Gr.trm (g : Gr) (h : Nat → Int) (v j : Nat) : Int := (if g.f j = v then h j else 0) - (if g.t j = v then h j else 0)
def Gr.out (g : Gr) (h : Nat → Int) (v : Nat) : Int := sumTo (g.trm h v) g.m

theorem Gr.trm_far {g : Gr} {h : Nat → Int} {v j : Nat} (a : g.f j ≠ v) (b : g.t j ≠ v) : g.trm h v j = 0 := by unfold Gr.trm; rw [if_neg a, if_neg b]; rfl
theorem Gr.trm_zero {g : Gr} {h : Nat → Int} {v j : Nat} (a : h j = 0) : g.trm h v j = 0 := by unfold Gr.trm; rw [a]; simp
theorem Gr.out_congr {g : Gr} {h h' : Nat → Int} (e : ∀ i, i < g.m → h i = h' i) (v : Nat) : g.out h v = g.out h' v :=
  sumTo_congr fun j hj => by unfold Gr.trm; rw [e j hj]
theorem Gr.out_add (g : Gr) (h h' : Nat → Int) (v : Nat) : g.out (fun i => h i + h' i) v = g.out h v + g.out h' v := by
  unfold Gr.out
  rw [← sumTo_add]
  exact sumTo_congr fun j _ => by unfold Gr.trm; by_cases a : g.f j = v <;> by_cases b : g.t j = v <;> simp [a, b] <;> omega
theorem Gr.out_sub (g : Gr) (h h' : Nat → Int) (v : Nat) : g.out (fun i => h i - h' i) v = g.out h v - g.out h' v := by
  unfold Gr.out
  rw [← sumTo_sub]
  exact sumTo_congr fun j _ => by unfold Gr.trm; by_cases a : g.f j = v <;> by_cases b : g.t j = v <;> simp [a, b] <;> omega
theorem Gr.out_mul (g : Gr) (c : Int) (h : Nat → Int) (v : Nat) : g.out (fun i => c * h i) v = c * g.out h v := by
  unfold Gr.out
  rw [← sumTo_mul]
  exact sumTo_congr fun j _ => by
    unfold Gr.trm
    by_cases a : g.f j = v <;> by_cases b : g.t j = v <;> simp [a, b]
    rw [Int.mul_neg]
theorem Gr.out_nil (g : Gr) (v : Nat) : g.out (fun _ => 0) v = 0 := sumTo_zero fun _ _ => Gr.trm_zero rfl
theorem Gr.out_upd (g : Gr) (h : Nat → Int) {e : Nat} (he : e < g.m) (z : Int) (v : Nat) :
    g.out (upd h e z) v = g.out h v + ((if g.f e = v then z - h e else 0) - (if g.t e = v then z - h e else 0)) := by
  have h1 : g.out (fun i => upd h e z i - h i) v = (if g.f e = v then z - h e else 0) - (if g.t e = v then z - h e else 0) := by
    unfold Gr.out
    rw [sumTo_one he fun j hj hne => Gr.trm_zero (by unfold upd; rw [if_neg (Ne.symm hne)]; omega)]
    unfold Gr.trm upd
    simp
  rw [Gr.out_sub] at h1
  omega

/-- a flow through the forest that leaves nothing at the nodes that are no roots is 0 -/
theorem Gr.uniq {g : Gr} (ok : g.ok) {h : Nat → Int} (hF : ∀ i, i < g.m → ¬ g.F i → h i = 0) (h0 : ∀ v, v < g.n → g.root v ≠ v → g.out h v = 0) : ∀ i, i < g.m → h i = 0 := by
  have key : ∀ k, ∀ v, v < g.n → g.root v ≠ v → g.n - g.rank v ≤ k → ∀ e : Nat, g.fe v = e → h e = 0 := by
    intro k
    induction k with
    | zero => intro v hv _ hk; have := Gr.rank_lt ok hv; omega
    | succ k ih =>
      intro v hv hne hk e he
      obtain ⟨i, y, e1, e2, e3, e4, e5, e6⟩ := Gr.fe_some ok hv hne
      have : i = e := by omega
      subst this
      have hs : g.out h v = g.trm h v i := by
        unfold Gr.out
        refine sumTo_one e2 fun j hj hji => ?_
        by_cases hFj : g.F j
        · by_cases ht : g.f j = v ∨ g.t j = v
          · obtain ⟨u, z, a1, a2, a3, a4, a5, a6, a7, a8⟩ := Gr.F_facts ok hFj
            have : v = u ∨ v = z := by
              rcases a6 with ⟨p, q⟩ | ⟨p, q⟩ <;> omega
            rcases this with rfl | rfl
            · omega
            · exact Gr.trm_zero (ih u a1 a3 (by have := Gr.rank_lt ok a1; omega) j a4)
          · exact Gr.trm_far (fun h => ht (.inl h)) (fun h => ht (.inr h))
        · exact Gr.trm_zero (hF j hj hFj)
      rw [h0 v hv hne] at hs
      have o := ok i e2
      unfold Gr.trm at hs
      rcases e4 with ⟨p, q⟩ | ⟨p, q⟩
      · rw [if_pos p, if_neg (by omega)] at hs; omega
      · rw [if_neg (by omega), if_pos q] at hs; omega
  intro i hi
  by_cases hFi : g.F i
  · obtain ⟨v, y, a1, a2, a3, a4, _⟩ := Gr.F_facts ok hFi
    exact key _ v a1 a3 (Nat.le_refl _) i a4
  · exact hF i hi hFi
theorem Gr.uniq2 {g : Gr} (ok : g.ok) {h h' : Nat → Int} (hF : ∀ i, i < g.m → ¬ g.F i → h i = h' i) (h0 : ∀ v, v < g.n → g.root v ≠ v → g.out h v = g.out h' v) : ∀ i, i < g.m → h i = h' i := by
  intro i hi
  have := Gr.uniq ok (h := fun i => h i - h' i) (fun i hi hn => by have := hF i hi hn; show h i - h' i = 0; omega) (fun v hv hne => by rw [Gr.out_sub, h0 v hv hne]; omega) i hi
  have : h i - h' i = 0 := this
  omega

/-! ### flows through the forest -/
structure Gr.FF (g : Gr) (sup fl : Nat → Int) : Prop where
  supp : ∀ i, i < g.m → ¬ g.F i → fl i = 0
  bal : ∀ v, v < g.n → g.root v ≠ v → g.out fl v = sup v
theorem Gr.FF.uniq {g : Gr} (ok : g.ok) {sup fl fl' : Nat → Int} (h : g.FF sup fl) (h' : g.FF sup fl') : ∀ i, i < g.m → fl i = fl' i :=
  Gr.uniq2 ok (fun i hi hn => by rw [h.supp i hi hn, h'.supp i hi hn]) (fun v hv hne => by rw [h.bal v hv hne, h'.bal v hv hne])

structure Gr.FInv (g : Gr) (sup : Nat → Int) (done : Nat → Prop) (fl left : Nat → Int) : Prop where
  supp : ∀ e, fl e ≠ 0 → ∃ v, v < g.n ∧ done v ∧ g.fe v = e
  yes : ∀ v, v < g.n → done v → g.out fl v = sup v
  no : ∀ v, v < g.n → ¬ done v → g.out fl v + left v = sup v

theorem Gr.FInv.start (g : Gr) (sup : Nat → Int) : g.FInv sup (fun _ => False) (fun _ => 0) sup :=
  ⟨fun e h => absurd rfl h, fun v _ h => h.elim, fun v _ _ => by rw [Gr.out_nil]; omega⟩
theorem Gr.FInv.step {g : Gr} (ok : g.ok) {sup : Nat → Int} {done done' : Nat → Prop} {fl fl' left left' : Nat → Int} (h : g.FInv sup done fl left)
    {v e y : Nat} (hv : v < g.n) (hne : g.root v ≠ v) (he : g.fe v = e) (hj : g.joins e v y) (hy : y < g.n) (dv : ¬ done v) (dy : ¬ done y)
    (hd : ∀ x, done' x ↔ (done x ∨ x = v)) (hfl : fl' = upd fl e (if g.f e = v then left v else -left v))
    (hl1 : left' y = left y + left v) (hl2 : ∀ x, x < g.n → x ≠ y → x ≠ v → left' x = left x) : g.FInv sup done' fl' left' := by
  obtain ⟨i, _, e1, em, _⟩ := Gr.fe_some ok hv hne
  have : i = e := by omega
  subst this
  have o := ok i em
  have hfe : fl i = 0 := by
    by_cases h0 : fl i = 0
    · exact h0
    · obtain ⟨v', a1, a2, a3⟩ := h.supp i h0
      have := Gr.fe_inj ok hv a1 hne (by omega)
      subst this
      exact absurd a2 dv
  have hout : ∀ x, g.out fl' x = g.out fl x + ((if v = x then left v else 0) - (if y = x then left v else 0)) := by
    intro x
    rw [hfl, Gr.out_upd g fl em, hfe]
    rcases hj with ⟨p, q⟩ | ⟨p, q⟩
    · subst p; subst q; simp
    · have : g.f i ≠ v := by omega
      rw [if_neg this, p, q]
      by_cases a : y = x <;> by_cases b : v = x <;> simp [a, b] <;> omega
  have hvy : v ≠ y := by rcases hj with ⟨p, q⟩ | ⟨p, q⟩ <;> omega
  refine ⟨?_, ?_, ?_⟩
  · intro e' h'
    by_cases c : i = e'
    · subst c; exact ⟨v, hv, (hd v).2 (.inr rfl), he⟩
    · have : fl' e' = fl e' := by rw [hfl]; unfold upd; rw [if_neg c]
      rw [this] at h'
      obtain ⟨u, a1, a2, a3⟩ := h.supp e' h'
      exact ⟨u, a1, (hd u).2 (.inl a2), a3⟩
  · intro x hx dx
    rw [hout x]
    rcases (hd x).1 dx with dx | rfl
    · have h1 : v ≠ x := by rintro rfl; exact dv dx
      have h2 : y ≠ x := by rintro rfl; exact dy dx
      rw [if_neg h1, if_neg h2, h.yes x hx dx]; omega
    · rw [if_pos rfl, if_neg (Ne.symm hvy)]
      have := h.no x hx dv
      omega
  · intro x hx dx
    have h1 : x ≠ v := fun e => dx ((hd x).2 (.inr e))
    have h2 : ¬ done x := fun e => dx ((hd x).2 (.inl e))
    rw [hout x, if_neg (Ne.symm h1)]
    have := h.no x hx h2
    by_cases c : y = x
    · subst c; rw [if_pos rfl, hl1]; omega
    · rw [if_neg c, hl2 x hx (Ne.symm c) h1]; omega
theorem Gr.FInv.ff {g : Gr} {sup : Nat → Int} {done : Nat → Prop} {fl left : Nat → Int} (h : g.FInv sup done fl left) (hd : ∀ v, v < g.n → g.root v ≠ v → done v) : g.FF sup fl :=
  ⟨fun i _ hn => by
    by_cases h0 : fl i = 0
    · exact h0
    · obtain ⟨v, a1, _, a3⟩ := h.supp i h0
      exact absurd ⟨v, a1, a3⟩ hn, fun v hv hne => h.yes v hv (hd v hv hne)⟩

/-! ### supplies that are even over each component -/
def Gr.sums (g : Gr) (sup : Nat → Int) (c : Nat) : Int := sumTo (fun v => if g.root v = c then sup v else 0) g.n
def Gr.even (g : Gr) (sup : Nat → Int) : Prop := ∀ c, c < g.n → g.sums sup c = 0
theorem Gr.sums_out {g : Gr} (ok : g.ok) (h : Nat → Int) (c : Nat) : g.sums (g.out h) c = 0 := by
  have e : g.sums (g.out h) c = sumTo (fun v => sumTo (fun j => if g.root v = c then g.trm h v j else 0) g.m) g.n := by
    unfold Gr.sums
    refine sumTo_congr fun v _ => ?_
    by_cases a : g.root v = c
    · rw [if_pos a]; exact sumTo_congr fun j _ => by rw [if_pos a]
    · rw [if_neg a]; exact (sumTo_zero fun j _ => by rw [if_neg a]).symm
  rw [e, sumTo_swap]
  refine sumTo_zero fun j hj => ?_
  have o := ok j hj
  have hr := Gr.root_pipe ok hj
  have e2 : sumTo (fun v => if g.root v = c then g.trm h v j else 0) g.n = sumTo (fun v => (if v = g.f j then (if g.root (g.f j) = c then h j else 0) else 0) - (if v = g.t j then (if g.root (g.t j) = c then h j else 0) else 0)) g.n := by
    refine sumTo_congr fun v _ => ?_
    unfold Gr.trm
    by_cases a : g.f j = v
    · subst a
      have hne := Ne.symm o.2.2
      simp [hne, o.2.2]
    · by_cases b : g.t j = v
      · subst b
        have hne := Ne.symm a
        simp [a, hne]
        split <;> simp
      · have ha := Ne.symm a
        have hb := Ne.symm b
        simp [a, b, ha, hb]
  rw [e2, sumTo_sub, sumTo_one o.1 fun v _ hv => if_neg hv, sumTo_one o.2.1 fun v _ hv => if_neg hv, if_pos rfl, if_pos rfl, hr]
  omega
theorem Gr.sums_congr {g : Gr} {a b : Nat → Int} (h : ∀ v, v < g.n → a v = b v) (c : Nat) : g.sums a c = g.sums b c := sumTo_congr fun v hv => by rw [h v hv]
/-- even supplies are balanced at the roots, too -/
theorem Gr.FF.even {g : Gr} (ok : g.ok) {sup fl : Nat → Int} (h : g.FF sup fl) (he : g.even sup) : ∀ v, v < g.n → g.out fl v = sup v := by
  intro v hv
  by_cases hr : g.root v = v
  · have h1 := he v hv
    have h2 := Gr.sums_out ok fl v
    have h3 : g.sums (fun x => sup x - g.out fl x) v = sup v - g.out fl v := by
      unfold Gr.sums
      rw [sumTo_one hv fun u hu hne => ?_]
      · rw [if_pos hr]
      · by_cases a : g.root u = v
        · rw [if_pos a]; show sup u - g.out fl u = 0; rw [h.bal u hu (by omega)]; omega
        · rw [if_neg a]
    have h4 : g.sums (fun x => sup x - g.out fl x) v = g.sums sup v - g.sums (g.out fl) v := by
      unfold Gr.sums
      rw [← sumTo_sub]
      exact sumTo_congr fun u _ => by
        by_cases a : g.root u = v
        · simp [a]
        · simp [a]
    omega
  · exact h.bal v hv hr
theorem Gr.even_of_out {g : Gr} (ok : g.ok) {sup fl : Nat → Int} (h : ∀ v, v < g.n → g.out fl v = sup v) : g.even sup :=
  fun c _ => by rw [← Gr.sums_congr h c]; exact Gr.sums_out ok fl c

end Go.Proofs.Ytllblmndoigdlaa

/- plain graphs: the tree of a graph, paths, cycles -/
namespace Go.Proofs.Ytllblmndoigdlaa

def Gr.Fb (g : Gr) (i : Nat) : Bool := (List.range g.n).any fun v => decide (g.fe v = (i : Int))
theorem Gr.Fb_iff {g : Gr} {i : Nat} : g.Fb i = true ↔ g.F i := by simp [Gr.Fb, Gr.F, List.any_eq_true, List.mem_range]
/-- the pipes of the forest among the first k -/
def Gr.forK (g : Gr) (k : Nat) : List Nat := (List.range k).filter g.Fb
def Gr.forest (g : Gr) : List Nat := g.forK g.m
/-- the chords among the first k -/
def Gr.choK (g : Gr) (k : Nat) : List Nat := (List.range k).filter fun i => !g.Fb i
def Gr.chords (g : Gr) : List Nat := g.choK g.m
theorem Gr.mem_forest {g : Gr} {i : Nat} : i ∈ g.forest ↔ i < g.m ∧ g.F i := by
  simp [Gr.forest, Gr.forK, List.mem_filter, List.mem_range, Gr.Fb_iff]
theorem Gr.mem_chords {g : Gr} {i : Nat} : i ∈ g.chords ↔ i < g.m ∧ ¬ g.F i := by
  simp only [Gr.chords, Gr.choK, List.mem_filter, List.mem_range, ← Gr.Fb_iff]
  simp
theorem Gr.forest_nodup (g : Gr) : g.forest.Nodup := List.Pairwise.filter _ List.nodup_range
theorem nodup_inj {l : List Nat} (h : l.Nodup) {i j : Nat} (hi : i < l.length) (hj : j < l.length) (e : l[i] = l[j]) : i = j := by
  have a := List.Nodup.idxOf_getElem h i hi
  have b := List.Nodup.idxOf_getElem h j hj
  rw [e] at a
  omega
def Gr.idx (g : Gr) (k : Nat) : Nat := g.forest.getD k g.m
def Gr.tree (g : Gr) : Gr := ⟨g.n, g.forest.length, fun k => g.f (g.idx k), fun k => g.t (g.idx k)⟩
theorem Gr.idx_lt {g : Gr} {k : Nat} (h : k < g.forest.length) : g.idx k = g.forest[k] := by
  unfold Gr.idx; rw [List.getD_eq_getElem?_getD, List.getElem?_eq_getElem h]; rfl
theorem Gr.idx_mem {g : Gr} {k : Nat} (h : k < g.forest.length) : g.idx k < g.m ∧ g.F (g.idx k) := by
  rw [Gr.idx_lt h]; exact Gr.mem_forest.1 (List.getElem_mem h)
theorem Gr.idx_inj {g : Gr} {j k : Nat} (hj : j < g.forest.length) (hk : k < g.forest.length) (e : g.idx j = g.idx k) : j = k := by
  rw [Gr.idx_lt hj, Gr.idx_lt hk] at e
  exact nodup_inj g.forest_nodup hj hk e
theorem Gr.tree_ok {g : Gr} (ok : g.ok) : g.tree.ok := fun _ hk => ok _ (Gr.idx_mem hk).1

/-- a set that no pipe of the forest leaves holds a node with its root -/
theorem Gr.forest_all {g : Gr} (ok : g.ok) {C : Nat → Prop} (h : ∀ e, g.F e → (C (g.f e) ↔ C (g.t e))) {v : Nat} (hv : v < g.n) : C v ↔ C (g.root v) := by
  obtain ⟨h1, h2, h3, h4⟩ := Gr.root_facts ok hv
  refine (Gr.ord_inv ok h1).all (C := C) (fun x hx hne i hi y hj => ?_) v h4
  have hr : g.root x = g.root v := Gr.root_of_mem ok h1 h3 hx
  have hF : g.F i := ⟨x, Gr.ord_lt ok h1 x hx, by unfold Gr.fe; rw [hr]; exact hi⟩
  rcases hj with ⟨rfl, rfl⟩ | ⟨rfl, rfl⟩
  · exact h i hF
  · exact (h i hF).symm
theorem Gr.tree_reach {g : Gr} (ok : g.ok) {a b : Nat} (ha : a < g.n) (hb : b < g.n) (hr : g.root a = g.root b) : b ∈ g.tree.ord a := by
  have hc := Gr.ord_isClosed (Gr.tree_ok ok) (r := a) ha
  have hF : ∀ e, g.F e → (g.f e ∈ g.tree.ord a ↔ g.t e ∈ g.tree.ord a) := by
    intro e he
    obtain ⟨_, _, _, _, _, _, em, _⟩ := Gr.F_facts ok he
    obtain ⟨k, hk, e1⟩ := List.getElem_of_mem (Gr.mem_forest.2 ⟨em, he⟩)
    have := hc k hk
    show _ ↔ _
    have e2 : g.idx k = e := by rw [Gr.idx_lt hk, e1]
    simpa [Gr.tree, e2] using this
  have h1 := Gr.forest_all ok (C := (· ∈ g.tree.ord a)) hF ha
  have h2 := Gr.forest_all ok (C := (· ∈ g.tree.ord a)) hF hb
  rw [← hr] at h2
  exact h2.2 (h1.1 (Gr.ord_r (Gr.tree_ok ok) ha))

/-- pipes that lead from a to b -/
def Gr.chain (g : Gr) : Nat → List Nat → Nat → Prop
  | a, [], b => a = b
  | a, i :: l, b => i < g.m ∧ (g.f i = a ∨ g.t i = a) ∧ g.chain (g.oth i a) l b
structure Gr.Path (g : Gr) (a : Nat) (l : List Nat) (b : Nat) : Prop where
  chain : g.chain a l b
  nodup : l.Nodup
/-- the way back from b has come to x -/
structure Gr.Back (g : Gr) (a x : Nat) (l : List Nat) (b : Nat) : Prop where
  mem : x ∈ g.ord a
  chain : g.chain x l b
  nodup : l.Nodup
  later : ∀ i ∈ l, ∃ y ∈ g.ord a, y ≠ a ∧ (g.ord a).idxOf x < (g.ord a).idxOf y ∧ g.ent a y = (i : Nat)
theorem Gr.idxOf_r {g : Gr} (ok : g.ok) {a : Nat} (ha : a < g.n) : (g.ord a).idxOf a = 0 := by
  obtain ⟨l, hl⟩ := (Gr.ord_inv ok ha).head
  rw [show g.ord a = a :: l from hl]; simp
theorem Gr.idxOf_pos {g : Gr} (ok : g.ok) {a x : Nat} (ha : a < g.n) (hne : x ≠ a) : 0 < (g.ord a).idxOf x := by
  obtain ⟨l, hl⟩ := (Gr.ord_inv ok ha).head
  have e : (a == x) = false := by simp; omega
  rw [show g.ord a = a :: l from hl, List.idxOf_cons, e]
  exact Nat.succ_pos _
theorem Gr.Back.start {g : Gr} {a b : Nat} (hb : b ∈ g.ord a) : g.Back a b [] b := ⟨hb, rfl, List.nodup_nil, fun i hi => by cases hi⟩
/-- one step back -/
theorem Gr.Back.step {g : Gr} (ok : g.ok) {a x b : Nat} {l : List Nat} (ha : a < g.n) (h : g.Back a x l b) (hne : x ≠ a) :
    ∃ i : Nat, g.ent a x = i ∧ i < g.m ∧ (g.f i = x ∨ g.t i = x) ∧ g.Back a (g.oth i x) (i :: l) b ∧ (g.ord a).idxOf (g.oth i x) < (g.ord a).idxOf x := by
  obtain ⟨i, h1, h2, y, hy, h3, h4⟩ := (Gr.ord_inv ok ha).ent x h.mem hne
  have hxy : x ≠ y := by rintro rfl; omega
  have ho := Gr.oth_of_joins h4 hxy
  have ho' := Gr.oth_of_joins (Gr.joins_comm h4) (Ne.symm hxy)
  refine ⟨i, h1, h2, Gr.touch_of_joins h4, ⟨?_, ?_, ?_, ?_⟩, by rw [ho]; exact h3⟩
  · rw [ho]; exact hy
  · rw [ho]
    exact ⟨h2, Gr.touch_of_joins (Gr.joins_comm h4), by rw [ho']; exact h.chain⟩
  · refine List.nodup_cons.2 ⟨fun hm => ?_, h.nodup⟩
    obtain ⟨z, z1, z2, z3, z4⟩ := h.later i hm
    -- the entries of x and z are one
    obtain ⟨i', k1, k2, y', k3, k4, k5⟩ := (Gr.ord_inv ok ha).ent z z1 z2
    have : i' = i := by
      have : g.ent a z = (i' : Int) := k1
      omega
    subst this
    have k4' : (g.ord a).idxOf y' < (g.ord a).idxOf z := k4
    have h3' : (g.ord a).idxOf y < (g.ord a).idxOf x := h3
    rcases h4 with ⟨p, q⟩ | ⟨p, q⟩ <;> rcases k5 with ⟨p', q'⟩ | ⟨p', q'⟩
    · have e1 : x = z := by omega
      rw [e1] at z3; omega
    · have e1 : z = y := by omega
      rw [e1] at z3; omega
    · have e1 : z = y := by omega
      rw [e1] at z3; omega
    · have e1 : x = z := by omega
      rw [e1] at z3; omega
  · intro j hj
    rcases List.mem_cons.1 hj with rfl | hj
    · exact ⟨x, h.mem, hne, by rw [ho]; exact h3, h1⟩
    · obtain ⟨z, z1, z2, z3, z4⟩ := h.later j hj
      refine ⟨z, z1, z2, ?_, z4⟩
      rw [ho]
      have h3' : (g.ord a).idxOf y < (g.ord a).idxOf x := h3
      omega
theorem Gr.Back.path {g : Gr} {a b : Nat} {l : List Nat} (h : g.Back a a l b) : g.Path a l b := ⟨h.chain, h.nodup⟩
theorem Gr.path_ex {g : Gr} (ok : g.ok) {a b : Nat} (ha : a < g.n) (hb : b ∈ g.ord a) : ∃ l, g.Path a l b := by
  have : ∀ k x l, (g.ord a).idxOf x ≤ k → g.Back a x l b → ∃ l, g.Path a l b := by
    intro k
    induction k with
    | zero =>
      intro x l hk h
      by_cases e : x = a
      · subst e; exact ⟨l, h.path⟩
      · have := Gr.idxOf_pos ok ha e; omega
    | succ k ih =>
      intro x l hk h
      by_cases e : x = a
      · subst e; exact ⟨l, h.path⟩
      · obtain ⟨i, _, _, _, h2, h3⟩ := h.step ok ha e
        exact ih _ _ (by omega) h2
  exact this _ b [] (Nat.le_refl _) (Gr.Back.start hb)

/-! ### cycles -/
/-- one step of the reference along a path in the tree -/
def Gr.pst (g : Gr) (s : Nat × (Nat → Int)) (i : Nat) : Nat × (Nat → Int) := (g.tree.oth i s.1, upd s.2 (g.idx i) (if g.tree.f i = s.1 then 1 else -1))
def Gr.psts (g : Gr) (s : Nat × (Nat → Int)) (l : List Nat) : Nat × (Nat → Int) := l.foldl g.pst s
theorem Gr.psts_snoc (g : Gr) (s : Nat × (Nat → Int)) (l : List Nat) (i : Nat) : g.psts s (l ++ [i]) = g.pst (g.psts s l) i := by simp [Gr.psts, List.foldl_append]
structure Gr.CC (g : Gr) (c : Nat) (h : Nat → Int) : Prop where
  one : h c = 1
  supp : ∀ i, i < g.m → ¬ g.F i → i ≠ c → h i = 0
  bal : ∀ v, v < g.n → g.root v ≠ v → g.out h v = 0
theorem Gr.CC.uniq {g : Gr} (ok : g.ok) {c : Nat} {h h' : Nat → Int} (a : g.CC c h) (b : g.CC c h') : ∀ i, i < g.m → h i = h' i :=
  Gr.uniq2 ok (fun i hi hn => by
    by_cases e : i = c
    · rw [e, a.one, b.one]
    · rw [a.supp i hi hn e, b.supp i hi hn e]) (fun v hv hne => by rw [a.bal v hv hne, b.bal v hv hne])
def unit (z : Int) : Prop := z = -1 ∨ z = 0 ∨ z = 1
theorem Gr.psts_facts {g : Gr} (ok : g.ok) (b : Nat) (l : List Nat) : ∀ (a : Nat) (h : Nat → Int), g.tree.chain a l b → l.Nodup → (∀ i ∈ l, h (g.idx i) = 0) → (∀ e, unit (h e)) →
    (∀ e, unit ((g.psts (a, h) l).2 e)) ∧ (∀ e, ¬ g.F e → (g.psts (a, h) l).2 e = h e) ∧ ∀ v, g.out (g.psts (a, h) l).2 v = g.out h v + ((if a = v then 1 else 0) - (if b = v then 1 else 0)) := by
  induction l with
  | nil =>
    intro a h hc _ _ hu
    have : a = b := hc
    subst this
    refine ⟨hu, fun _ _ => rfl, fun v => ?_⟩
    show g.out h v = _
    omega
  | cons i l ih =>
    intro a h hc hn h0 hu
    obtain ⟨hi, ht, hc'⟩ := hc
    obtain ⟨hni, hnl⟩ := List.nodup_cons.1 hn
    have him := Gr.idx_mem hi
    have hlt : ∀ j ∈ l, j < g.forest.length := by
      have : ∀ (l : List Nat) (a : Nat), g.tree.chain a l b → ∀ j ∈ l, j < g.forest.length := by
        intro l
        induction l with
        | nil => intro a _ j hj; cases hj
        | cons k l ihl =>
          intro a hc j hj
          rcases List.mem_cons.1 hj with rfl | hj
          · exact hc.1
          · exact ihl _ hc.2.2 j hj
      exact this l _ hc'
    obtain ⟨r1, r2, r3⟩ := ih (g.tree.oth i a) (upd h (g.idx i) (if g.tree.f i = a then 1 else -1)) hc' hnl (fun j hj => by
      unfold upd
      rw [if_neg (fun e => hni (by rw [Gr.idx_inj hi (hlt j hj) e]; exact hj))]
      exact h0 j (List.mem_cons_of_mem _ hj)) (fun e => by
      unfold upd
      split
      · split
        · exact .inr (.inr rfl)
        · exact .inl rfl
      · exact hu e)
    refine ⟨r1, fun e he => ?_, fun v => ?_⟩
    · show (g.psts (g.tree.oth i a, upd h (g.idx i) _) l).2 e = h e
      rw [r2 e he]
      unfold upd
      rw [if_neg (by rintro rfl; exact he him.2)]
    · show g.out (g.psts (g.tree.oth i a, upd h (g.idx i) _) l).2 v = _
      rw [r3 v, Gr.out_upd g h him.1, h0 i List.mem_cons_self]
      have o := ok _ him.1
      have hf : g.tree.f i = g.f (g.idx i) := rfl
      have htt : g.tree.t i = g.t (g.idx i) := rfl
      unfold Gr.oth
      rw [hf, htt] at *
      by_cases e : g.f (g.idx i) = a
      · subst e
        simp only [if_true]
        by_cases p : g.f (g.idx i) = v <;> by_cases q : g.t (g.idx i) = v <;> by_cases r : b = v <;> simp [p, q, r] <;> omega
      · have e' : g.t (g.idx i) = a := by rcases ht with ht | ht; exact absurd ht e; exact ht
        subst e'
        simp only [if_neg e]
        by_cases p : g.f (g.idx i) = v <;> by_cases q : g.t (g.idx i) = v <;> by_cases r : b = v <;> simp [p, q, r] <;> omega
/-- the reference's cycle -/
theorem Gr.cyc_path {g : Gr} (ok : g.ok) {c : Nat} (hc : c < g.m) (hF : ¬ g.F c) {l : List Nat} (hp : g.tree.Path (g.t c) l (g.f c)) :
    g.CC c (g.psts (g.t c, upd (fun _ => 0) c 1) l).2 ∧ (∀ e, unit ((g.psts (g.t c, upd (fun _ => 0) c 1) l).2 e)) ∧ ∀ v, g.out (g.psts (g.t c, upd (fun _ => 0) c 1) l).2 v = 0 := by
  have hl : ∀ (l : List Nat) (a b : Nat), g.tree.chain a l b → ∀ j ∈ l, j < g.forest.length := by
    intro l
    induction l with
    | nil => intro a b _ j hj; cases hj
    | cons k l ihl =>
      intro a b hc j hj
      rcases List.mem_cons.1 hj with rfl | hj
      · exact hc.1
      · exact ihl _ b hc.2.2 j hj
  obtain ⟨r1, r2, r3⟩ := Gr.psts_facts ok (g.f c) l (g.t c) (upd (fun _ => 0) c 1) hp.chain hp.nodup (fun i hi => by
    unfold upd
    rw [if_neg (by rintro rfl; exact hF (Gr.idx_mem (hl l _ _ hp.chain i hi)).2)]) (fun e => by
    unfold upd; split
    · exact .inr (.inr rfl)
    · exact .inr (.inl rfl))
  have hout : ∀ v, g.out (g.psts (g.t c, upd (fun _ => 0) c 1) l).2 v = 0 := by
    intro v
    rw [r3 v, Gr.out_upd g _ hc, Gr.out_nil]
    by_cases p : g.f c = v <;> by_cases q : g.t c = v <;> simp [p, q]
  refine ⟨⟨?_, ?_, fun v _ _ => hout v⟩, r1, hout⟩
  · rw [r2 c hF]; unfold upd; rw [if_pos rfl]
  · intro i hi hn hne
    rw [r2 i hn]; unfold upd; rw [if_neg (Ne.symm hne)]
/-- the cycle of a chord -/
noncomputable def Gr.cyc (g : Gr) (c : Nat) : Nat → Int := @Classical.epsilon (Nat → Int) ⟨fun _ => 0⟩ fun h => g.CC c h ∧ (∀ e, unit (h e)) ∧ (∀ v, g.out h v = 0) ∧ ∀ e, g.m ≤ e → h e = 0
theorem Gr.cyc_facts {g : Gr} (ok : g.ok) {c : Nat} (hc : c < g.m) (hF : ¬ g.F c) : g.CC c (g.cyc c) ∧ (∀ e, unit (g.cyc c e)) ∧ (∀ v, g.out (g.cyc c) v = 0) ∧ ∀ e, g.m ≤ e → g.cyc c e = 0 := by
  have o := ok c hc
  obtain ⟨l, hl⟩ := Gr.path_ex (Gr.tree_ok ok) (a := g.t c) (b := g.f c) o.2.1 (Gr.tree_reach ok o.2.1 o.1 (Gr.root_pipe ok hc).symm)
  obtain ⟨h1, h2, h3⟩ := Gr.cyc_path ok hc hF hl
  refine @Classical.epsilon_spec (Nat → Int) (fun h => g.CC c h ∧ (∀ e, unit (h e)) ∧ (∀ v, g.out h v = 0) ∧ ∀ e, g.m ≤ e → h e = 0) ⟨fun e => if e < g.m then (g.psts (g.t c, upd (fun _ => 0) c 1) l).2 e else 0, ?_⟩
  have hag : ∀ i, i < g.m → (fun e => if e < g.m then (g.psts (g.t c, upd (fun _ => 0) c 1) l).2 e else 0) i = (g.psts (g.t c, upd (fun _ => 0) c 1) l).2 i := fun i hi => if_pos hi
  refine ⟨⟨(hag c hc).trans h1.one, fun i hi hn hne => (hag i hi).trans (h1.supp i hi hn hne), fun v hv hr => by rw [Gr.out_congr hag]; exact h3 v⟩, fun e => ?_, fun v => by rw [Gr.out_congr hag]; exact h3 v, fun e he => if_neg (by omega)⟩
  show unit (if e < g.m then _ else 0)
  split
  · exact h2 e
  · exact .inr (.inl rfl)
theorem Gr.cyc_is {g : Gr} (ok : g.ok) {c : Nat} (hc : c < g.m) (hF : ¬ g.F c) {h : Nat → Int} (hh : g.CC c h) : ∀ i, i < g.m → h i = g.cyc c i := hh.uniq ok (g.cyc_facts ok hc hF).1
/-- the program's cycle -/
theorem Gr.cyc_ff {g : Gr} {c : Nat} (hc : c < g.m) (hF : ¬ g.F c) {fl : Nat → Int} (h : g.FF (fun v => (if g.t c = v then 1 else 0) - (if g.f c = v then 1 else 0)) fl) : g.CC c (upd fl c 1) := by
  refine ⟨by unfold upd; rw [if_pos rfl], fun i hi hn hne => by unfold upd; rw [if_neg (Ne.symm hne)]; exact h.supp i hi hn, fun v hv hr => ?_⟩
  rw [Gr.out_upd g fl hc, h.supp c hc hF, h.bal v hv hr]
  by_cases p : g.f c = v <;> by_cases q : g.t c = v <;> simp [p, q]
/-- the flow through the forest that balances supplies -/
noncomputable def Gr.ffl (g : Gr) (sup : Nat → Int) : Nat → Int := @Classical.epsilon (Nat → Int) ⟨fun _ => 0⟩ fun h => g.FF sup h ∧ ∀ e, g.m ≤ e → h e = 0
theorem Gr.ffl_is {g : Gr} (ok : g.ok) {sup fl : Nat → Int} (h : g.FF sup fl) : (∀ i, i < g.m → fl i = g.ffl sup i) ∧ g.FF sup (g.ffl sup) := by
  have e := @Classical.epsilon_spec (Nat → Int) (fun h => g.FF sup h ∧ ∀ e, g.m ≤ e → h e = 0) ⟨fun e => if e < g.m then fl e else 0, by
    have hag : ∀ i, i < g.m → (fun e => if e < g.m then fl e else 0) i = fl i := fun i hi => if_pos hi
    exact ⟨⟨fun i hi hn => (hag i hi).trans (h.supp i hi hn), fun v hv hr => by rw [Gr.out_congr hag]; exact h.bal v hv hr⟩, fun e he => if_neg (by omega)⟩⟩
  exact ⟨h.uniq ok e.1, e.1⟩

end Go.Proofs.Ytllblmndoigdlaa
