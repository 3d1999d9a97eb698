/- plain graphs: the search from a node -/
import Derived.Test.YtahmhmicegjdkaaF7
namespace Go.Proofs.Ytahmhmicegjdkaa

structure Gr where
  n : Nat
  m : Nat
  f : Nat → Nat
  t : Nat → Nat

def Gr.ok (g : Gr) : Prop := ∀ i, i < g.m → g.f i < g.n ∧ g.t i < g.n ∧ g.f i ≠ g.t i
def Gr.oth (g : Gr) (i v : Nat) : Nat := if g.f i = v then g.t i else g.f i
def Gr.joins (g : Gr) (i x y : Nat) : Prop := (g.f i = x ∧ g.t i = y) ∨ (g.f i = y ∧ g.t i = x)
def Gr.touch (g : Gr) (v i : Nat) : Bool := decide (g.f i = v) || decide (g.t i = v)
/-- the pipes at a node among the first k -/
def Gr.atK (g : Gr) (v k : Nat) : List Nat := (List.range k).filter (g.touch v)
def Gr.at (g : Gr) (v : Nat) : List Nat := g.atK v g.m
def upd (h : Nat → Int) (x : Nat) (z : Int) : Nat → Int := fun v => if x = v then z else h v

abbrev Vst := List Nat × (Nat → Int)
def Gr.vis (g : Gr) (v : Nat) (s : Vst) (i : Nat) : Vst := if g.oth i v ∈ s.1 then s else (s.1 ++ [g.oth i v], upd s.2 (g.oth i v) i)
def Gr.visL (g : Gr) (v : Nat) (s : Vst) (l : List Nat) : Vst := l.foldl (g.vis v) s
def Gr.rnd (g : Gr) (s : Vst) (k : Nat) : Vst := match s.1[k]? with
  | some v => g.visL v s (g.at v)
  | none => s
def Gr.run (g : Gr) (r : Nat) : Nat → Vst
  | 0 => ([r], fun _ => -1)
  | k + 1 => g.rnd (g.run r k) k
def Gr.bfs (g : Gr) (r : Nat) : Vst := g.run r g.n
def Gr.ord (g : Gr) (r : Nat) : List Nat := (g.bfs r).1
def Gr.ent (g : Gr) (r : Nat) : Nat → Int := (g.bfs r).2

theorem Gr.mem_at {g : Gr} {v i : Nat} : i ∈ g.at v ↔ i < g.m ∧ (g.f i = v ∨ g.t i = v) := by
  simp [Gr.at, Gr.atK, Gr.touch, List.mem_filter, List.mem_range]
theorem Gr.joins_oth {g : Gr} {v i : Nat} (h : g.f i = v ∨ g.t i = v) : g.joins i v (g.oth i v) := by
  unfold Gr.joins Gr.oth
  by_cases e : g.f i = v
  · rw [if_pos e]; exact .inl ⟨e, rfl⟩
  · rw [if_neg e]; exact .inr ⟨rfl, by rcases h with h | h; exact absurd h e; exact h⟩
theorem Gr.joins_comm {g : Gr} {i x y : Nat} (h : g.joins i x y) : g.joins i y x := h.elim (fun h => .inr h) (fun h => .inl h)
theorem Gr.oth_of_joins {g : Gr} {i x y : Nat} (h : g.joins i x y) (hne : x ≠ y) : g.oth i x = y := by
  unfold Gr.oth
  rcases h with ⟨a, b⟩ | ⟨a, b⟩
  · rw [if_pos a, b]
  · rw [if_neg (by omega), a]
theorem Gr.touch_of_joins {g : Gr} {i x y : Nat} (h : g.joins i x y) : g.f i = x ∨ g.t i = x := h.elim (fun h => .inl h.1) (fun h => .inr h.2)

/-- what holds of a state of the search from r -/
structure Gr.Inv (g : Gr) (r : Nat) (s : Vst) : Prop where
  head : ∃ l, s.1 = r :: l
  nodup : s.1.Nodup
  lt : ∀ x ∈ s.1, x < g.n
  ent : ∀ x ∈ s.1, x ≠ r → ∃ i : Nat, s.2 x = i ∧ i < g.m ∧ ∃ y ∈ s.1, s.1.idxOf y < s.1.idxOf x ∧ g.joins i x y
  none : ∀ x, (x ∉ s.1 ∨ x = r) → s.2 x = -1

theorem Gr.Inv.mem_r {g : Gr} {r : Nat} {s : Vst} (h : g.Inv r s) : r ∈ s.1 := by obtain ⟨l, e⟩ := h.head; rw [e]; exact List.mem_cons_self

theorem idxOf_app_mem {l : List Nat} {x a : Nat} (h : x ∈ l) : (l ++ [a]).idxOf x = l.idxOf x := by rw [List.idxOf_append, if_pos h]
theorem idxOf_app_new {l : List Nat} {a : Nat} (h : a ∉ l) : (l ++ [a]).idxOf a = l.length := by
  rw [List.idxOf_append, if_neg h]; simp

theorem Gr.Inv.vis {g : Gr} (ok : g.ok) {r v i : Nat} {s : Vst} (h : g.Inv r s) (hv : v ∈ s.1) (hi : i ∈ g.at v) : g.Inv r (g.vis v s i) := by
  unfold Gr.vis
  by_cases ho : g.oth i v ∈ s.1
  · rw [if_pos ho]; exact h
  · rw [if_neg ho]
    have hm := Gr.mem_at.1 hi
    have hj := Gr.joins_oth hm.2
    obtain ⟨l, hl⟩ := h.head
    refine ⟨⟨l ++ [g.oth i v], by simp [hl]⟩, ?_, ?_, ?_, ?_⟩
    · rw [List.nodup_append]
      refine ⟨h.nodup, by simp, fun a ha b hb => ?_⟩
      rw [List.mem_singleton] at hb
      rintro rfl
      exact ho (hb ▸ ha)
    · intro x hx
      rcases List.mem_append.1 hx with hx | hx
      · exact h.lt x hx
      · rw [List.mem_singleton.1 hx]
        have := ok i hm.1
        unfold Gr.oth; split <;> omega
    · intro x hx hxr
      rcases List.mem_append.1 hx with hx | hx
      · obtain ⟨j, h1, h2, y, hy, h3, h4⟩ := h.ent x hx hxr
        refine ⟨j, ?_, h2, y, List.mem_append.2 (.inl hy), ?_, h4⟩
        · show upd s.2 _ _ x = _
          unfold upd
          rw [if_neg (by rintro rfl; exact ho hx)]; exact h1
        · show (s.1 ++ [g.oth i v]).idxOf y < (s.1 ++ [g.oth i v]).idxOf x
          rw [idxOf_app_mem hy, idxOf_app_mem hx]; exact h3
      · rw [List.mem_singleton] at hx
        subst hx
        refine ⟨i, by show upd s.2 _ _ _ = _; unfold upd; rw [if_pos rfl], hm.1, v, List.mem_append.2 (.inl hv), ?_, Gr.joins_comm hj⟩
        show (s.1 ++ [g.oth i v]).idxOf v < (s.1 ++ [g.oth i v]).idxOf (g.oth i v)
        rw [idxOf_app_mem hv, idxOf_app_new ho]
        exact List.idxOf_lt_length_of_mem hv
    · intro x hx
      show upd s.2 _ _ x = -1
      unfold upd
      have hr : r ∈ s.1 := h.mem_r
      by_cases e : g.oth i v = x
      · subst e
        rcases hx with hx | hx
        · exact absurd (List.mem_append.2 (.inr (List.mem_singleton.2 rfl))) hx
        · exact absurd (hx ▸ hr) ho
      · rw [if_neg e]
        exact h.none x (hx.imp (fun hx hx' => hx (List.mem_append.2 (.inl hx'))) id)

theorem Gr.vis_mono {g : Gr} {v i : Nat} {s : Vst} : ∃ l, (g.vis v s i).1 = s.1 ++ l := by
  unfold Gr.vis
  split
  · exact ⟨[], by simp⟩
  · exact ⟨[_], rfl⟩
theorem Gr.visL_mono {g : Gr} {v : Nat} (l : List Nat) (s : Vst) : ∃ l', (g.visL v s l).1 = s.1 ++ l' := by
  induction l generalizing s with
  | nil => exact ⟨[], by simp [Gr.visL]⟩
  | cons i l ih =>
    obtain ⟨a, ha⟩ := Gr.vis_mono (g := g) (v := v) (i := i) (s := s)
    obtain ⟨b, hb⟩ := ih (g.vis v s i)
    exact ⟨a ++ b, by rw [show g.visL v s (i :: l) = g.visL v (g.vis v s i) l from rfl, hb, ha, List.append_assoc]⟩
theorem Gr.visL_snoc (g : Gr) (v : Nat) (s : Vst) (l : List Nat) (i : Nat) : g.visL v s (l ++ [i]) = g.vis v (g.visL v s l) i := by
  simp [Gr.visL, List.foldl_append]
theorem Gr.Inv.visL {g : Gr} (ok : g.ok) {r v : Nat} (l : List Nat) {s : Vst} (h : g.Inv r s) (hv : v ∈ s.1) (hl : ∀ i ∈ l, i ∈ g.at v) : g.Inv r (g.visL v s l) := by
  induction l generalizing s with
  | nil => exact h
  | cons i l ih =>
    refine ih (h.vis ok hv (hl i List.mem_cons_self)) ?_ fun j hj => hl j (List.mem_cons_of_mem _ hj)
    obtain ⟨a, ha⟩ := Gr.vis_mono (g := g) (v := v) (i := i) (s := s)
    rw [ha]; exact List.mem_append.2 (.inl hv)
theorem Gr.visL_has {g : Gr} {v : Nat} (l : List Nat) (s : Vst) : ∀ i ∈ l, g.oth i v ∈ (g.visL v s l).1 := by
  induction l generalizing s with
  | nil => intro i hi; cases hi
  | cons j l ih =>
    intro i hi
    rcases List.mem_cons.1 hi with rfl | hi
    · obtain ⟨a, ha⟩ := Gr.visL_mono (g := g) (v := v) l (g.vis v s i)
      show g.oth i v ∈ (g.visL v (g.vis v s i) l).1
      rw [ha]
      refine List.mem_append.2 (.inl ?_)
      unfold Gr.vis
      by_cases ho : g.oth i v ∈ s.1
      · rw [if_pos ho]; exact ho
      · rw [if_neg ho]; exact List.mem_append.2 (.inr (List.mem_singleton.2 rfl))
    · exact ih _ i hi

/-- the first k nodes of the order have been gone through -/
def Gr.Done (g : Gr) (s : Vst) (k : Nat) : Prop := ∀ j, j < k → ∀ v, s.1[j]? = some v → ∀ i ∈ g.at v, g.oth i v ∈ s.1

theorem Gr.rnd_mono {g : Gr} {s : Vst} {k : Nat} : ∃ l, (g.rnd s k).1 = s.1 ++ l := by
  unfold Gr.rnd
  split
  · exact Gr.visL_mono _ _
  · exact ⟨[], by simp⟩
theorem Gr.run_inv {g : Gr} (ok : g.ok) {r : Nat} (hr : r < g.n) (k : Nat) : g.Inv r (g.run r k) ∧ g.Done (g.run r k) k := by
  induction k with
  | zero =>
    refine ⟨⟨⟨[], rfl⟩, by simp [Gr.run], ?_, ?_, fun _ _ => rfl⟩, fun j hj => absurd hj (by omega)⟩
    · intro x hx; simp [Gr.run] at hx; omega
    · intro x hx hne; simp [Gr.run] at hx; exact absurd hx hne
  | succ k ih =>
    obtain ⟨hi, hd⟩ := ih
    have e : g.run r (k + 1) = g.rnd (g.run r k) k := rfl
    obtain ⟨l, hl⟩ := Gr.rnd_mono (g := g) (s := g.run r k) (k := k)
    rw [e]
    constructor
    · unfold Gr.rnd
      split
      · rename_i v hv
        exact hi.visL ok _ (List.mem_of_getElem? hv) fun i h => h
      · exact hi
    · intro j hj v hv i hiv
      rcases Nat.lt_or_ge j (g.run r k).1.length with hlen | hlen
      · have hv' : (g.run r k).1[j]? = some v := by rw [hl, List.getElem?_append_left hlen] at hv; exact hv
        rcases Nat.lt_or_ge j k with h' | h'
        · rw [hl]; exact List.mem_append.2 (.inl (hd j h' v hv' i hiv))
        · have : j = k := by omega
          subst this
          unfold Gr.rnd
          rw [hv']
          exact Gr.visL_has _ _ i hiv
      · have : (g.run r k).1[k]? = none := List.getElem?_eq_none (by omega)
        have e2 : g.rnd (g.run r k) k = g.run r k := by unfold Gr.rnd; rw [this]
        rw [e2] at hv
        rw [List.getElem?_eq_none (by omega)] at hv
        cases hv

theorem nodup_len {l : List Nat} {n : Nat} (h : l.Nodup) (hl : ∀ x ∈ l, x < n) : l.length ≤ n := by
  induction n generalizing l with
  | zero =>
    cases l with
    | nil => simp
    | cons a l => exact absurd (hl a List.mem_cons_self) (by omega)
  | succ n ih =>
    by_cases hn : n ∈ l
    · have := ih (l := l.erase n) (h.erase n) fun x hx => by
        have := (List.Nodup.mem_erase_iff h).1 hx
        have := hl x this.2
        omega
      rw [List.length_erase_of_mem hn] at this
      omega
    · have := ih h fun x hx => by
        have := hl x hx
        have : x ≠ n := by rintro rfl; exact hn hx
        omega
      omega
theorem Gr.run_len {g : Gr} (ok : g.ok) {r : Nat} (hr : r < g.n) (k : Nat) : (g.run r k).1.length ≤ g.n :=
  nodup_len (g.run_inv ok hr k).1.nodup (g.run_inv ok hr k).1.lt
theorem Gr.run_stop {g : Gr} {r k : Nat} (h : (g.run r k).1.length ≤ k) (j : Nat) : g.run r (k + j) = g.run r k := by
  induction j with
  | zero => rfl
  | succ j ih =>
    show g.rnd (g.run r (k + j)) (k + j) = _
    rw [ih]
    unfold Gr.rnd
    rw [List.getElem?_eq_none (by omega)]
theorem Gr.run_end {g : Gr} (ok : g.ok) {r : Nat} (hr : r < g.n) {k : Nat} (h : (g.run r k).1.length ≤ k) : g.run r k = g.bfs r := by
  unfold Gr.bfs
  rcases Nat.le_total k g.n with hk | hk
  · have := Gr.run_stop h (g.n - k)
    rw [show k + (g.n - k) = g.n by omega] at this
    exact this.symm
  · obtain ⟨j, hj⟩ : ∃ j, k = g.n + j := ⟨k - g.n, by omega⟩
    rw [hj, Gr.run_stop (g.run_len ok hr g.n)]

end Go.Proofs.Ytahmhmicegjdkaa
