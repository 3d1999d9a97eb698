/- plain graphs: the tree of a graph, paths, cycles -/
import Derived.Test.YtahmhmicegjdkaaQ3
namespace Go.Proofs.Ytahmhmicegjdkaa

def Gr.Fb (g : Gr) (i : Nat) : Bool := (List.range g.n).any fun v => decide (g.fe v = (i : Int))
theorem Gr.Fb_iff {g : Gr} {i : Nat} : g.Fb i = true ↔ g.F i := by simp [Gr.Fb, Gr.F, List.any_eq_true, List.mem_range]
/-- the pipes of the forest among the first k -/
def Gr.forK (g : Gr) (k : Nat) : List Nat := (List.range k).filter g.Fb
def Gr.forest (g : Gr) : List Nat := g.forK g.m
/-- the chords among the first k -/
def Gr.choK (g : Gr) (k : Nat) : List Nat := (List.range k).filter fun i => !g.Fb i
def Gr.chords (g : Gr) : List Nat := g.choK g.m
theorem Gr.mem_forest {g : Gr} {i : Nat} : i ∈ g.forest ↔ i < g.m ∧ g.F i := by
  simp [Gr.forest, Gr.forK, List.mem_filter, List.mem_range, Gr.Fb_iff]
theorem Gr.mem_chords {g : Gr} {i : Nat} : i ∈ g.chords ↔ i < g.m ∧ ¬ g.F i := by
  simp only [Gr.chords, Gr.choK, List.mem_filter, List.mem_range, ← Gr.Fb_iff]
  simp
theorem Gr.forest_nodup (g : Gr) : g.forest.Nodup := List.Pairwise.filter _ List.nodup_range
theorem nodup_inj {l : List Nat} (h : l.Nodup) {i j : Nat} (hi : i < l.length) (hj : j < l.length) (e : l[i] = l[j]) : i = j := by
  have a := List.Nodup.idxOf_getElem h i hi
  have b := List.Nodup.idxOf_getElem h j hj
  rw [e] at a
  omega
def Gr.idx (g : Gr) (k : Nat) : Nat := g.forest.getD k g.m
def Gr.tree (g : Gr) : Gr := ⟨g.n, g.forest.length, fun k => g.f (g.idx k), fun k => g.t (g.idx k)⟩
theorem Gr.idx_lt {g : Gr} {k : Nat} (h : k < g.forest.length) : g.idx k = g.forest[k] := by
  unfold Gr.idx; rw [List.getD_eq_getElem?_getD, List.getElem?_eq_getElem h]; rfl
theorem Gr.idx_mem {g : Gr} {k : Nat} (h : k < g.forest.length) : g.idx k < g.m ∧ g.F (g.idx k) := by
  rw [Gr.idx_lt h]; exact Gr.mem_forest.1 (List.getElem_mem h)
theorem Gr.idx_inj {g : Gr} {j k : Nat} (hj : j < g.forest.length) (hk : k < g.forest.length) (e : g.idx j = g.idx k) : j = k := by
  rw [Gr.idx_lt hj, Gr.idx_lt hk] at e
  exact nodup_inj g.forest_nodup hj hk e
theorem Gr.tree_ok {g : Gr} (ok : g.ok) : g.tree.ok := fun _ hk => ok _ (Gr.idx_mem hk).1

/-- a set that no pipe of the forest leaves holds a node with its root -/
theorem Gr.forest_all {g : Gr} (ok : g.ok) {C : Nat → Prop} (h : ∀ e, g.F e → (C (g.f e) ↔ C (g.t e))) {v : Nat} (hv : v < g.n) : C v ↔ C (g.root v) := by
  obtain ⟨h1, h2, h3, h4⟩ := Gr.root_facts ok hv
  refine (Gr.ord_inv ok h1).all (C := C) (fun x hx hne i hi y hj => ?_) v h4
  have hr : g.root x = g.root v := Gr.root_of_mem ok h1 h3 hx
  have hF : g.F i := ⟨x, Gr.ord_lt ok h1 x hx, by unfold Gr.fe; rw [hr]; exact hi⟩
  rcases hj with ⟨rfl, rfl⟩ | ⟨rfl, rfl⟩
  · exact h i hF
  · exact (h i hF).symm
theorem Gr.tree_reach {g : Gr} (ok : g.ok) {a b : Nat} (ha : a < g.n) (hb : b < g.n) (hr : g.root a = g.root b) : b ∈ g.tree.ord a := by
  have hc := Gr.ord_isClosed (Gr.tree_ok ok) (r := a) ha
  have hF : ∀ e, g.F e → (g.f e ∈ g.tree.ord a ↔ g.t e ∈ g.tree.ord a) := by
    intro e he
    obtain ⟨_, _, _, _, _, _, em, _⟩ := Gr.F_facts ok he
    obtain ⟨k, hk, e1⟩ := List.getElem_of_mem (Gr.mem_forest.2 ⟨em, he⟩)
    have := hc k hk
    show _ ↔ _
    have e2 : g.idx k = e := by rw [Gr.idx_lt hk, e1]
    simpa [Gr.tree, e2] using this
  have h1 := Gr.forest_all ok (C := (· ∈ g.tree.ord a)) hF ha
  have h2 := Gr.forest_all ok (C := (· ∈ g.tree.ord a)) hF hb
  rw [← hr] at h2
  exact h2.2 (h1.1 (Gr.ord_r (Gr.tree_ok ok) ha))

/-- pipes that lead from a to b -/
def Gr.chain (g : Gr) : Nat → List Nat → Nat → Prop
  | a, [], b => a = b
  | a, i :: l, b => i < g.m ∧ (g.f i = a ∨ g.t i = a) ∧ g.chain (g.oth i a) l b
structure Gr.Path (g : Gr) (a : Nat) (l : List Nat) (b : Nat) : Prop where
  chain : g.chain a l b
  nodup : l.Nodup
/-- the way back from b has come to x -/
structure Gr.Back (g : Gr) (a x : Nat) (l : List Nat) (b : Nat) : Prop where
  mem : x ∈ g.ord a
  chain : g.chain x l b
  nodup : l.Nodup
  later : ∀ i ∈ l, ∃ y ∈ g.ord a, y ≠ a ∧ (g.ord a).idxOf x < (g.ord a).idxOf y ∧ g.ent a y = (i : Nat)
theorem Gr.idxOf_r {g : Gr} (ok : g.ok) {a : Nat} (ha : a < g.n) : (g.ord a).idxOf a = 0 := by
  obtain ⟨l, hl⟩ := (Gr.ord_inv ok ha).head
  rw [show g.ord a = a :: l from hl]; simp
theorem Gr.idxOf_pos {g : Gr} (ok : g.ok) {a x : Nat} (ha : a < g.n) (hne : x ≠ a) : 0 < (g.ord a).idxOf x := by
  obtain ⟨l, hl⟩ := (Gr.ord_inv ok ha).head
  have e : (a == x) = false := by simp; omega
  rw [show g.ord a = a :: l from hl, List.idxOf_cons, e]
  exact Nat.succ_pos _
theorem Gr.Back.start {g : Gr} {a b : Nat} (hb : b ∈ g.ord a) : g.Back a b [] b := ⟨hb, rfl, List.nodup_nil, fun i hi => by cases hi⟩
/-- one step back -/
theorem Gr.Back.step {g : Gr} (ok : g.ok) {a x b : Nat} {l : List Nat} (ha : a < g.n) (h : g.Back a x l b) (hne : x ≠ a) :
    ∃ i : Nat, g.ent a x = i ∧ i < g.m ∧ (g.f i = x ∨ g.t i = x) ∧ g.Back a (g.oth i x) (i :: l) b ∧ (g.ord a).idxOf (g.oth i x) < (g.ord a).idxOf x := by
  obtain ⟨i, h1, h2, y, hy, h3, h4⟩ := (Gr.ord_inv ok ha).ent x h.mem hne
  have hxy : x ≠ y := by rintro rfl; omega
  have ho := Gr.oth_of_joins h4 hxy
  have ho' := Gr.oth_of_joins (Gr.joins_comm h4) (Ne.symm hxy)
  refine ⟨i, h1, h2, Gr.touch_of_joins h4, ⟨?_, ?_, ?_, ?_⟩, by rw [ho]; exact h3⟩
  · rw [ho]; exact hy
  · rw [ho]
    exact ⟨h2, Gr.touch_of_joins (Gr.joins_comm h4), by rw [ho']; exact h.chain⟩
  · refine List.nodup_cons.2 ⟨fun hm => ?_, h.nodup⟩
    obtain ⟨z, z1, z2, z3, z4⟩ := h.later i hm
    -- the entries of x and z are one
    obtain ⟨i', k1, k2, y', k3, k4, k5⟩ := (Gr.ord_inv ok ha).ent z z1 z2
    have : i' = i := by
      have : g.ent a z = (i' : Int) := k1
      omega
    subst this
    have k4' : (g.ord a).idxOf y' < (g.ord a).idxOf z := k4
    have h3' : (g.ord a).idxOf y < (g.ord a).idxOf x := h3
    rcases h4 with ⟨p, q⟩ | ⟨p, q⟩ <;> rcases k5 with ⟨p', q'⟩ | ⟨p', q'⟩
    · have e1 : x = z := by omega
      rw [e1] at z3; omega
    · have e1 : z = y := by omega
      rw [e1] at z3; omega
    · have e1 : z = y := by omega
      rw [e1] at z3; omega
    · have e1 : x = z := by omega
      rw [e1] at z3; omega
  · intro j hj
    rcases List.mem_cons.1 hj with rfl | hj
    · exact ⟨x, h.mem, hne, by rw [ho]; exact h3, h1⟩
    · obtain ⟨z, z1, z2, z3, z4⟩ := h.later j hj
      refine ⟨z, z1, z2, ?_, z4⟩
      rw [ho]
      have h3' : (g.ord a).idxOf y < (g.ord a).idxOf x := h3
      omega
theorem Gr.Back.path {g : Gr} {a b : Nat} {l : List Nat} (h : g.Back a a l b) : g.Path a l b := ⟨h.chain, h.nodup⟩
theorem Gr.path_ex {g : Gr} (ok : g.ok) {a b : Nat} (ha : a < g.n) (hb : b ∈ g.ord a) : ∃ l, g.Path a l b := by
  have : ∀ k x l, (g.ord a).idxOf x ≤ k → g.Back a x l b → ∃ l, g.Path a l b := by
    intro k
    induction k with
    | zero =>
      intro x l hk h
      by_cases e : x = a
      · subst e; exact ⟨l, h.path⟩
      · have := Gr.idxOf_pos ok ha e; omega
    | succ k ih =>
      intro x l hk h
      by_cases e : x = a
      · subst e; exact ⟨l, h.path⟩
      · obtain ⟨i, _, _, _, h2, h3⟩ := h.step ok ha e
        exact ih _ _ (by omega) h2
  exact this _ b [] (Nat.le_refl _) (Gr.Back.start hb)

/-! ### cycles -/
/-- one step of the reference along a path in the tree -/
def Gr.pst (g : Gr) (s : Nat × (Nat → Int)) (i : Nat) : Nat × (Nat → Int) := (g.tree.oth i s.1, upd s.2 (g.idx i) (if g.tree.f i = s.1 then 1 else -1))
def Gr.psts (g : Gr) (s : Nat × (Nat → Int)) (l : List Nat) : Nat × (Nat → Int) := l.foldl g.pst s
theorem Gr.psts_snoc (g : Gr) (s : Nat × (Nat → Int)) (l : List Nat) (i : Nat) : g.psts s (l ++ [i]) = g.pst (g.psts s l) i := by simp [Gr.psts, List.foldl_append]
structure Gr.CC (g : Gr) (c : Nat) (h : Nat → Int) : Prop where
  one : h c = 1
  supp : ∀ i, i < g.m → ¬ g.F i → i ≠ c → h i = 0
  bal : ∀ v, v < g.n → g.root v ≠ v → g.out h v = 0
theorem Gr.CC.uniq {g : Gr} (ok : g.ok) {c : Nat} {h h' : Nat → Int} (a : g.CC c h) (b : g.CC c h') : ∀ i, i < g.m → h i = h' i :=
  Gr.uniq2 ok (fun i hi hn => by
    by_cases e : i = c
    · rw [e, a.one, b.one]
    · rw [a.supp i hi hn e, b.supp i hi hn e]) (fun v hv hne => by rw [a.bal v hv hne, b.bal v hv hne])
def unit (z : Int) : Prop := z = -1 ∨ z = 0 ∨ z = 1
theorem Gr.psts_facts {g : Gr} (ok : g.ok) (b : Nat) (l : List Nat) : ∀ (a : Nat) (h : Nat → Int), g.tree.chain a l b → l.Nodup → (∀ i ∈ l, h (g.idx i) = 0) → (∀ e, unit (h e)) →
    (∀ e, unit ((g.psts (a, h) l).2 e)) ∧ (∀ e, ¬ g.F e → (g.psts (a, h) l).2 e = h e) ∧ ∀ v, g.out (g.psts (a, h) l).2 v = g.out h v + ((if a = v then 1 else 0) - (if b = v then 1 else 0)) := by
  induction l with
  | nil =>
    intro a h hc _ _ hu
    have : a = b := hc
    subst this
    refine ⟨hu, fun _ _ => rfl, fun v => ?_⟩
    show g.out h v = _
    omega
  | cons i l ih =>
    intro a h hc hn h0 hu
    obtain ⟨hi, ht, hc'⟩ := hc
    obtain ⟨hni, hnl⟩ := List.nodup_cons.1 hn
    have him := Gr.idx_mem hi
    have hlt : ∀ j ∈ l, j < g.forest.length := by
      have : ∀ (l : List Nat) (a : Nat), g.tree.chain a l b → ∀ j ∈ l, j < g.forest.length := by
        intro l
        induction l with
        | nil => intro a _ j hj; cases hj
        | cons k l ihl =>
          intro a hc j hj
          rcases List.mem_cons.1 hj with rfl | hj
          · exact hc.1
          · exact ihl _ hc.2.2 j hj
      exact this l _ hc'
    obtain ⟨r1, r2, r3⟩ := ih (g.tree.oth i a) (upd h (g.idx i) (if g.tree.f i = a then 1 else -1)) hc' hnl (fun j hj => by
      unfold upd
      rw [if_neg (fun e => hni (by rw [Gr.idx_inj hi (hlt j hj) e]; exact hj))]
      exact h0 j (List.mem_cons_of_mem _ hj)) (fun e => by
      unfold upd
      split
      · split
        · exact .inr (.inr rfl)
        · exact .inl rfl
      · exact hu e)
    refine ⟨r1, fun e he => ?_, fun v => ?_⟩
    · show (g.psts (g.tree.oth i a, upd h (g.idx i) _) l).2 e = h e
      rw [r2 e he]
      unfold upd
      rw [if_neg (by rintro rfl; exact he him.2)]
    · show g.out (g.psts (g.tree.oth i a, upd h (g.idx i) _) l).2 v = _
      rw [r3 v, Gr.out_upd g h him.1, h0 i List.mem_cons_self]
      have o := ok _ him.1
      have hf : g.tree.f i = g.f (g.idx i) := rfl
      have htt : g.tree.t i = g.t (g.idx i) := rfl
      unfold Gr.oth
      rw [hf, htt] at *
      by_cases e : g.f (g.idx i) = a
      · subst e
        simp only [if_true]
        by_cases p : g.f (g.idx i) = v <;> by_cases q : g.t (g.idx i) = v <;> by_cases r : b = v <;> simp [p, q, r] <;> omega
      · have e' : g.t (g.idx i) = a := by rcases ht with ht | ht; exact absurd ht e; exact ht
        subst e'
        simp only [if_neg e]
        by_cases p : g.f (g.idx i) = v <;> by_cases q : g.t (g.idx i) = v <;> by_cases r : b = v <;> simp [p, q, r] <;> omega
/-- the reference's cycle -/
theorem Gr.cyc_path {g : Gr} (ok : g.ok) {c : Nat} (hc : c < g.m) (hF : ¬ g.F c) {l : List Nat} (hp : g.tree.Path (g.t c) l (g.f c)) :
    g.CC c (g.psts (g.t c, upd (fun _ => 0) c 1) l).2 ∧ (∀ e, unit ((g.psts (g.t c, upd (fun _ => 0) c 1) l).2 e)) ∧ ∀ v, g.out (g.psts (g.t c, upd (fun _ => 0) c 1) l).2 v = 0 := by
  have hl : ∀ (l : List Nat) (a b : Nat), g.tree.chain a l b → ∀ j ∈ l, j < g.forest.length := by
    intro l
    induction l with
    | nil => intro a b _ j hj; cases hj
    | cons k l ihl =>
      intro a b hc j hj
      rcases List.mem_cons.1 hj with rfl | hj
      · exact hc.1
      · exact ihl _ b hc.2.2 j hj
  obtain ⟨r1, r2, r3⟩ := Gr.psts_facts ok (g.f c) l (g.t c) (upd (fun _ => 0) c 1) hp.chain hp.nodup (fun i hi => by
    unfold upd
    rw [if_neg (by rintro rfl; exact hF (Gr.idx_mem (hl l _ _ hp.chain i hi)).2)]) (fun e => by
    unfold upd; split
    · exact .inr (.inr rfl)
    · exact .inr (.inl rfl))
  have hout : ∀ v, g.out (g.psts (g.t c, upd (fun _ => 0) c 1) l).2 v = 0 := by
    intro v
    rw [r3 v, Gr.out_upd g _ hc, Gr.out_nil]
    by_cases p : g.f c = v <;> by_cases q : g.t c = v <;> simp [p, q]
  refine ⟨⟨?_, ?_, fun v _ _ => hout v⟩, r1, hout⟩
  · rw [r2 c hF]; unfold upd; rw [if_pos rfl]
  · intro i hi hn hne
    rw [r2 i hn]; unfold upd; rw [if_neg (Ne.symm hne)]
/-- the cycle of a chord -/
noncomputable def Gr.cyc (g : Gr) (c : Nat) : Nat → Int := @Classical.epsilon (Nat → Int) ⟨fun _ => 0⟩ fun h => g.CC c h ∧ (∀ e, unit (h e)) ∧ (∀ v, g.out h v = 0) ∧ ∀ e, g.m ≤ e → h e = 0
theorem Gr.cyc_facts {g : Gr} (ok : g.ok) {c : Nat} (hc : c < g.m) (hF : ¬ g.F c) : g.CC c (g.cyc c) ∧ (∀ e, unit (g.cyc c e)) ∧ (∀ v, g.out (g.cyc c) v = 0) ∧ ∀ e, g.m ≤ e → g.cyc c e = 0 := by
  have o := ok c hc
  obtain ⟨l, hl⟩ := Gr.path_ex (Gr.tree_ok ok) (a := g.t c) (b := g.f c) o.2.1 (Gr.tree_reach ok o.2.1 o.1 (Gr.root_pipe ok hc).symm)
  obtain ⟨h1, h2, h3⟩ := Gr.cyc_path ok hc hF hl
  refine @Classical.epsilon_spec (Nat → Int) (fun h => g.CC c h ∧ (∀ e, unit (h e)) ∧ (∀ v, g.out h v = 0) ∧ ∀ e, g.m ≤ e → h e = 0) ⟨fun e => if e < g.m then (g.psts (g.t c, upd (fun _ => 0) c 1) l).2 e else 0, ?_⟩
  have hag : ∀ i, i < g.m → (fun e => if e < g.m then (g.psts (g.t c, upd (fun _ => 0) c 1) l).2 e else 0) i = (g.psts (g.t c, upd (fun _ => 0) c 1) l).2 i := fun i hi => if_pos hi
  refine ⟨⟨(hag c hc).trans h1.one, fun i hi hn hne => (hag i hi).trans (h1.supp i hi hn hne), fun v hv hr => by rw [Gr.out_congr hag]; exact h3 v⟩, fun e => ?_, fun v => by rw [Gr.out_congr hag]; exact h3 v, fun e he => if_neg (by omega)⟩
  show unit (if e < g.m then _ else 0)
  split
  · exact h2 e
  · exact .inr (.inl rfl)
theorem Gr.cyc_is {g : Gr} (ok : g.ok) {c : Nat} (hc : c < g.m) (hF : ¬ g.F c) {h : Nat → Int} (hh : g.CC c h) : ∀ i, i < g.m → h i = g.cyc c i := hh.uniq ok (g.cyc_facts ok hc hF).1
/-- the program's cycle -/
theorem Gr.cyc_ff {g : Gr} {c : Nat} (hc : c < g.m) (hF : ¬ g.F c) {fl : Nat → Int} (h : g.FF (fun v => (if g.t c = v then 1 else 0) - (if g.f c = v then 1 else 0)) fl) : g.CC c (upd fl c 1) := by
  refine ⟨by unfold upd; rw [if_pos rfl], fun i hi hn hne => by unfold upd; rw [if_neg (Ne.symm hne)]; exact h.supp i hi hn, fun v hv hr => ?_⟩
  rw [Gr.out_upd g fl hc, h.supp c hc hF, h.bal v hv hr]
  by_cases p : g.f c = v <;> by_cases q : g.t c = v <;> simp [p, q]
/-- the flow through the forest that balances supplies -/
noncomputable def Gr.ffl (g : Gr) (sup : Nat → Int) : Nat → Int := @Classical.epsilon (Nat → Int) ⟨fun _ => 0⟩ fun h => g.FF sup h ∧ ∀ e, g.m ≤ e → h e = 0
theorem Gr.ffl_is {g : Gr} (ok : g.ok) {sup fl : Nat → Int} (h : g.FF sup fl) : (∀ i, i < g.m → fl i = g.ffl sup i) ∧ g.FF sup (g.ffl sup) := by
  have e := @Classical.epsilon_spec (Nat → Int) (fun h => g.FF sup h ∧ ∀ e, g.m ≤ e → h e = 0) ⟨fun e => if e < g.m then fl e else 0, by
    have hag : ∀ i, i < g.m → (fun e => if e < g.m then fl e else 0) i = fl i := fun i hi => if_pos hi
    exact ⟨⟨fun i hi hn => (hag i hi).trans (h.supp i hi hn), fun v hv hr => by rw [Gr.out_congr hag]; exact h.bal v hv hr⟩, fun e he => if_neg (by omega)⟩⟩
  exact ⟨h.uniq ok e.1, e.1⟩

end Go.Proofs.Ytahmhmicegjdkaa
