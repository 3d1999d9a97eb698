/- plain graphs: the flows through the forest, step by step -/
import Derived.Test.YtioiebjgjimeiaaQ4
namespace Go.Proofs.Ytioiebjgjimeiaa

abbrev Fst := (Nat → Int) × (Nat → Int)
/-- one step at node v of the search from r; z: what is left at v is cleared -/
def Gr.fs (g : Gr) (z : Bool) (r : Nat) (s : Fst) (v : Nat) : Fst :=
  (upd s.1 (g.ent r v).toNat (if g.f (g.ent r v).toNat = v then s.2 v else -(s.2 v)),
   if z then upd (upd s.2 (g.oth (g.ent r v).toNat v) (s.2 (g.oth (g.ent r v).toNat v) + s.2 v)) v 0 else upd s.2 (g.oth (g.ent r v).toNat v) (s.2 (g.oth (g.ent r v).toNat v) + s.2 v))
def Gr.fsJ (g : Gr) (z : Bool) (r : Nat) (s : Fst) : Nat → Fst
  | 0 => s
  | j + 1 => g.fs z r (g.fsJ z r s j) ((g.ord r).getD ((g.ord r).length - 1 - j) 0)
def Gr.fsK (g : Gr) (z : Bool) (s : Fst) : Nat → Fst
  | 0 => s
  | k + 1 => if g.comp k = k then g.fsJ z k (g.fsK z s k) ((g.ord k).length - 1) else g.fsK z s k
def Gr.ordK (g : Gr) : Nat → List Nat
  | 0 => []
  | k + 1 => if g.comp k = k then g.ordK k ++ g.ord k else g.ordK k

/-! ### bounds -/
structure Lim (B : Int) (s : Fst) : Prop where
  fl : ∀ e, -B ≤ s.1 e ∧ s.1 e ≤ B
  left : ∀ v, -B ≤ s.2 v ∧ s.2 v ≤ B
def pw (k : Nat) : Int := 30000 * 2 ^ k
theorem pw_succ (k : Nat) : pw (k + 1) = 2 * pw k := by unfold pw; rw [Int.pow_succ]; omega
theorem pw_ge (k : Nat) : 30000 ≤ pw k := by
  induction k with
  | zero => decide
  | succ k ih => rw [pw_succ]; omega
theorem pw_mono {j k : Nat} (h : j ≤ k) : pw j ≤ pw k := by
  induction k with
  | zero => have : j = 0 := by omega
            subst this; omega
  | succ k ih =>
    rcases Nat.lt_or_ge k j with hj | hj
    · have : j = k + 1 := by omega
      subst this; omega
    · have := ih hj; have := pw_ge k; rw [pw_succ]; omega
theorem pw_le {k : Nat} (h : k ≤ 24) : pw k ≤ 503316480000 := Int.le_trans (pw_mono h) (by decide)
theorem Gr.fs_lim {g : Gr} {z : Bool} {r v : Nat} {s : Fst} {B : Int} (hB : 0 ≤ B) (h : Lim B s) : Lim (2 * B) (g.fs z r s v) := by
  refine ⟨fun e => ?_, fun x => ?_⟩
  · have h1 := h.fl e
    have h2 := h.left v
    show -(2 * B) ≤ upd s.1 _ _ e ∧ upd s.1 _ _ e ≤ 2 * B
    unfold upd
    split
    · split <;> omega
    · omega
  · have h1 := h.left x
    have h2 := h.left v
    have h3 := h.left (g.oth (g.ent r v).toNat v)
    have key : ∀ t : Nat → Int, (t = upd (upd s.2 (g.oth (g.ent r v).toNat v) (s.2 (g.oth (g.ent r v).toNat v) + s.2 v)) v 0 ∨ t = upd s.2 (g.oth (g.ent r v).toNat v) (s.2 (g.oth (g.ent r v).toNat v) + s.2 v)) → -(2 * B) ≤ t x ∧ t x ≤ 2 * B := by
      rintro t (rfl | rfl)
      · unfold upd
        split
        · omega
        · split <;> omega
      · unfold upd
        split <;> omega
    refine key _ ?_
    cases z
    · exact .inr rfl
    · exact .inl rfl
theorem Lim.mono {B C : Int} {s : Fst} (h : Lim B s) (hBC : B ≤ C) : Lim C s :=
  ⟨fun e => by have := h.fl e; omega, fun e => by have := h.left e; omega⟩
theorem Lim.fs {g : Gr} {z : Bool} {r v k : Nat} {s : Fst} (h : Lim (pw k) s) : Lim (pw (k + 1)) (g.fs z r s v) := by
  rw [pw_succ]; exact Gr.fs_lim (by have := pw_ge k; omega) h
theorem Lim.fsJ {g : Gr} {z : Bool} {r k : Nat} {s : Fst} (h : Lim (pw k) s) (j : Nat) : Lim (pw (k + j)) (g.fsJ z r s j) := by
  induction j with
  | zero => exact h
  | succ j ih => exact ih.fs
theorem Gr.fsK_lim {g : Gr} {z : Bool} {s : Fst} (h : Lim 30000 s) (k : Nat) : Lim (pw (g.ordK k).length) (g.fsK z s k) := by
  induction k with
  | zero => exact h
  | succ k ih =>
    unfold Gr.ordK Gr.fsK
    by_cases hc : g.comp k = k
    · rw [if_pos hc, if_pos hc]
      refine (ih.fsJ _).mono (pw_mono ?_)
      rw [List.length_append]; omega
    · rw [if_neg hc, if_neg hc]; exact ih

section
variable {g : Gr} (ok : g.ok)
include ok
theorem Gr.root_comp {k : Nat} (hk : k < g.n) : g.comp k = k ↔ g.root k = k := by
  rw [Gr.comp_root ok hk]; omega
theorem Gr.mem_ord_root {k x : Nat} (hk : k < g.n) (hc : g.root k = k) : x ∈ g.ord k ↔ x < g.n ∧ g.root x = k :=
  ⟨fun h => ⟨Gr.ord_lt ok hk x h, Gr.root_of_mem ok hk hc h⟩, fun h => by have := (Gr.root_facts ok h.1).2.2.2; rw [h.2] at this; exact this⟩
theorem Gr.ordK_mem {k x : Nat} (hk : k ≤ g.n) (h : x ∈ g.ordK k) : x < g.n ∧ g.root x < k := by
  induction k with
  | zero => cases h
  | succ k ih =>
    unfold Gr.ordK at h
    by_cases hc : g.comp k = k
    · rw [if_pos hc] at h
      rcases List.mem_append.1 h with h | h
      · have := ih (by omega) h; omega
      · have := (Gr.mem_ord_root ok (by omega) ((Gr.root_comp ok (by omega)).1 hc)).1 h; omega
    · rw [if_neg hc] at h
      have := ih (by omega) h; omega
theorem Gr.ordK_nodup {k : Nat} (hk : k ≤ g.n) : (g.ordK k).Nodup := by
  induction k with
  | zero => exact List.nodup_nil
  | succ k ih =>
    unfold Gr.ordK
    by_cases hc : g.comp k = k
    · rw [if_pos hc, List.nodup_append]
      refine ⟨ih (by omega), (Gr.ord_inv ok (by omega)).nodup, fun a ha b hb => ?_⟩
      have h1 := Gr.ordK_mem ok (by omega) ha
      have h2 := (Gr.mem_ord_root ok (by omega) ((Gr.root_comp ok (by omega)).1 hc)).1 hb
      rintro rfl
      omega
    · rw [if_neg hc]; exact ih (by omega)
theorem Gr.ordK_len {k : Nat} (hk : k ≤ g.n) : (g.ordK k).length ≤ g.n := nodup_len (Gr.ordK_nodup ok hk) fun _ hx => (Gr.ordK_mem ok hk hx).1
theorem Gr.ordK_step {k : Nat} (hk : k < g.n) (hc : g.comp k = k) : (g.ordK k).length + (g.ord k).length ≤ g.n := by
  have := Gr.ordK_len ok (k := k + 1) (by omega)
  unfold Gr.ordK at this
  rw [if_pos hc, List.length_append] at this
  exact this

/-- what stands at place i > 0 of the order -/
theorem Gr.ord_at {k i : Nat} (hk : k < g.n) (hc : g.root k = k) (hi : i < (g.ord k).length) (h0 : 0 < i) : ∃ v e y : Nat, (g.ord k)[i]? = some v ∧ v < g.n ∧ g.root v = k ∧ v ≠ k ∧ (g.ord k).idxOf v = i ∧ g.ent k v = e ∧ g.fe v = e ∧ e < g.m ∧ g.joins e v y ∧ g.oth e v = y ∧ y < g.n ∧ g.root y = k ∧ (g.ord k).idxOf y < i := by
  have inv := Gr.ord_inv ok hk
  have hnd : (g.ord k).Nodup := inv.nodup
  obtain ⟨v, hv⟩ : ∃ v, (g.ord k)[i]? = some v := ⟨_, List.getElem?_eq_getElem hi⟩
  have hvm := List.mem_of_getElem? hv
  have hvi : (g.ord k).idxOf v = i := by
    have := List.Nodup.idxOf_getElem hnd i hi
    rw [(List.getElem?_eq_some_iff.1 hv).2] at this; exact this
  have hvk : v ≠ k := by rintro rfl; have := Gr.idxOf_r ok hk; omega
  have hvr := (Gr.mem_ord_root ok hk hc).1 hvm
  obtain ⟨e, e1, e2, y, hy, e3, e4⟩ := inv.ent v hvm hvk
  have hyr := (Gr.mem_ord_root ok hk hc).1 hy
  have e3' : (g.ord k).idxOf y < (g.ord k).idxOf v := e3
  have hne : v ≠ y := by rintro rfl; omega
  exact ⟨v, e, y, hv, hvr.1, hvr.2, hvk, hvi, e1, by unfold Gr.fe; rw [hvr.2]; exact e1, e2, e4, Gr.oth_of_joins e4 hne, hyr.1, hyr.2, by omega⟩

end

theorem Gr.FInv.congr {g : Gr} {sup : Nat → Int} {done done' : Nat → Prop} {fl left : Nat → Int} (h : g.FInv sup done fl left) (hd : ∀ x, x < g.n → (done' x ↔ done x)) : g.FInv sup done' fl left :=
  ⟨fun e he => by obtain ⟨v, a, b, c⟩ := h.supp e he; exact ⟨v, a, (hd v a).2 b, c⟩, fun v hv hd' => h.yes v hv ((hd v hv).1 hd'), fun v hv hd' => h.no v hv fun x => hd' ((hd v hv).2 x)⟩
def Gr.doneK (g : Gr) (k x : Nat) : Prop := g.root x < k ∧ g.root x ≠ x
def Gr.doneJ (g : Gr) (k j x : Nat) : Prop := g.doneK k x ∨ (x ∈ g.ord k ∧ (g.ord k).length - j ≤ (g.ord k).idxOf x)

section
variable {g : Gr} (ok : g.ok)
include ok
theorem Gr.fsJ_inv {z : Bool} {sup : Nat → Int} {k : Nat} {s : Fst} (hk : k < g.n) (hc : g.root k = k) (h : g.FInv sup (g.doneK k) s.1 s.2) (j : Nat) (hj : j ≤ (g.ord k).length - 1) : g.FInv sup (g.doneJ k j) (g.fsJ z k s j).1 (g.fsJ z k s j).2 := by
  induction j with
  | zero =>
    refine h.congr fun x _ => ⟨fun hx => ?_, fun hx => .inl hx⟩
    rcases hx with hx | ⟨hx, hi⟩
    · exact hx
    · have := List.idxOf_lt_length_of_mem hx; omega
  | succ j ih =>
    have ih := ih (by omega)
    obtain ⟨v, e, y, hv, hvn, hvr, hvk, hvi, he, hfe, hem, hjn, hoy, hyn, hyr, hyi⟩ := Gr.ord_at ok hk hc (i := (g.ord k).length - 1 - j) (by omega) (by omega)
    have hgd : (g.ord k).getD ((g.ord k).length - 1 - j) 0 = v := by rw [List.getD_eq_getElem?_getD, hv]; rfl
    have het : (g.ent k v).toNat = e := by rw [he]; rfl
    have hvm := List.mem_of_getElem? hv
    have hvy : v ≠ y := by rintro rfl; omega
    have hst : g.fsJ z k s (j + 1) = g.fs z k (g.fsJ z k s j) v := by show g.fs z k _ _ = _; rw [hgd]
    rw [hst]
    refine ih.step ok (v := v) (e := e) (y := y) hvn (by omega) hfe hjn hyn ?_ ?_ (fun x => ?_) ?_ ?_ ?_
    · rintro (⟨a, b⟩ | ⟨a, b⟩) <;> omega
    · rintro (⟨a, b⟩ | ⟨a, b⟩) <;> omega
    · constructor
      · rintro (hx | ⟨hx, hi⟩)
        · exact .inl (.inl hx)
        · by_cases e' : (g.ord k).idxOf x = (g.ord k).length - 1 - j
          · right
            have h1 : (g.ord k)[(g.ord k).idxOf x]'(List.idxOf_lt_length_of_mem hx) = x := List.getElem_idxOf _
            have h2 := (List.getElem?_eq_some_iff.1 hv).2
            have h3 : (g.ord k)[(g.ord k).idxOf x]? = some x := by rw [List.getElem?_eq_getElem (List.idxOf_lt_length_of_mem hx), h1]
            rw [e', hv] at h3
            injection h3 with h3; exact h3.symm
          · exact .inl (.inr ⟨hx, by omega⟩)
      · rintro ((hx | ⟨hx, hi⟩) | rfl)
        · exact .inl hx
        · exact .inr ⟨hx, by omega⟩
        · exact .inr ⟨hvm, by omega⟩
    · show upd _ (g.ent k v).toNat _ = _; rw [het]
    · unfold Gr.fs
      rw [het, hoy]
      cases z
      · show upd _ y _ y = _; unfold upd; rw [if_pos rfl]
      · show upd (upd _ y _) v 0 y = _; unfold upd; rw [if_neg hvy, if_pos rfl]
    · intro x hx hxy hxv
      unfold Gr.fs
      rw [het, hoy]
      cases z
      · show upd _ y _ x = _; unfold upd; rw [if_neg (Ne.symm hxy)]
      · show upd (upd _ y _) v 0 x = _; unfold upd; rw [if_neg (Ne.symm hxv), if_neg (Ne.symm hxy)]
theorem Gr.fsK_inv {z : Bool} {sup : Nat → Int} (k : Nat) (hk : k ≤ g.n) : g.FInv sup (g.doneK k) (g.fsK z (fun _ => 0, sup) k).1 (g.fsK z (fun _ => 0, sup) k).2 := by
  induction k with
  | zero => exact (Gr.FInv.start g sup).congr fun x _ => ⟨fun h => absurd h.1 (by omega), fun h => h.elim⟩
  | succ k ih =>
    have ih := ih (by omega)
    unfold Gr.fsK
    by_cases hc : g.comp k = k
    · rw [if_pos hc]
      have hr := (Gr.root_comp ok (by omega)).1 hc
      refine (Gr.fsJ_inv ok (by omega) hr ih _ (Nat.le_refl _)).congr fun x hx => ⟨fun h => ?_, fun h => ?_⟩
      · by_cases e : g.root x = k
        · refine .inr ⟨(Gr.mem_ord_root ok (by omega) hr).2 ⟨hx, e⟩, ?_⟩
          have := Gr.idxOf_pos ok (a := k) (x := x) (by omega) (fun e' => h.2 (by omega))
          omega
        · exact .inl ⟨by have := h.1; omega, h.2⟩
      · rcases h with h | ⟨h, hi⟩
        · exact ⟨by have := h.1; omega, h.2⟩
        · have h1 := (Gr.mem_ord_root ok (by omega) hr).1 h
          have h2 := List.length_pos_of_mem h
          refine ⟨by omega, fun e => ?_⟩
          have : x = k := by omega
          subst this
          have := Gr.idxOf_r ok (a := x) (by omega)
          omega
    · rw [if_neg hc]
      refine ih.congr fun x hx => ⟨fun h => ⟨?_, h.2⟩, fun h => ⟨by have := h.1; omega, h.2⟩⟩
      have h1 := h.1
      have h2 : g.root x ≠ k := by
        intro e
        have := (Gr.root_facts ok hx).2.2.1
        rw [e] at this
        exact hc ((Gr.root_comp ok (by omega)).2 this)
      omega
theorem Gr.fsK_ff {z : Bool} {sup : Nat → Int} : g.FF sup (g.fsK z (fun _ => 0, sup) g.n).1 :=
  (Gr.fsK_inv ok g.n (Nat.le_refl _)).ff fun _ hv hne => ⟨(Gr.root_facts ok hv).1, hne⟩
theorem Gr.fsK_ffl {z : Bool} {sup : Nat → Int} : mapTo g.m (g.fsK z (fun _ => 0, sup) g.n).1 = mapTo g.m (g.ffl sup) :=
  List.map_congr_left fun i hi => (Gr.ffl_is ok (Gr.fsK_ff ok)).1 i (List.mem_range.1 hi)
theorem Gr.ffl_ff {sup : Nat → Int} : g.FF sup (g.ffl sup) := (Gr.ffl_is ok (Gr.fsK_ff (z := true) ok)).2

end
theorem Gr.ffl_far {g : Gr} (ok : g.ok) {sup : Nat → Int} {e : Nat} (h : g.m ≤ e) : g.ffl sup e = 0 := by
  have e' := @Classical.epsilon_spec (Nat → Int) (fun h => g.FF sup h ∧ ∀ e, g.m ≤ e → h e = 0) ⟨fun e => if e < g.m then (g.fsK true (fun _ => 0, sup) g.n).1 e else 0, by
    have h := Gr.fsK_ff (z := true) (sup := sup) ok
    have hag : ∀ i, i < g.m → (fun e => if e < g.m then (g.fsK true (fun _ => 0, sup) g.n).1 e else 0) i = (g.fsK true (fun _ => 0, sup) g.n).1 i := fun i hi => if_pos hi
    exact ⟨⟨fun i hi hn => (hag i hi).trans (h.supp i hi hn), fun v hv hr => by rw [Gr.out_congr hag]; exact h.bal v hv hr⟩, fun e he => if_neg (by omega)⟩⟩
  exact e'.2 e h

end Go.Proofs.Ytioiebjgjimeiaa
