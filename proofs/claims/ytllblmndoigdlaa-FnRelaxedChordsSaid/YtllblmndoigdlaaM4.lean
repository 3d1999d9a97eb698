/- plain graphs: the flows through the forest, step by step -/
import Derived.Test.YtllblmndoigdlaaQ4
import Derived.RangeFuncNested
import Derived.RangeFuncBound
import Derived.RangeFuncCalls
import Derived.RangeFuncLeaves
import Derived.Shelf.Abstract
import Derived.Shelf.RegionOpen
import Derived.WalkKit
import Derived.OwnWalkIn
import Derived.TacticsInMore
import Derived.LoopNIn
import Derived.LoopIn
import Derived.Test.YtllblmndoigdlaaJ4
import Derived.Test.YtllblmndoigdlaaH9
import Derived.Test.YtllblmndoigdlaaI4
namespace Go.Proofs.Ytllblmndoigdlaa

abbrev Fst := (Nat → Int) × (Nat → Int)
/-- one step at node v of the search from r; z: what is left at v is cleared -/
def Gr.fs (g : Gr) (z : Bool) (r : Nat) (s : Fst) (v : Nat) : Fst :=
  (upd s.1 (g.ent r v).toNat (if g.f (g.ent r v).toNat = v then s.2 v else -(s.2 v)),
   if z then upd (upd s.2 (g.oth (g.ent r v).toNat v) (s.2 (g.oth (g.ent r v).toNat v) + s.2 v)) v 0 else upd s.2 (g.oth (g.ent r v).toNat v) (s.2 (g.oth (g.ent r v).toNat v) + s.2 v))
def Gr.fsJ (g : Gr) (z : Bool) (r : Nat) (s : Fst) : Nat → Fst
  | 0 => s
  | j + 1 => g.fs z r (g.fsJ z r s j) ((g.ord r).getD ((g.ord r).length - 1 - j) 0)
def Gr.fsK (g : Gr) (z : Bool) (s : Fst) : Nat → Fst
  | 0 => s
  | k + 1 => if g.comp k = k then g.fsJ z k (g.fsK z s k) ((g.ord k).length - 1) else g.fsK z s k
def Gr.ordK (g : Gr) : Nat → List Nat
  | 0 => []
  | k + 1 => if g.comp k = k then g.ordK k ++ g.ord k else g.ordK k

/-! ### bounds -/
structure Lim (B : Int) (s : Fst) : Prop where
  fl : ∀ e, -B ≤ s.1 e ∧ s.1 e ≤ B
  left : ∀ v, -B ≤ s.2 v ∧ s.2 v ≤ B
def pw (k : Nat) : Int := 30000 * 2 ^ k
theorem pw_succ (k : Nat) : pw (k + 1) = 2 * pw k := by unfold pw; rw [Int.pow_succ]; omega
theorem pw_ge (k : Nat) : 30000 ≤ pw k := by
  induction k with
  | zero => decide
  | succ k ih => rw [pw_succ]; omega
theorem pw_mono {j k : Nat} (h : j ≤ k) : pw j ≤ pw k := by
  induction k with
  | zero => have : j = 0 := by omega
            subst this; omega
  | succ k ih =>
    rcases Nat.lt_or_ge k j with hj | hj
    · have : j = k + 1 := by omega
      subst this; omega
    · have := ih hj; have := pw_ge k; rw [pw_succ]; omega
theorem pw_le {k : Nat} (h : k ≤ 24) : pw k ≤ 503316480000 := Int.le_trans (pw_mono h) (by decide)
theorem Gr.fs_lim {g : Gr} {z : Bool} {r v : Nat} {s : Fst} {B : Int} (hB : 0 ≤ B) (h : Lim B s) : Lim (2 * B) (g.fs z r s v) := by
  refine ⟨fun e => ?_, fun x => ?_⟩
  · have h1 := h.fl e
    have h2 := h.left v
    show -(2 * B) ≤ upd s.1 _ _ e ∧ upd s.1 _ _ e ≤ 2 * B
    unfold upd
    split
    · split <;> omega
    · omega
  · have h1 := h.left x
    have h2 := h.left v
    have h3 := h.left (g.oth (g.ent r v).toNat v)
    have key : ∀ t : Nat → Int, (t = upd (upd s.2 (g.oth (g.ent r v).toNat v) (s.2 (g.oth (g.ent r v).toNat v) + s.2 v)) v 0 ∨ t = upd s.2 (g.oth (g.ent r v).toNat v) (s.2 (g.oth (g.ent r v).toNat v) + s.2 v)) → -(2 * B) ≤ t x ∧ t x ≤ 2 * B := by
      rintro t (rfl | rfl)
      · unfold upd
        split
        · omega
        · split <;> omega
      · unfold upd
        split <;> omega
    refine key _ ?_
    cases z
    · exact .inr rfl
    · exact .inl rfl
theorem Lim.mono {B C : Int} {s : Fst} (h : Lim B s) (hBC : B ≤ C) : Lim C s :=
  ⟨fun e => by have := h.fl e; omega, fun e => by have := h.left e; omega⟩
theorem Lim.fs {g : Gr} {z : Bool} {r v k : Nat} {s : Fst} (h : Lim (pw k) s) : Lim (pw (k + 1)) (g.fs z r s v) := by
  rw [pw_succ]; exact Gr.fs_lim (by have := pw_ge k; omega) h
theorem Lim.fsJ {g : Gr} {z : Bool} {r k : Nat} {s : Fst} (h : Lim (pw k) s) (j : Nat) : Lim (pw (k + j)) (g.fsJ z r s j) := by
  induction j with
  | zero => exact h
  | succ j ih => exact ih.fs
theorem Gr.fsK_lim {g : Gr} {z : Bool} {s : Fst} (h : Lim 30000 s) (k : Nat) : Lim (pw (g.ordK k).length) (g.fsK z s k) := by
  induction k with
  | zero => exact h
  | succ k ih =>
    unfold Gr.ordK Gr.fsK
    by_cases hc : g.comp k = k
    · rw [if_pos hc, if_pos hc]
      refine (ih.fsJ _).mono (pw_mono ?_)
      rw [List.length_append]; omega
    · rw [if_neg hc, if_neg hc]; exact ih

section
variable {g : Gr} (ok : g.ok)
include ok
theorem Gr.root_comp {k : Nat} (hk : k < g.n) : g.comp k = k ↔ g.root k = k := by
  rw [Gr.comp_root ok hk]; omega
theorem Gr.mem_ord_root {k x : Nat} (hk : k < g.n) (hc : g.root k = k) : x ∈ g.ord k ↔ x < g.n ∧ g.root x = k :=
  ⟨fun h => ⟨Gr.ord_lt ok hk x h, Gr.root_of_mem ok hk hc h⟩, fun h => by have := (Gr.root_facts ok h.1).2.2.2; rw [h.2] at this; exact this⟩
theorem Gr.ordK_mem {k x : Nat} (hk : k ≤ g.n) (h : x ∈ g.ordK k) : x < g.n ∧ g.root x < k := by
  induction k with
  | zero => cases h
  | succ k ih =>
    unfold Gr.ordK at h
    by_cases hc : g.comp k = k
    · rw [if_pos hc] at h
      rcases List.mem_append.1 h with h | h
      · have := ih (by omega) h; omega
      · have := (Gr.mem_ord_root ok (by omega) ((Gr.root_comp ok (by omega)).1 hc)).1 h; omega
    · rw [if_neg hc] at h
      have := ih (by omega) h; omega
theorem Gr.ordK_nodup {k : Nat} (hk : k ≤ g.n) : (g.ordK k).Nodup := by
  induction k with
  | zero => exact List.nodup_nil
  | succ k ih =>
    unfold Gr.ordK
    by_cases hc : g.comp k = k
    · rw [if_pos hc, List.nodup_append]
      refine ⟨ih (by omega), (Gr.ord_inv ok (by omega)).nodup, fun a ha b hb => ?_⟩
      have h1 := Gr.ordK_mem ok (by omega) ha
      have h2 := (Gr.mem_ord_root ok (by omega) ((Gr.root_comp ok (by omega)).1 hc)).1 hb
      rintro rfl
      omega
    · rw [if_neg hc]; exact ih (by omega)
theorem Gr.ordK_len {k : Nat} (hk : k ≤ g.n) : (g.ordK k).length ≤ g.n := nodup_len (Gr.ordK_nodup ok hk) fun _ hx => (Gr.ordK_mem ok hk hx).1
theorem Gr.ordK_step {k : Nat} (hk : k < g.n) (hc : g.comp k = k) : (g.ordK k).length + (g.ord k).length ≤ g.n := by
  have := Gr.ordK_len ok (k := k + 1) (by omega)
  unfold Gr.ordK at this
  rw [if_pos hc, List.length_append] at this
  exact this

/-- what stands at place i > 0 of the order -/
theorem Gr.ord_at {k i : Nat} (hk : k < g.n) (hc : g.root k = k) (hi : i < (g.ord k).length) (h0 : 0 < i) : ∃ v e y : Nat, (g.ord k)[i]? = some v ∧ v < g.n ∧ g.root v = k ∧ v ≠ k ∧ (g.ord k).idxOf v = i ∧ g.ent k v = e ∧ g.fe v = e ∧ e < g.m ∧ g.joins e v y ∧ g.oth e v = y ∧ y < g.n ∧ g.root y = k ∧ (g.ord k).idxOf y < i := by
  have inv := Gr.ord_inv ok hk
  have hnd : (g.ord k).Nodup := inv.nodup
  obtain ⟨v, hv⟩ : ∃ v, (g.ord k)[i]? = some v := ⟨_, List.getElem?_eq_getElem hi⟩
  have hvm := List.mem_of_getElem? hv
  have hvi : (g.ord k).idxOf v = i := by
    have := List.Nodup.idxOf_getElem hnd i hi
    rw [(List.getElem?_eq_some_iff.1 hv).2] at this; exact this
  have hvk : v ≠ k := by rintro rfl; have := Gr.idxOf_r ok hk; omega
  have hvr := (Gr.mem_ord_root ok hk hc).1 hvm
  obtain ⟨e, e1, e2, y, hy, e3, e4⟩ := inv.ent v hvm hvk
  have hyr := (Gr.mem_ord_root ok hk hc).1 hy
  have e3' : (g.ord k).idxOf y < (g.ord k).idxOf v := e3
  have hne : v ≠ y := by rintro rfl; omega
  exact ⟨v, e, y, hv, hvr.1, hvr.2, hvk, hvi, e1, by unfold Gr.fe; rw [hvr.2]; exact e1, e2, e4, Gr.oth_of_joins e4 hne, hyr.1, hyr.2, by omega⟩

end

theorem Gr.FInv.congr {g : Gr} {sup : Nat → Int} {done done' : Nat → Prop} {fl left : Nat → Int} (h : g.FInv sup done fl left) (hd : ∀ x, x < g.n → (done' x ↔ done x)) : g.FInv sup done' fl left :=
  ⟨fun e he => by obtain ⟨v, a, b, c⟩ := h.supp e he; exact ⟨v, a, (hd v a).2 b, c⟩, fun v hv hd' => h.yes v hv ((hd v hv).1 hd'), fun v hv hd' => h.no v hv fun x => hd' ((hd v hv).2 x)⟩
def Gr.doneK (g : Gr) (k x : Nat) : Prop := g.root x < k ∧ g.root x ≠ x
def Gr.doneJ (g : Gr) (k j x : Nat) : Prop := g.doneK k x ∨ (x ∈ g.ord k ∧ (g.ord k).length - j ≤ (g.ord k).idxOf x)

section
variable {g : Gr} (ok : g.ok)
include ok
theorem Gr.fsJ_inv {z : Bool} {sup : Nat → Int} {k : Nat} {s : Fst} (hk : k < g.n) (hc : g.root k = k) (h : g.FInv sup (g.doneK k) s.1 s.2) (j : Nat) (hj : j ≤ (g.ord k).length - 1) : g.FInv sup (g.doneJ k j) (g.fsJ z k s j).1 (g.fsJ z k s j).2 := by
  induction j with
  | zero =>
    refine h.congr fun x _ => ⟨fun hx => ?_, fun hx => .inl hx⟩
    rcases hx with hx | ⟨hx, hi⟩
    · exact hx
    · have := List.idxOf_lt_length_of_mem hx; omega
  | succ j ih =>
    have ih := ih (by omega)
    obtain ⟨v, e, y, hv, hvn, hvr, hvk, hvi, he, hfe, hem, hjn, hoy, hyn, hyr, hyi⟩ := Gr.ord_at ok hk hc (i := (g.ord k).length - 1 - j) (by omega) (by omega)
    have hgd : (g.ord k).getD ((g.ord k).length - 1 - j) 0 = v := by rw [List.getD_eq_getElem?_getD, hv]; rfl
    have het : (g.ent k v).toNat = e := by rw [he]; rfl
    have hvm := List.mem_of_getElem? hv
    have hvy : v ≠ y := by rintro rfl; omega
    have hst : g.fsJ z k s (j + 1) = g.fs z k (g.fsJ z k s j) v := by show g.fs z k _ _ = _; rw [hgd]
    rw [hst]
    refine ih.step ok (v := v) (e := e) (y := y) hvn (by omega) hfe hjn hyn ?_ ?_ (fun x => ?_) ?_ ?_ ?_
    · rintro (⟨a, b⟩ | ⟨a, b⟩) <;> omega
    · rintro (⟨a, b⟩ | ⟨a, b⟩) <;> omega
    · constructor
      · rintro (hx | ⟨hx, hi⟩)
        · exact .inl (.inl hx)
        · by_cases e' : (g.ord k).idxOf x = (g.ord k).length - 1 - j
          · right
            have h1 : (g.ord k)[(g.ord k).idxOf x]'(List.idxOf_lt_length_of_mem hx) = x := List.getElem_idxOf _
            have h2 := (List.getElem?_eq_some_iff.1 hv).2
            have h3 : (g.ord k)[(g.ord k).idxOf x]? = some x := by rw [List.getElem?_eq_getElem (List.idxOf_lt_length_of_mem hx), h1]
            rw [e', hv] at h3
            injection h3 with h3; exact h3.symm
          · exact .inl (.inr ⟨hx, by omega⟩)
      · rintro ((hx | ⟨hx, hi⟩) | rfl)
        · exact .inl hx
        · exact .inr ⟨hx, by omega⟩
        · exact .inr ⟨hvm, by omega⟩
    · show upd _ (g.ent k v).toNat _ = _; rw [het]
    · unfold Gr.fs
      rw [het, hoy]
      cases z
      · show upd _ y _ y = _; unfold upd; rw [if_pos rfl]
      · show upd (upd _ y _) v 0 y = _; unfold upd; rw [if_neg hvy, if_pos rfl]
    · intro x hx hxy hxv
      unfold Gr.fs
      rw [het, hoy]
      cases z
      · show upd _ y _ x = _; unfold upd; rw [if_neg (Ne.symm hxy)]
      · show upd (upd _ y _) v 0 x = _; unfold upd; rw [if_neg (Ne.symm hxv), if_neg (Ne.symm hxy)]
theorem Gr.fsK_inv {z : Bool} {sup : Nat → Int} (k : Nat) (hk : k ≤ g.n) : g.FInv sup (g.doneK k) (g.fsK z (fun _ => 0, sup) k).1 (g.fsK z (fun _ => 0, sup) k).2 := by
  induction k with
  | zero => exact (Gr.FInv.start g sup).congr fun x _ => ⟨fun h => absurd h.1 (by omega), fun h => h.elim⟩
  | succ k ih =>
    have ih := ih (by omega)
    unfold Gr.fsK
    by_cases hc : g.comp k = k
    · rw [if_pos hc]
      have hr := (Gr.root_comp ok (by omega)).1 hc
      refine (Gr.fsJ_inv ok (by omega) hr ih _ (Nat.le_refl _)).congr fun x hx => ⟨fun h => ?_, fun h => ?_⟩
      · by_cases e : g.root x = k
        · refine .inr ⟨(Gr.mem_ord_root ok (by omega) hr).2 ⟨hx, e⟩, ?_⟩
          have := Gr.idxOf_pos ok (a := k) (x := x) (by omega) (fun e' => h.2 (by omega))
          omega
        · exact .inl ⟨by have := h.1; omega, h.2⟩
      · rcases h with h | ⟨h, hi⟩
        · exact ⟨by have := h.1; omega, h.2⟩
        · have h1 := (Gr.mem_ord_root ok (by omega) hr).1 h
          have h2 := List.length_pos_of_mem h
          refine ⟨by omega, fun e => ?_⟩
          have : x = k := by omega
          subst this
          have := Gr.idxOf_r ok (a := x) (by omega)
          omega
    · rw [if_neg hc]
      refine ih.congr fun x hx => ⟨fun h => ⟨?_, h.2⟩, fun h => ⟨by have := h.1; omega, h.2⟩⟩
      have h1 := h.1
      have h2 : g.root x ≠ k := by
        intro e
        have := (Gr.root_facts ok hx).2.2.1
        rw [e] at this
        exact hc ((Gr.root_comp ok (by omega)).2 this)
      omega
theorem Gr.fsK_ff {z : Bool} {sup : Nat → Int} : g.FF sup (g.fsK z (fun _ => 0, sup) g.n).1 :=
  (Gr.fsK_inv ok g.n (Nat.le_refl _)).ff fun _ hv hne => ⟨(Gr.root_facts ok hv).1, hne⟩
theorem Gr.fsK_ffl {z : Bool} {sup : Nat → Int} : mapTo g.m (g.fsK z (fun _ => 0, sup) g.n).1 = mapTo g.m (g.ffl sup) :=
  List.map_congr_left fun i hi => (Gr.ffl_is ok (Gr.fsK_ff ok)).1 i (List.mem_range.1 hi)
theorem Gr.ffl_ff {sup : Nat → Int} : g.FF sup (g.ffl sup) := (Gr.ffl_is ok (Gr.fsK_ff (z := true) ok)).2

end
theorem Gr.ffl_far {g : Gr} (ok : g.ok) {sup : Nat → Int} {e : Nat} (h : g.m ≤ e) : g.ffl sup e = 0 := by
  have e' := @Classical.epsilon_spec (Nat → Int) (fun h => g.FF sup h ∧ ∀ e, g.m ≤ e → h e = 0) ⟨fun e => if e < g.m then (g.fsK true (fun _ => 0, sup) g.n).1 e else 0, by
    have h := Gr.fsK_ff (z := true) (sup := sup) ok
    have hag : ∀ i, i < g.m → (fun e => if e < g.m then (g.fsK true (fun _ => 0, sup) g.n).1 e else 0) i = (g.fsK true (fun _ => 0, sup) g.n).1 i := fun i hi => if_pos hi
    exact ⟨⟨fun i hi hn => (hag i hi).trans (h.supp i hi hn), fun v hv hr => by rw [Gr.out_congr hag]; exact h.bal v hv hr⟩, fun e he => if_neg (by omega)⟩⟩
  exact e'.2 e h

end Go.Proofs.Ytllblmndoigdlaa

/- ranges over a function: what is kept -/
namespace Go.Proofs.Ytllblmndoigdlaa
open Go Go.RowKit

theorem own_obj {w : World} {A : Option Addr} {n c : Nat} {zs : List Int} (h : Own w A n c zs) : ∀ a, A = some a → ∃ o : Obj, w.heap[a.block]? = some o ∧ o.isCells = true := by
  intro a ha
  rcases h.row.2 with ⟨h1, _⟩ | ⟨g, cap, cur, h1, _, hg, _⟩
  · injection h1 with e; rw [e] at ha; cases ha
  · injection h1 with e
    rw [e] at ha; injection ha with ha; subst ha
    exact ⟨_, hg, rfl⟩
theorem Own.kept {W W' : World} {A : Option Addr} {n c : Nat} {zs : List Int} {row : Option Nat} (h : Own W A n c zs) (hg : W.grownBy W' row) (hr : ∀ r, row = some r → ∃ o : Obj, W.heap[r]? = some o ∧ o.isCells = false) : Own W' A n c zs :=
  h.keep fun a ha => by
    obtain ⟨o, ho, hc⟩ := own_obj h a ha
    exact grownBy_keeps_cells hg hr ho hc
theorem blk_kept {W W' : World} {row : Option Nat} {k : Nat} {cs : Array Value} {t : TypeId} {fr : Nat × Nat} (h : W.heap[k]? = some (.cells cs t fr)) (hg : W.grownBy W' row) (hr : ∀ r, row = some r → ∃ o : Obj, W.heap[r]? = some o ∧ o.isCells = false) : W'.heap[k]? = some (.cells cs t fr) :=
  (grownBy_keeps_cells hg hr h rfl).trans h
theorem keepsOthers_below {W W' : World} (h : Below W.heap.size W W') : KeepsOthers W W' :=
  ⟨h.size, fun k _ hk _ => (h.block k (Array.getElem?_eq_some_iff.1 hk).1).trans hk⟩

def mark (D : Nat) : Deferred := { target := .collected D, args := #[] }
theorem leaves_marks {F : Fence} {n : Nat} {P : Program} {fn : Func} {tmps : Array Value} {R : Ending → World → Prop} {B : Nat} (Ds : List Nat) : ∀ (W : World), Ds.Nodup → (∀ D ∈ Ds, B ≤ D ∧ W.heap[D]? = some (.deferred (some []))) →
    (∀ W', Below B W W' → (∀ (k : Nat) (o : Obj), W.heap[k]? = some o → o.isCells = true → W'.heap[k]? = some o) → LeavesIn F n P fn tmps R [] .returning W') → LeavesInM F n P fn tmps R (Ds.map mark) .returning W := by
  induction Ds with
  | nil => exact fun W _ _ h => h W (Below.refl _ _) (fun _ _ h _ => h)
  | cons D Ds ih =>
    intro W hnd hD h
    obtain ⟨h1, h2⟩ := List.nodup_cons.1 hnd
    have hd := hD D List.mem_cons_self
    have hlt := (Array.getElem?_eq_some_iff.1 hd.2).1
    have hb : Below B W (W.putObj D (.deferred none)) := (Below.refl B W).grown (grownBy_putObj' W D _) (by omega) (fun k e => by cases e; exact hd.1)
    refine ⟨by simp, .inl ⟨D, _, rfl, run_takeDeferred hd.2, ih _ h2 (fun D' hD' => ?_) fun W' hb' hk => h W' (hb.trans hb') fun k o hko hc => hk k o ?_ hc⟩⟩
    · have := hD D' (List.mem_cons_of_mem _ hD')
      exact ⟨this.1, (World.putObj_heap_other (by rintro rfl; exact h1 hD')).trans this.2⟩
    · refine (World.putObj_heap_other ?_).trans hko
      rintro rfl
      rw [hd.2] at hko
      cases hko; cases hc
/-! ### operations in a round -/
theorem rowsIn_wide {n : Nat} {P : Program} {row : String} {args : Array Value} {w : World} {R : Value → World → Prop} (h : Rows P row args w R) : RowsIn Fence.wide n P row args w R :=
  fun c cs _ => let ⟨v, w', r, s⟩ := h c cs; ⟨v, w', r, stepsIn_wide.2 s⟩
def noDefer (o : Oper) : Bool := match o.op with
  | .defer _ => false
  | _ => true

section
variable {n l0 : Nat} {P : Program} {ops : Array Oper} {Q : Exit → Act → World → Prop}
theorem opIn_round {o : Oper} {a : Act} {w : World} {K : Act → World → Prop} (hd : noDefer o = true) (h : o.wp P a w K Q) : o.wpIn (Fence.wide.inRound l0) n P a w K Q := by
  unfold Oper.wp at h
  refine ⟨fun _ _ => trivial, ?_⟩
  rw [show (Fence.wide.inRound l0).round = some l0 from rfl, Oper.semAt_some l0 _ _ (fun c hc => by unfold noDefer at hd; rw [hc] at hd; cases hd)]
  generalize (execOp a.eval o).run P w = r at *
  cases r with
  | ok x w' =>
    cases x <;> simp only [Oper.upon] at h <;> simp only [Oper.uponIn] <;>
      first
        | exact h
        | exact ⟨fun hs => (by cases hs), callsIn_wide.2 h⟩
        | exact ⟨fun hs => (by cases hs), rowsIn_wide h⟩
        | exact h.elim
  | halt x w' => cases x <;> simp only [Oper.upon] at h <;> simp only [Oper.uponIn] <;> exact h
theorem wpListIn_round (hno : ¬ LetsOut Q) : ∀ {rest : List Oper} {a : Act} {w : World}, (rest.all noDefer) = true → wpList P ops Q rest a w → wpListIn (Fence.wide.inRound l0) n P ops Q rest a w
  | [], _, _, _, h => h
  | o :: rest, a, w, hd, h => by
    rw [List.all_cons, Bool.and_eq_true] at hd
    unfold wpList at h
    unfold wpListIn
    split at h
    · rename_i hw
      rw [if_pos hw]
      exact opIn_round hd.1 (Oper.wp_mono (fun a w h => wpListIn_round hno hd.2 h) (h.resolve_right fun x => hno x.2))
    · rename_i hw
      rw [if_neg hw]
      exact ⟨fun _ _ => trivial, wpListIn_round hno hd.2 h⟩
theorem region_round {id : Nat} {l : List Oper} {a : Act} {w : World} (hno : ¬ LetsOut Q) (hd : (l.all noDefer) = true) (h : wpList P l.toArray Q l a w) : (Code.region id l.toArray false).wpIn (Fence.wide.inRound l0) n P Q a w :=
  wpIn_region_lit (wpListIn_round hno hd h)
theorem wpAnyIn_round {md : Region.Mode} (hno : ¬ LetsOut Q) (hd : (ops.all noDefer) = true) : ∀ (fuel : Nat) (listed : Array Bool) (a : Act) (w : World), wpAny P md ops Q fuel listed a w → wpAnyIn (Fence.wide.inRound l0) n P md ops Q fuel listed a w
  | 0, _, _, _, h => h
  | fuel + 1, _, _, _, h => ⟨h.1, fun i hi => by
    have h2 := h.2 i hi
    unfold wpOp at h2
    unfold wpOpIn
    rcases ho : ops[i]? with _ | o
    · simp only [ho] at h2 ⊢
      exact wpAnyIn_round hno hd fuel _ _ _ h2
    · simp only [ho] at h2 ⊢
      split at h2
      · rename_i hw
        rw [if_pos hw]
        refine opIn_round ?_ (Oper.wp_mono (fun a w h => wpAnyIn_round hno hd fuel _ a w h) (h2.resolve_right fun x => hno x.2))
        exact Array.all_eq_true'.1 hd o (Array.mem_of_getElem? ho)
      · rename_i hw
        rw [if_neg hw]
        exact ⟨fun _ _ => trivial, wpAnyIn_round hno hd fuel _ _ _ h2⟩⟩
theorem any_round {id : Nat} {l : List Oper} {a : Act} {w : World} (hno : ¬ LetsOut Q) (hm : P.follows .mixedOrders = true) (hd : (l.toArray.all noDefer) = true) (h : wpAny P .any l.toArray Q l.toArray.size (Array.replicate l.toArray.size false) a { w with drawn := w.drawn + 1 }) : (Code.region id l.toArray true).wpIn (Fence.wide.inRound l0) n P Q a w :=
  wpIn_region_any hm (wpAnyIn_round hno hd _ _ _ _ h)

end
end Go.Proofs.Ytllblmndoigdlaa

/- slices.Backward over a slice of int64 -/
namespace Go.Proofs.Ytllblmndoigdlaa
open Go Go.RowKit Go.Shelf

attribute [local go_sem] Oper.semAt_some

/-- what the k-th round is handed -/
def bkE (L : Nat) (zs : List Int) (k : Nat) : Array Value := #[.int .i64 ((L - 1 - k : Nat) : Int), .int .i64 (ig zs (L - 1 - k))]
/-- what a round keeps: the slice's box and its row -/
def bkK (Bs b : Nat) (W W' : World) : Prop := W'.heap[Bs]? = W.heap[Bs]? ∧ W'.heap[b]? = W.heap[b]?
theorem bkK.trans {Bs b : Nat} {A B C : World} (h : bkK Bs b A B) (k : bkK Bs b B C) : bkK Bs b A C := ⟨k.1.trans h.1, k.2.trans h.2⟩
theorem bkK.put {Bs b : Nat} {w : World} (h1 : Bs < w.heap.size) (h2 : b < w.heap.size) (W : World) (l : Nat) (o o' : Obj) (hl : w.heap.size ≤ l) (_ : W.heap[l]? = some o) (_ : o.isCells = false) (_ : o.isWalk = false) : bkK Bs b W (W.putObj l o') :=
  ⟨World.putObj_heap_other (by omega), World.putObj_heap_other (by omega)⟩

set_option maxRecDepth 100000 in
set_option maxHeartbeats 2000000 in
theorem backward1_in (n l Bs b off L cap : Nat) (zs : List Int) (hn : 1 ≤ n) (hLc : L ≤ cap) (hcap : cap ≤ 9223372036854775807) (J Jx : List Nat → World → Prop)
    (hY : ∀ pre x W, J pre W → pre.length < L → YieldAt Fence.wide (n - 1) Try.prog l (bkE L zs x) W fun e W' =>
      (e = .returned (.bool true) ∧ J (pre ++ [x]) W' ∧ bkK Bs b W W') ∨ (e = .returned (.bool false) ∧ Jx (pre ++ [x]) W'))
    (W : World) (hBs : W.heap[Bs]? = some (.cells #[.slice (some ⟨b, off, none⟩) L cap] 28 (0, 0))) (hc : ∀ j, j < L → W.cell? ⟨b, off + j, none⟩ = some (.int .i64 (ig zs j))) (h0 : J [] W) :
    CallsIn Fence.wide n Try.prog 139 #[.func (.yield l) #[] #[], .pointer (some ⟨Bs, 0, none⟩)] W fun e W' => (∃ v, e = .returned v) ∧
      ((∃ ys, ys = List.range L ∧ J ys W') ∨ (∃ pre, True ∧ Jx pre W')) := by
  have hB0 : W.cell? ⟨Bs, 0, none⟩ = some (.slice (some ⟨b, off, none⟩) L cap) := by rw [cell_blk hBs]; rfl
  refine callsIn_of_wp Try.func139 rfl trivial ?_ rfl
  simp only [Try.ntmps139, List.size_toArray, List.length_cons, List.length_nil, Nat.reduceAdd, Nat.reduceSub, Array.replicate_succ, Array.replicate_zero, List.push_toArray, List.append_toArray, List.nil_append, List.cons_append]
  gi_wp2
  gi_loopw [3] (fun i wr => ∃ k : Nat, k ≤ L ∧ i = .int .i64 ((L : Int) - 1 - k) ∧ J (List.range k) wr ∧ bkK Bs b W wr)
    (fun i _ => (intOf i + 1).toNat)
  case atStart => exact ⟨0, by omega, by simp, h0, ⟨rfl, rfl⟩⟩
  case round =>
    obtain ⟨k, hk, rfl, hJs, hkp⟩ := hrel
    have hB1 : wr.cell? ⟨Bs, 0, none⟩ = some (.slice (some ⟨b, off, none⟩) L cap) := by rw [cell_blk (hkp.1.trans hBs)]; rfl
    by_cases hlt : k < L
    · obtain ⟨i, hi⟩ : ∃ i : Nat, i = L - 1 - k := ⟨_, rfl⟩
      have hii : (L : Int) - 1 - (k : Int) = (i : Int) := by omega
      have hiL : i < L := by omega
      rw [hii]
      obtain ⟨fn, tmps, assign, body, hy, hR⟩ := hY _ k wr hJs (by rw [List.length_range]; exact hlt)
      rw [bkE, ← hi] at hy
      have hcx : wr.cell? ⟨b, off + i, none⟩ = some (.int .i64 (ig zs i)) := (World.cell?_of_block (a := ⟨b, off + i, none⟩) hkp.2).trans (hc i hiL)
      have HI := Lib.hid hi
      clear hi hii
      gi_wp2
      refine hR.mono ?_
      rintro e W3 (⟨rfl, hJ3, hk3⟩ | ⟨rfl, hJx3⟩)
      · gi_wp2
        go_roundw
        case rel => exact ⟨k + 1, by omega, by have := HI.out; congr 1; omega, by rw [List.range_succ]; exact hJ3, hkp.trans hk3⟩
        case measure => simp [intOf]
      · gi_wp2
        refine bodyPost_ret (results_none rfl _ _ _) rfl ?_
        exact ⟨⟨_, rfl⟩, .inr ⟨_, trivial, hJx3⟩⟩
    · obtain rfl : k = L := by omega
      have hii : (k : Int) - 1 - (k : Int) = -1 := by omega
      rw [hii]
      gi_wp2
      go_end0
      exact ⟨⟨_, rfl⟩, .inl ⟨_, rfl, hJs⟩⟩

theorem backward_stops (n Bs b off L cap : Nat) (zs : List Int) (hn : 1 ≤ n) (hLc : L ≤ cap) (hcap : cap ≤ 9223372036854775807) (w : World) (hBl : Bs < w.heap.size) (hbl : b < w.heap.size)
    (hBs : w.heap[Bs]? = some (.cells #[.slice (some ⟨b, off, none⟩) L cap] 28 (0, 0))) (hc : ∀ j, j < L → w.cell? ⟨b, off + j, none⟩ = some (.int .i64 (ig zs j))) :
    SeqStopsK Fence.wide n Try.prog 139 #[.pointer (some ⟨Bs, 0, none⟩)] (bkE L zs) (bkK Bs b) (fun ys => ys = List.range L) (fun _ => True) L w :=
  fun l J Jx W hW _ _ hY h0 => backward1_in n l Bs b off L cap zs hn hLc hcap J Jx hY W ((hW.block Bs hBl).trans hBs) (fun j hj => (hW.cell (p := ⟨b, off + j, none⟩) hbl).trans (hc j hj)) h0

set_option maxHeartbeats 1000000 in
theorem slicesBackward_any (A : Option Addr) (n c : Nat) (w : World) :
    Calls Try.prog 113 #[.slice A n c] w fun e w' => e = .returned (.func (.func 139) #[] #[.pointer (some ⟨w.heap.size, 0, none⟩)]) ∧ w' = w.alloc (.cells #[.slice A n c] 28) := by
  go_enter Try.func113, Try.ntmps113
  go_wp2_with fail
  go_ret
  exact ⟨rfl, rfl⟩

end Go.Proofs.Ytllblmndoigdlaa

/- the flows through the forest: the program -/
namespace Go.Proofs.Ytllblmndoigdlaa
open Go Go.RowKit Go.Shelf

attribute [local go_sem] Oper.semAt_some

/-- what lies in memory while the flows through the forest are found -/
structure FW (w : World) (A : Option Addr) (n c : Nat) (B : Option Addr) (m d : Nat) (bn bf gF bl gL bc cl : Nat) (comp fl left : Nat → Int) (W : World) : Prop where
  bx : W.heap[bn]? = some (.cells #[.slice A n c, .slice B m d] 27 (0, 0))
  xF : W.heap[gF]? = some (.cells #[.slice (some ⟨bf, 0, none⟩) m m] 28 (0, 0))
  xL : W.heap[gL]? = some (.cells #[.slice (some ⟨bl, 0, none⟩) n cl] 28 (0, 0))
  oF : Own W (some ⟨bf, 0, none⟩) m m (mapTo m fl)
  oL : Own W (some ⟨bl, 0, none⟩) n cl (mapTo n left)
  oC : Own W (some ⟨bc, 0, none⟩) n n (mapTo n comp)
  bel : Below w.heap.size w W
  h0 : w.heap.size ≤ bn
  h1 : bn < bf
  h2 : bf < gF
  h3 : gF < bl
  h4 : bl < gL
  h5 : gL < bc

section
variable {w W W' : World} {A B : Option Addr} {n c m d bn bf gF bl gL bc cl : Nat} {comp fl left : Nat → Int}
theorem FW.lt (h : FW w A n c B m d bn bf gF bl gL bc cl comp fl left W) : bc < W.heap.size := h.oC.lt _ rfl
theorem FW.later (h : FW w A n c B m d bn bf gF bl gL bc cl comp fl left W) (hb : Below W.heap.size W W') : FW w A n c B m d bn bf gF bl gL bc cl comp fl left W' := by
  have hl := h.lt
  have e1 := h.h1; have e2 := h.h2; have e3 := h.h3; have e4 := h.h4; have e5 := h.h5
  exact ⟨(hb.block _ (by omega)).trans h.bx, (hb.block _ (by omega)).trans h.xF, (hb.block _ (by omega)).trans h.xL, h.oF.later hb, h.oL.later hb, h.oC.later hb, below_step h.bel hb, h.h0, h.h1, h.h2, h.h3, h.h4, h.h5⟩
theorem FW.kept {row : Option Nat} {S : Nat} (h : FW w A n c B m d bn bf gF bl gL bc cl comp fl left W) (hg : W.grownBy W' row) (hS : w.heap.size ≤ S) (hr : ∀ r, row = some r → S ≤ r ∧ ∃ o : Obj, W.heap[r]? = some o ∧ o.isCells = false) : FW w A n c B m d bn bf gF bl gL bc cl comp fl left W' :=
  have hr' : ∀ r, row = some r → ∃ o : Obj, W.heap[r]? = some o ∧ o.isCells = false := fun r e => (hr r e).2
  ⟨blk_kept h.bx hg hr', blk_kept h.xF hg hr', blk_kept h.xL hg hr', h.oF.kept hg hr', h.oL.kept hg hr', h.oC.kept hg hr', h.bel.grown hg h.bel.size (fun k e => Nat.le_trans hS (hr k e).1), h.h0, h.h1, h.h2, h.h3, h.h4, h.h5⟩
theorem FW.putF (h : FW w A n c B m d bn bf gF bl gL bc cl comp fl left W) (j : Nat) {z : Int} (hz : I64 z) : FW w A n c B m d bn bf gF bl gL bc cl comp (upd fl j z) left (W.setCell ⟨bf, j, none⟩ (.int .i64 z)) := by
  have e0 := h.h0; have e1 := h.h1; have e2 := h.h2; have e3 := h.h3; have e4 := h.h4; have e5 := h.h5
  refine ⟨(Below.heap_setCell W _ _ _ (by show bn ≠ bf; omega)).trans h.bx, (Below.heap_setCell W _ _ _ (by show gF ≠ bf; omega)).trans h.xF, (Below.heap_setCell W _ _ _ (by show gL ≠ bf; omega)).trans h.xL, ?_, ?_, ?_, h.bel.setCell (by show _ ≤ bf; omega) _, h.h0, h.h1, h.h2, h.h3, h.h4, h.h5⟩
  · rw [← mapTo_upd]; exact h.oF.store j hz
  · exact h.oL.far (fun a ha => by injection ha with ha; subst ha; show bl ≠ bf; omega) _
  · exact h.oC.far (fun a ha => by injection ha with ha; subst ha; show bc ≠ bf; omega) _
theorem FW.putL (h : FW w A n c B m d bn bf gF bl gL bc cl comp fl left W) (j : Nat) {z : Int} (hz : I64 z) : FW w A n c B m d bn bf gF bl gL bc cl comp fl (upd left j z) (W.setCell ⟨bl, j, none⟩ (.int .i64 z)) := by
  have e0 := h.h0; have e1 := h.h1; have e2 := h.h2; have e3 := h.h3; have e4 := h.h4; have e5 := h.h5
  refine ⟨(Below.heap_setCell W _ _ _ (by show bn ≠ bl; omega)).trans h.bx, (Below.heap_setCell W _ _ _ (by show gF ≠ bl; omega)).trans h.xF, (Below.heap_setCell W _ _ _ (by show gL ≠ bl; omega)).trans h.xL, ?_, ?_, ?_, h.bel.setCell (by show _ ≤ bl; omega) _, h.h0, h.h1, h.h2, h.h3, h.h4, h.h5⟩
  · exact h.oF.far (fun a ha => by injection ha with ha; subst ha; show bf ≠ bl; omega) _
  · rw [← mapTo_upd]; exact h.oL.store j hz
  · exact h.oC.far (fun a ha => by injection ha with ha; subst ha; show bc ≠ bl; omega) _
theorem FW.cbn0 (h : FW w A n c B m d bn bf gF bl gL bc cl comp fl left W) : W.cell? ⟨bn, 0, none⟩ = some (.slice A n c) := by rw [cell_blk h.bx]; rfl
theorem FW.cbn1 (h : FW w A n c B m d bn bf gF bl gL bc cl comp fl left W) : W.cell? ⟨bn, 1, none⟩ = some (.slice B m d) := by rw [cell_blk h.bx]; rfl
theorem FW.cF (h : FW w A n c B m d bn bf gF bl gL bc cl comp fl left W) : W.cell? ⟨gF, 0, none⟩ = some (.slice (some ⟨bf, 0, none⟩) m m) := by rw [cell_blk h.xF]; rfl
theorem FW.cL (h : FW w A n c B m d bn bf gF bl gL bc cl comp fl left W) : W.cell? ⟨gL, 0, none⟩ = some (.slice (some ⟨bl, 0, none⟩) n cl) := by rw [cell_blk h.xL]; rfl

end

def marked (w : World) (Ds : List Nat) (W : World) : Prop := Ds.Nodup ∧ ∀ D ∈ Ds, w.heap.size ≤ D ∧ W.heap[D]? = some (.deferred (some []))
theorem marked.keep {w W W' : World} {Ds : List Nat} (h : marked w Ds W) (hk : KeepsOthers W W') : marked w Ds W' := ⟨h.1, fun D hD => ⟨(h.2 D hD).1, hk.same D _ (h.2 D hD).2 rfl⟩⟩

/-- the program's steps, in whatever order -/
def Gr.fsP (g : Gr) (r : Nat) (s : Fst) (pre : List Nat) : Fst := pre.foldl (fun s x => g.fs false r s ((g.ord r).getD ((g.ord r).length - 1 - 1 - x + 1) 0)) s
theorem Gr.fsP_snoc (g : Gr) (r : Nat) (s : Fst) (pre : List Nat) (x : Nat) : g.fsP r s (pre ++ [x]) = g.fs false r (g.fsP r s pre) ((g.ord r).getD ((g.ord r).length - 1 - 1 - x + 1) 0) := by simp [Gr.fsP, List.foldl_append]
theorem Gr.fsP_range (g : Gr) (r : Nat) (s : Fst) (j : Nat) (h : j ≤ (g.ord r).length - 1) : g.fsP r s (List.range j) = g.fsJ false r s j := by
  induction j with
  | zero => rfl
  | succ j ih =>
    rw [List.range_succ, Gr.fsP_snoc, ih (by omega), show (g.ord r).length - 1 - 1 - j + 1 = (g.ord r).length - 1 - j by omega]; rfl
theorem Gr.fsP_lim {g : Gr} {r k : Nat} {s : Fst} (h : Lim (pw k) s) (pre : List Nat) : Lim (pw (k + pre.length)) (g.fsP r s pre) := by
  suffices ∀ (t : List Nat), Lim (pw (k + t.length)) (g.fsP r s t.reverse) by have := this pre.reverse; simpa using this
  intro t
  induction t with
  | nil => exact h
  | cons x t ih =>
    rw [List.reverse_cons, Gr.fsP_snoc, List.length_cons]
    exact ih.fs
theorem upd_upd (f : Nat → Int) (j : Nat) (a b : Int) : upd (upd f j a) j b = upd f j b := funext fun v => by
  unfold upd; split <;> rfl
theorem marked.grown {w W W' : World} {Ds : List Nat} {row : Option Nat} {S : Nat} (h : marked w Ds W) (hlt : ∀ D ∈ Ds, D < S) (hg : W.grownBy W' row) (hr : ∀ r, row = some r → S ≤ r) : marked w Ds W' :=
  ⟨h.1, fun D hD => ⟨(h.2 D hD).1, (hg.block D (Array.getElem?_eq_some_iff.1 (h.2 D hD).2).1 (fun e => by have := hr D e.symm; have := hlt D hD; omega)).trans (h.2 D hD).2⟩⟩

/-- what a round of the inner loop keeps -/
structure FR (Wa : World) (gB ga ge gS : Nat) (srch : Array Value) (l : Nat) (ent : Nat → Int) (w : World) (Ds : List Nat) (s8 : Nat) (W : World) : Prop where
  xs : W.heap[gS]? = some (.cells srch 101 (0, 0))
  oe : Own W (some ⟨ge, 0, none⟩) l l (mapTo l ent)
  mrk : marked w Ds W
  sz : s8 ≤ W.heap.size
  ko : KeepsOthers Wa W
  kp : bkK gB ga Wa W
theorem FR.below {Wa : World} {gB ga ge gS : Nat} {srch : Array Value} {l : Nat} {ent : Nat → Int} {w : World} {Ds : List Nat} {s8 : Nat} {W W' : World} (h : FR Wa gB ga ge gS srch l ent w Ds s8 W) (h1 : gB < s8) (h2 : ga < s8) (hb : Below W.heap.size W W') : FR Wa gB ga ge gS srch l ent w Ds s8 W' := by
  have hs := h.sz
  have hx := (Array.getElem?_eq_some_iff.1 h.xs).1
  have hbs := hb.size
  exact ⟨(hb.block _ hx).trans h.xs, h.oe.later hb, h.mrk.keep (keepsOthers_below hb), by omega, h.ko.trans (keepsOthers_below hb), h.kp.trans ⟨hb.block _ (by omega), hb.block _ (by omega)⟩⟩
theorem FR.put {Wa : World} {gB ga ge gS : Nat} {srch : Array Value} {l : Nat} {ent : Nat → Int} {w : World} {Ds : List Nat} {s8 : Nat} {W : World} (h : FR Wa gB ga ge gS srch l ent w Ds s8 W) {b : Nat} (h1 : gB ≠ b) (h2 : ga ≠ b) (h3 : ge ≠ b) (h4 : gS ≠ b) (j : Nat) (u : Value) : FR Wa gB ga ge gS srch l ent w Ds s8 (W.setCell ⟨b, j, none⟩ u) :=
  ⟨(Below.heap_setCell W _ _ _ h4).trans h.xs, h.oe.far (fun a ha => by injection ha with ha; subst ha; exact h3) _, h.mrk.keep (KeepsOthers.setCell _ _ _), by simpa [World.setCell] using h.sz, h.ko.trans (KeepsOthers.setCell _ _ _), h.kp.trans ⟨Below.heap_setCell W _ _ _ h1, Below.heap_setCell W _ _ _ h2⟩⟩

set_option maxRecDepth 100000 in
set_option maxHeartbeats 4000000 in
theorem forestFlows_any (A : Option Addr) (n c : Nat) (B : Option Addr) (m d : Nat) (net : Net) (C : Option Addr) (l e : Nat) (zs : List Int) (w : World) (h : NetAt w A n c B m d net) (hz : Ints w C l e zs) (ok : NetOK net) (hl : l = n) (hs : ∀ j, -30000 ≤ ig zs j ∧ ig zs j ≤ 30000) :
    Calls Try.prog 66 #[.agg #[.slice A n c, .slice B m d], .slice C l e] w fun e w' => ∃ Af, e = .returned (.slice Af m m) ∧ Own w' Af m m (mapTo m ((netG net).ffl (ig zs))) ∧ Fresh w.heap.size Af ∧ Below w.heap.size w w' := by
  have hn24 : n ≤ 24 := by have := ok.n24; have := h.nodes.len; omega
  have hn1 : 1 ≤ n := by have := ok.n1; have := h.nodes.len; omega
  have hm40 : m ≤ 40 := by have := ok.m40; have := h.pipes.len; omega
  have HNn : Hid ((netG net).n = n) := Lib.hid h.nodes.len
  have HMm : Hid ((netG net).m = m) := Lib.hid h.pipes.len
  have hple := h.pipes.le
  have hpcap := h.pipes.cap
  subst hl
  have HS := Lib.hid hs
  clear hs
  have HB := Lib.hid (bel1 w (.cells #[.slice A l c, .slice B m d] 27))
  have bx0 : BX (w.alloc (.cells #[.slice A l c, .slice B m d] 27)) w.heap.size A l c B m d := ⟨heap_alloc_new w _⟩
  obtain ⟨W, hW⟩ : ∃ W, W = w.alloc (.cells #[.slice A l c, .slice B m d] 27) := ⟨_, rfl⟩
  have hWs : W.heap.size = w.heap.size + 1 := by rw [hW]; simp
  refine (callsIn_wide (n := 9)).1 ?_
  refine callsIn_of_wp_marks Try.func66 rfl trivial ?_ rfl
  simp only [Try.ntmps66, List.size_toArray, List.length_cons, List.length_nil, Nat.reduceAdd, Nat.reduceSub, Array.replicate_succ, Array.replicate_zero, List.push_toArray, List.append_toArray, List.nil_append, List.cons_append]
  refine wpIn_wide.2 ?_
  go_wp2_with (at_make; refine law_make _ rfl _ _ rfl m _ _ rfl rfl rfl rfl (by omega) ?_; intro w1 o1 b1 z1)
  rw [World.size_alloc] at o1
  rw [← hW] at b1 HB bx0
  have t1 := below_step HB.out b1
  have bxF := bel1 w1 (.cells #[.slice (some ⟨w.heap.size + 1, 0, none⟩) m m] 28)
  have xF := heap_alloc_new w1 (.cells #[.slice (some ⟨w.heap.size + 1, 0, none⟩) m m] 28)
  obtain ⟨w2, hw2⟩ : ∃ w2, w2 = w1.alloc (.cells #[.slice (some ⟨w.heap.size + 1, 0, none⟩) m m] 28) := ⟨_, rfl⟩
  have hw2s : w2.heap.size = w1.heap.size + 1 := by rw [hw2]; simp
  rw [← hw2] at bxF xF ⊢
  clear hw2
  have t2 := below_step t1 bxF
  refine (slicesClone_any _ _ _ _ _ (hz.later t2) (by omega)).mono ?_
  rintro e w3 ⟨Al, cl, rfl, o3, f3, b3⟩
  obtain ⟨bl, rfl, hbl⟩ := o3.pos (by omega)
  have hfl := f3 _ rfl
  simp only at hfl
  have bx3 := ((bx0.step b1).step bxF).step b3
  have k0 := bx3.c0
  have k1 := bx3.c1
  have hb3 := bx3.lt
  go_wp2_with fail
  clear k0 k1
  have bxL := bel1 w3 (.cells #[.slice (some ⟨bl, 0, none⟩) l cl] 28)
  have xL := heap_alloc_new w3 (.cells #[.slice (some ⟨bl, 0, none⟩) l cl] 28)
  obtain ⟨w4, hw4⟩ : ∃ w4, w4 = w3.alloc (.cells #[.slice (some ⟨bl, 0, none⟩) l cl] 28) := ⟨_, rfl⟩
  have hw4s : w4.heap.size = w3.heap.size + 1 := by rw [hw4]; simp
  rw [← hw4] at bxL xL ⊢
  clear hw4
  have t4 := below_step (below_step t2 b3) bxL
  refine (componentsOf_any _ _ _ _ _ _ net _ (h.later t4) ok).mono ?_
  rintro e w5 ⟨Ac, rfl, o5, f5, b5⟩
  obtain ⟨bc, rfl, hbc⟩ := o5.pos (by omega)
  have hfc := f5 _ rfl
  simp only at hfc
  have q1 := b1.size
  have q2 := bxF.size
  have q3 := b3.size
  have q5 := b5.size
  have oo1 := o1.lt _ rfl
  have oo3 := o3.lt _ rfl
  simp only at oo1 oo3
  have st0 : FW w A l c B m d w.heap.size (w.heap.size + 1) w1.heap.size bl w3.heap.size bc cl (netG net).comp ((netG net).fsK false (fun _ => 0, ig zs) 0).1 ((netG net).fsK false (fun _ => 0, ig zs) 0).2 w5 := by
    refine ⟨((bx3.step bxL).step b5).box, (b5.block _ (by omega)).trans ((bxL.block _ (by omega)).trans ((b3.block _ (by omega)).trans xF)), (b5.block _ (by omega)).trans xL, ?_, ?_, o5, below_step t4 b5, Nat.le_refl _, by omega, by omega, by omega, by omega, by omega⟩
    · rw [show (netG net).fsK false (fun _ => 0, ig zs) 0 = (fun _ => 0, ig zs) from rfl, mapTo_const]
      exact (((o1.later bxF).later b3).later bxL).later b5
    · rw [show (netG net).fsK false (fun _ => 0, ig zs) 0 = (fun _ => 0, ig zs) from rfl]
      have e : mapTo l (ig zs) = zs := ext_ig (by rw [mapTo_len, hz.len]) fun j hj => by rw [mapTo_len] at hj; exact mapTo_ig hj
      rw [e]
      exact (o3.later bxL).later b5
  have mk0 : marked w [] w5 := ⟨List.nodup_nil, fun D hD => by cases hD⟩
  have HZ := Lib.hid hz.len
  clear hz o1 o3 o5 b1 b3 b5 bxF bxL xF xL bx0 bx3 t1 t2 t4 hW z1 HB
  go_wp2_with fail
  refine wp_loop (fun a' wr => ∃ (k : Nat) (Ds : List Nat) (u7 u8 u9 u24 u25 u26 u27 u28 u29 u30 u31 u32 u33 u34 u35 u36 u37 u81 : Value), k ≤ l ∧ FW w A l c B m d w.heap.size (w.heap.size + 1) w1.heap.size bl w3.heap.size bc cl (netG net).comp ((netG net).fsK false (fun _ => 0, ig zs) k).1 ((netG net).fsK false (fun _ => 0, ig zs) k).2 wr ∧ marked w Ds wr ∧ a' = { tmps := #[.agg #[.slice A l c, .slice B m d], .slice C l e, .pointer (some ⟨w.heap.size, 0, none⟩), undef, .slice none 0 0, .pointer (some ⟨w1.heap.size, 0, none⟩), .pointer (some ⟨w3.heap.size, 0, none⟩), u7, u8, u9, undef, undef, undef, undef, .pointer (some ⟨w.heap.size, 1, none⟩), .slice B m d, .int .i64 m, .slice (some ⟨w.heap.size + 1, 0, none⟩) m m, .slice C l e, .slice (some ⟨bl, 0, none⟩) l cl, .agg #[.slice A l c, .slice B m d], .slice (some ⟨bc, 0, none⟩) l l, .int .i64 l, .int .i64 (k : Int), u24, u25, u26, u27, u28, u29, u30, u31, u32, u33, u34, u35, u36, u37, undef, undef, undef, undef, undef, undef, undef, undef, undef, undef, undef, undef, undef, undef, undef, undef, undef, undef, undef, undef, undef, undef, undef, undef, undef, undef, undef, undef, undef, undef, undef, undef, undef, undef, undef, undef, undef, undef, undef, undef, undef, undef, undef, u81, undef], defers := Ds.map mark }) (fun a' _ => l - (intOf (a'.tmps.getD 23 undef)).toNat) ?_ ?_
  · exact ⟨0, [], undef, undef, undef, undef, undef, undef, undef, undef, undef, undef, undef, undef, undef, undef, undef, undef, undef, undef, by omega, st0, mk0, rfl⟩
  rintro _ wr ⟨k, Ds, u7, u8, u9, u24, u25, u26, u27, u28, u29, u30, u31, u32, u33, u34, u35, u36, u37, u81, hk, st, mk, rfl⟩
  clear st0 mk0
  by_cases hlt : k < l
  · have c1 := st.oC.cell hlt
    rw [mapTo_ig hlt] at c1
    by_cases hc : (netG net).comp k = k
    · have HC := Lib.hid hc
      rw [hc] at c1
      have HFK : Hid ((netG net).fsK false (fun _ => 0, ig zs) (k + 1) = (netG net).fsJ false k ((netG net).fsK false (fun _ => 0, ig zs) k) (((netG net).ord k).length - 1)) := Lib.hid (by show (if (netG net).comp k = k then _ else _) = _; rw [if_pos hc])
      have hkn : k < (netG net).n := by rw [HNn.out]; exact hlt
      have HRK : Hid ((netG net).root k = k) := Lib.hid ((Gr.root_comp ok.g hkn).1 hc)
      have HOS : Hid (((netG net).ordK k).length + ((netG net).ord k).length ≤ l) := Lib.hid (by have := Gr.ordK_step ok.g hkn hc; rw [HNn.out] at this; exact this)
      have HLIM : Hid (Lim (pw ((netG net).ordK k).length) ((netG net).fsK false (fun _ => 0, ig zs) k)) := Lib.hid (Gr.fsK_lim ⟨fun _ => ⟨by show (-30000 : Int) ≤ 0; decide, by show (0 : Int) ≤ 30000; decide⟩, HS.out⟩ k)
      clear hc
      have k0 := st.cbn0
      have k1 := st.cbn1
      go_wp2_with fail
      refine (searchFrom_any _ _ _ _ _ _ net k _ (h.later st.bel) ok hlt).mono ?_
      rintro e w6 ⟨Ao, lo, co, Ad, Ae, rfl, oo, oe, fo, fe, b6⟩
      have hlo := oo.len
      rw [nl_len] at hlo
      have hlo24 : lo ≤ l := by have := Gr.ord_len ok.g (r := k) hkn; rw [HNn.out] at this; omega
      have hlo1 : 1 ≤ lo := by have := List.length_pos_of_mem (Gr.ord_r ok.g (r := k) hkn); omega
      have HLO := Lib.hid hlo
      obtain ⟨ga, rfl, hga⟩ := oo.pos (by omega)
      obtain ⟨ge, rfl, hge⟩ := oe.pos (by omega)
      have hfo := fo _ rfl
      have hfe := fe _ rfl
      simp only at hfo hfe
      have hco := oo.ints.le
      have hco2 := oo.ints.cap
      have hls := st.lt
      have hq6 := b6.size
      obtain ⟨w7, hw7⟩ : ∃ w7, w7 = w6.alloc (.cells #[.slice (some ⟨ga, 0, none⟩) lo co, .slice Ad l l, .slice (some ⟨ge, 0, none⟩) l l] 101) := ⟨_, rfl⟩
      have HW7S : Hid (w7.heap.size = w6.heap.size + 1) := Lib.hid (by rw [hw7]; simp)
      have b7 := bel1 w6 (.cells #[.slice (some ⟨ga, 0, none⟩) lo co, .slice Ad l l, .slice (some ⟨ge, 0, none⟩) l l] 101)
      have x7 := heap_alloc_new w6 (.cells #[.slice (some ⟨ga, 0, none⟩) lo co, .slice Ad l l, .slice (some ⟨ge, 0, none⟩) l l] 101)
      rw [← hw7] at b7 x7
      have ST7 := Lib.hid ((st.later b6).later b7)
      have MK7 := Lib.hid ((mk.keep (keepsOthers_below b6)).keep (keepsOthers_below b7))
      have OO7 := Lib.hid (oo.later b7)
      have OE7 := Lib.hid (oe.later b7)
      have XS7 := Lib.hid x7
      have HDL : Hid (∀ D ∈ Ds, D < w7.heap.size + 1) := Lib.hid fun D hD => by
        have := (Array.getElem?_eq_some_iff.1 (mk.2 D hD).2).1
        have := HW7S.out
        omega
      have HSZ : Hid (w.heap.size ≤ w7.heap.size) := Lib.hid (by have := st.bel.size; have := HW7S.out; omega)
      have y0 : w7.cell? ⟨w6.heap.size, 0, none⟩ = some (.slice (some ⟨ga, 0, none⟩) lo co) := by rw [cell_blk x7]; rfl
      rw [hw7] at y0
      have HW7 := Lib.hid hw7
      clear k0 k1 c1 st mk oo oe x7 b6 b7 hw7 hlo
      have hnet := h
      clear h
      go_wp2_with fail
      case inl =>
        subst h
        rw [← HW7.out]
        clear y0 HW7
        refine (slicesBackward_any _ _ _ _).mono ?_
        rintro e w8 ⟨rfl, hw8⟩
        have b8 := bel1 w7 (.cells #[.slice (some ⟨ga, 0, none⟩) (lo - 1) 0] 28)
        have x8 := heap_alloc_new w7 (.cells #[.slice (some ⟨ga, 0, none⟩) (lo - 1) 0] 28)
        rw [← hw8] at b8 x8
        have HW8S : Hid (w8.heap.size = w7.heap.size + 1) := Lib.hid (by rw [hw8]; simp)
        clear hw8
        have st8 := ST7.out.later b8
        have mk8 := MK7.out.keep (keepsOthers_below b8)
        have xs8 := (b8.block _ (by have := HW7S.out; omega)).trans XS7.out
        have oe8 := OE7.out.later b8
        have oo8 := OO7.out.later b8
        go_wp2_with fail
        refine (wpIn_wide (n := 9)).1 ?_
        have hs7 := HW7S.out
        have hs8 := HW8S.out
        refine wpIn_rangeFunc_ownF (F := Fence.wide) (n := 9) rfl (by omega) (gf := 139) (lb := #[.pointer (some ⟨w7.heap.size, 0, none⟩)]) rfl trivial (enters_of Try.func139 (by kernel_rfl) rfl)
          (backward_stops 8 w7.heap.size ga 0 (lo - 1) 0 (nl ((netG net).ord k).tail) (by omega) (by omega) (by omega) w8 (by omega) (by omega) x8 (fun j hj => ?_)) (fun h k => h.trans k) (bkK.put (by omega) (by omega)) (Below.refl _ _) (fun _ => rfl)
          (fun pre W => FW w A l c B m d w.heap.size (w.heap.size + 1) w1.heap.size bl w3.heap.size bc cl (netG net).comp ((netG net).fsP k ((netG net).fsK false (fun _ => 0, ig zs) k) pre).1 ((netG net).fsP k ((netG net).fsK false (fun _ => 0, ig zs) k) pre).2 W ∧ W.heap[w6.heap.size]? = some (.cells #[.slice (some ⟨ga, 0, none⟩) lo 1, .slice Ad l l, .slice (some ⟨ge, 0, none⟩) l l] 101 (0, 0)) ∧ Own W (some ⟨ge, 0, none⟩) l l (mapTo l ((netG net).ent k)) ∧ marked w Ds W ∧ w8.heap.size ≤ W.heap.size)
          (fun _ _ _ => False)
          (fun pre W W' row hs hg hr => ⟨hs.1.kept hg (by have := HSZ.out; omega) hr, blk_kept hs.2.1 hg (fun r e => (hr r e).2), hs.2.2.1.kept hg (fun r e => (hr r e).2), hs.2.2.2.1.grown HDL.out hg (fun r e => by have := (hr r e).1; omega), Nat.le_trans hs.2.2.2.2 hg.size⟩)
          (fun _ _ _ _ _ hs _ _ => hs) ⟨st8, xs8, oe8, mk8, Nat.le_refl _⟩
          (fun x => { tmps := #[.agg #[.slice A l c, .slice B m d], .slice C l e, .pointer (some ⟨w.heap.size, 0, none⟩), undef, .slice none 0 0, .pointer (some ⟨w1.heap.size, 0, none⟩), .pointer (some ⟨w3.heap.size, 0, none⟩), .int .i64 (k : Int), .int .i64 (k : Int), .pointer (some ⟨w6.heap.size, 0, none⟩), undef, .int .i64 (ig (nl ((netG net).ord k).tail) (lo - 1 - 1 - x)), undef, undef, .pointer (some ⟨w.heap.size, 1, none⟩), .slice B m d, .int .i64 m, .slice (some ⟨w.heap.size + 1, 0, none⟩) m m, .slice C l e, .slice (some ⟨bl, 0, none⟩) l cl, .agg #[.slice A l c, .slice B m d], .slice (some ⟨bc, 0, none⟩) l l, .int .i64 l, .int .i64 (k : Int), .bool true, .int .i64 (k : Int), .pointer (some ⟨bc, k, none⟩), .int .i64 (k : Int), .int .i64 (k : Int), .int .i64 (k : Int), .bool false, .agg #[.slice A l c, .slice B m d], .int .i64 (k : Int), .agg #[.slice (some ⟨ga, 0, none⟩) lo 1, .slice Ad l l, .slice (some ⟨ge, 0, none⟩) l l], .pointer (some ⟨w6.heap.size, 0, none⟩), .slice (some ⟨ga, 0, none⟩) lo 1, .slice (some ⟨ga, 0, none⟩) 0 0, .func (.func 139) #[] #[.pointer (some ⟨w7.heap.size, 0, none⟩)], .int .i64 ((lo - 1 - 1 - x : Nat) : Int), .int .i64 (ig (nl ((netG net).ord k).tail) (lo - 1 - 1 - x)), undef, undef, undef, undef, undef, undef, undef, undef, undef, undef, undef, undef, undef, undef, undef, undef, undef, undef, undef, undef, undef, undef, undef, undef, undef, undef, undef, undef, undef, undef, undef, undef, undef, undef, undef, undef, undef, undef, undef, undef, undef, u81, undef], defers := [] }) ?assign ?body ?done ?stop
        · have := oo8.cell (j := j + 1) (by omega)
          rw [nl_ig (by rw [HLO.out]; omega)] at this
          rw [nl_ig (by rw [List.length_tail, HLO.out]; omega), List.getElem_tail]
          exact absurd hj (by omega)
        case assign =>
          intro l0 x Wa K hK
          simp only [bkE, List.zip_toArray, List.zip_cons_cons, List.zip_nil_right, List.foldl_toArray, List.foldl_cons, List.foldl_nil, List.setIfInBounds_toArray, List.set_cons_succ, List.set_cons_zero]
          clear hs7 hs8 hco
          generalize lo - 1 - 1 - x = i at hK ⊢
          generalize ig (nl ((netG net).ord k).tail) i = z at hK ⊢
          generalize lo - 1 = L1 at hK ⊢
          gi_wp2
          exact hK
        case stop =>
          rintro D c0 pre W' _ _ hf _
          exact hf.elim
        case done =>
          rintro D ys W' hD rfl ⟨st9, _, _, mk9, _⟩ hK
          have hfk := HFK.out
          rw [HLO.out] at hfk
          rw [(netG net).fsP_range k _ _ (by rw [HLO.out]; omega), ← hfk] at st9
          clear hfk
          have ST9 := Lib.hid st9
          have mk10 : marked w (D :: Ds) W' := ⟨List.nodup_cons.2 ⟨fun hm => by have := HDL.out D hm; omega, mk9.1⟩, fun D' hD' => by
            rcases List.mem_cons.1 hD' with rfl | hD'
            · exact ⟨by have := HSZ.out; omega, hK⟩
            · exact mk9.2 D' hD'⟩
          have MK10 := Lib.hid mk10
          clear st9 mk10 mk9 hK
          clear hs7 hs8
          simp only [Exit.then, Exit.inBlock]
          go_wp2_with fail
          exact ⟨⟨k + 1, D :: Ds, _, _, _, _, _, _, _, _, _, _, _, _, _, _, _, _, _, _, by omega, ST9.out, MK10.out, by simp only [Int.natCast_add, Int.cast_ofNat_Int]; rfl⟩, by simp [intOf]; omega⟩
        case body =>
          intro l0 pre x Wa _ hlen
          exact absurd hlen (by omega)
      case inr =>
        rw [← HW7.out]
        clear y0 HW7
        refine (slicesBackward_any _ _ _ _).mono ?_
        rintro e w8 ⟨rfl, hw8⟩
        have b8 := bel1 w7 (.cells #[.slice (some ⟨ga, 1, none⟩) (lo - 1) (co - 1)] 28)
        have x8 := heap_alloc_new w7 (.cells #[.slice (some ⟨ga, 1, none⟩) (lo - 1) (co - 1)] 28)
        rw [← hw8] at b8 x8
        have HW8S : Hid (w8.heap.size = w7.heap.size + 1) := Lib.hid (by rw [hw8]; simp)
        clear hw8
        have st8 := ST7.out.later b8
        have mk8 := MK7.out.keep (keepsOthers_below b8)
        have xs8 := (b8.block _ (by have := HW7S.out; omega)).trans XS7.out
        have oe8 := OE7.out.later b8
        have oo8 := OO7.out.later b8
        go_wp2_with fail
        refine (wpIn_wide (n := 9)).1 ?_
        have hs7 := HW7S.out
        have hs8 := HW8S.out
        refine wpIn_rangeFunc_ownF (F := Fence.wide) (n := 9) rfl (by omega) (gf := 139) (lb := #[.pointer (some ⟨w7.heap.size, 0, none⟩)]) rfl trivial (enters_of Try.func139 (by kernel_rfl) rfl)
          (backward_stops 8 w7.heap.size ga 1 (lo - 1) (co - 1) (nl ((netG net).ord k).tail) (by omega) (by omega) (by omega) w8 (by omega) (by omega) x8 (fun j hj => ?_)) (fun h k => h.trans k) (bkK.put (by omega) (by omega)) (Below.refl _ _) (fun _ => rfl)
          (fun pre W => FW w A l c B m d w.heap.size (w.heap.size + 1) w1.heap.size bl w3.heap.size bc cl (netG net).comp ((netG net).fsP k ((netG net).fsK false (fun _ => 0, ig zs) k) pre).1 ((netG net).fsP k ((netG net).fsK false (fun _ => 0, ig zs) k) pre).2 W ∧ W.heap[w6.heap.size]? = some (.cells #[.slice (some ⟨ga, 0, none⟩) lo co, .slice Ad l l, .slice (some ⟨ge, 0, none⟩) l l] 101 (0, 0)) ∧ Own W (some ⟨ge, 0, none⟩) l l (mapTo l ((netG net).ent k)) ∧ marked w Ds W ∧ w8.heap.size ≤ W.heap.size)
          (fun _ _ _ => False)
          (fun pre W W' row hs hg hr => ⟨hs.1.kept hg (by have := HSZ.out; omega) hr, blk_kept hs.2.1 hg (fun r e => (hr r e).2), hs.2.2.1.kept hg (fun r e => (hr r e).2), hs.2.2.2.1.grown HDL.out hg (fun r e => by have := (hr r e).1; omega), Nat.le_trans hs.2.2.2.2 hg.size⟩)
          (fun _ _ _ _ _ hs _ _ => hs) ⟨st8, xs8, oe8, mk8, Nat.le_refl _⟩
          (fun x => { tmps := #[.agg #[.slice A l c, .slice B m d], .slice C l e, .pointer (some ⟨w.heap.size, 0, none⟩), undef, .slice none 0 0, .pointer (some ⟨w1.heap.size, 0, none⟩), .pointer (some ⟨w3.heap.size, 0, none⟩), .int .i64 (k : Int), .int .i64 (k : Int), .pointer (some ⟨w6.heap.size, 0, none⟩), undef, .int .i64 (ig (nl ((netG net).ord k).tail) (lo - 1 - 1 - x)), undef, undef, .pointer (some ⟨w.heap.size, 1, none⟩), .slice B m d, .int .i64 m, .slice (some ⟨w.heap.size + 1, 0, none⟩) m m, .slice C l e, .slice (some ⟨bl, 0, none⟩) l cl, .agg #[.slice A l c, .slice B m d], .slice (some ⟨bc, 0, none⟩) l l, .int .i64 l, .int .i64 (k : Int), .bool true, .int .i64 (k : Int), .pointer (some ⟨bc, k, none⟩), .int .i64 (k : Int), .int .i64 (k : Int), .int .i64 (k : Int), .bool false, .agg #[.slice A l c, .slice B m d], .int .i64 (k : Int), .agg #[.slice (some ⟨ga, 0, none⟩) lo co, .slice Ad l l, .slice (some ⟨ge, 0, none⟩) l l], .pointer (some ⟨w6.heap.size, 0, none⟩), .slice (some ⟨ga, 0, none⟩) lo co, .slice (some ⟨ga, 1, none⟩) (lo - 1) (co - 1), .func (.func 139) #[] #[.pointer (some ⟨w7.heap.size, 0, none⟩)], .int .i64 ((lo - 1 - 1 - x : Nat) : Int), .int .i64 (ig (nl ((netG net).ord k).tail) (lo - 1 - 1 - x)), undef, undef, undef, undef, undef, undef, undef, undef, undef, undef, undef, undef, undef, undef, undef, undef, undef, undef, undef, undef, undef, undef, undef, undef, undef, undef, undef, undef, undef, undef, undef, undef, undef, undef, undef, undef, undef, undef, undef, undef, undef, u81, undef], defers := [] }) ?assign ?body ?done ?stop
        · have := oo8.cell (j := j + 1) (by omega)
          rw [nl_ig (by rw [HLO.out]; omega)] at this
          rw [nl_ig (by rw [List.length_tail, HLO.out]; omega), List.getElem_tail]
          rw [show 1 + j = j + 1 by omega]; exact this
        case assign =>
          intro l0 x Wa K hK
          simp only [bkE, List.zip_toArray, List.zip_cons_cons, List.zip_nil_right, List.foldl_toArray, List.foldl_cons, List.foldl_nil, List.setIfInBounds_toArray, List.set_cons_succ, List.set_cons_zero]
          clear hs7 hs8 hco
          generalize lo - 1 - 1 - x = i at hK ⊢
          generalize ig (nl ((netG net).ord k).tail) i = z at hK ⊢
          generalize lo - 1 = L1 at hK ⊢
          gi_wp2
          exact hK
        case stop =>
          rintro D c0 pre W' _ _ hf _
          exact hf.elim
        case done =>
          rintro D ys W' hD rfl ⟨st9, _, _, mk9, _⟩ hK
          have hfk := HFK.out
          rw [HLO.out] at hfk
          rw [(netG net).fsP_range k _ _ (by rw [HLO.out]; omega), ← hfk] at st9
          clear hfk
          have ST9 := Lib.hid st9
          have mk10 : marked w (D :: Ds) W' := ⟨List.nodup_cons.2 ⟨fun hm => by have := HDL.out D hm; omega, mk9.1⟩, fun D' hD' => by
            rcases List.mem_cons.1 hD' with rfl | hD'
            · exact ⟨by have := HSZ.out; omega, hK⟩
            · exact mk9.2 D' hD'⟩
          have MK10 := Lib.hid mk10
          clear st9 mk10 mk9 hK
          clear hs7 hs8
          simp only [Exit.then, Exit.inBlock]
          go_wp2_with fail
          exact ⟨⟨k + 1, D :: Ds, _, _, _, _, _, _, _, _, _, _, _, _, _, _, _, _, _, _, by omega, ST9.out, MK10.out, by simp only [Int.natCast_add, Int.cast_ofNat_Int]; rfl⟩, by simp [intOf]; omega⟩
        case body =>
          rintro l0 pre x Wa ⟨sta, xsa, oea, mka, sza⟩ hlen
          have hlim := Gr.fsP_lim (g := netG net) (r := k) HLIM.out pre
          have hos := HOS.out
          rw [HLO.out] at hos
          have hpw := pw_le (k := ((netG net).ordK k).length + pre.length) (by omega)
          obtain ⟨S, hS⟩ : ∃ S, (netG net).fsP k ((netG net).fsK false (fun _ => 0, ig zs) k) pre = S := ⟨_, rfl⟩
          rw [hS] at sta hlim
          obtain ⟨v, q, y, hv, hvn, hvr, hvk, hvi, he, hfe, hqm, hjn, hoy, hyn, hyr, hyi⟩ := Gr.ord_at ok.g hkn HRK.out (i := lo - 1 - 1 - x + 1) (by rw [HLO.out]; omega) (by omega)
          have hzv : ig (nl ((netG net).ord k).tail) (lo - 1 - 1 - x) = v := by
            rw [nl_ig (by rw [List.length_tail, HLO.out]; omega), List.getElem_tail, (List.getElem?_eq_some_iff.1 hv).2]
          have HFS : Hid ((netG net).fsP k ((netG net).fsK false (fun _ => 0, ig zs) k) (pre ++ [x]) = (upd S.1 q (if (netG net).f q = v then S.2 v else -(S.2 v)), upd S.2 y (S.2 y + S.2 v))) := Lib.hid (by
            rw [Gr.fsP_snoc, hS, HLO.out, List.getD_eq_getElem?_getD, hv]
            show (netG net).fs false k S v = _
            unfold Gr.fs
            rw [he, show ((q : Int)).toNat = q from rfl, hoy]; rfl)
          rw [HNn.out] at hvn hyn
          rw [HMm.out] at hqm
          have hvy : v ≠ y := by rintro rfl; have := ok.g q (by rw [HMm.out]; exact hqm); rcases hjn with ⟨a, b⟩ | ⟨a, b⟩ <;> omega
          have hSv := hlim.left v
          have hSy := hlim.left y
          rw [hzv]
          have ce := oea.cell hvn
          rw [mapTo_ig hvn, he] at ce
          have y2 : Wa.cell? ⟨w6.heap.size, 2, none⟩ = some (.slice (some ⟨ge, 0, none⟩) l l) := by rw [cell_blk xsa]; rfl
          have kb1 := sta.cbn1
          obtain ⟨bp, offp, rfl, hblp, hcp⟩ := (hnet.pipes.later sta.bel).cells (by omega)
          obtain ⟨c0, c1, c2, c3, c4⟩ := hcp q hqm
          have hpl : q < net.pipes.length := by rw [hnet.pipes.len]; exact hqm
          have HF := Lib.hid (ok.fr hpl)
          have HT := Lib.hid (ok.to hpl)
          obtain ⟨wq, hwq, bq, n0, n1, n2, n3, n4⟩ := pipe_box Wa (pp net.pipes q)
          have HWQ := Lib.hid hwq
          have hjo : ((netG net).t q = v ∧ (netG net).f q ≠ v) ∨ ((netG net).t q ≠ v ∧ (netG net).f q = v) := by
            have := ok.g q (by rw [HMm.out]; exact hqm)
            rcases hjn with ⟨a, b⟩ | ⟨a, b⟩ <;> omega
          clear hcp hv hvr hvk hvi he hfe hjn hyr hyi hzv hS hlim hwq
          generalize lo - 1 - 1 - x = i
          clear hs7 hs8
          gi_wp2
          rw [← HWQ.out]
          have STQ := Lib.hid (sta.later bq)
          have FRQ := Lib.hid ((FR.mk xsa oea mka sza (KeepsOthers.refl _) ⟨rfl, rfl⟩ : FR Wa w7.heap.size ga ge w6.heap.size #[.slice (some ⟨ga, 0, none⟩) lo co, .slice Ad l l, .slice (some ⟨ge, 0, none⟩) l l] l ((netG net).ent k) w Ds w8.heap.size Wa).below (by have := HW8S.out; omega) (by have := HW8S.out; have := HW7S.out; omega) bq)
          have XPQ : Hid (wq.heap[Wa.heap.size]? = some (.cells #[.int .i64 (pp net.pipes q).fr, .int .i64 (pp net.pipes q).to, .int .i64 (pp net.pipes q).k, .int .i64 (pp net.pipes q).vol, .int .i64 (pp net.pipes q).lim] 76 (0, 0))) := Lib.hid (by rw [HWQ.out]; exact heap_alloc_new _ _)
          have hs7 := HW7S.out
          have hs8 := HW8S.out
          clear ce y2 kb1 c0 c1 c2 c3 c4 HWQ
          refine any_round (fun ⟨_, _, h⟩ => h) (by kernel_rfl) (by kernel_rfl) ?_
          apply any_track [50, 51, 52, 53, 54, 55, 56] [eqv _, eqv _, eqv _, eqv _, eqv _, eqv _, eqv _]
            (fun wx => Below wq.heap.size wq wx) Grw (by kernel_rfl) rfl (by kernel_rfl)
          case hs =>
            refine ⟨?_, ?_, ?_, ?_, ?_, ?_, ?_, trivial⟩
            · intro ev wt ht hc hg hf hI hd
              have e5 : ev (.tmp 5) = .pointer (some ⟨w1.heap.size, 0, none⟩) := ht 5 (by decide)
              have stt := STQ.out.later hI
              have yF := stt.cF
              have yL := stt.cL
              have yv := stt.oL.cell hvn
              rw [mapTo_ig hvn] at yv
              have yy := stt.oL.cell hyn
              rw [mapTo_ig hyn] at yy
              refine opok_gen fun N hN => ?_
              clear hd ht
              go_simp
              exact hN.out _ _ ⟨hI, Below.refl _ _, rfl⟩
            · intro ev wt ht hc hg hf hI hd
              have e12 : ev (.tmp 12) = .int .i64 (q : Int) := ht 12 (by decide)
              exact opok_move _ rfl ⟨hI, Below.refl _ _, e12⟩
            · intro ev wt ht hc hg hf hI hd
              have e6 : ev (.tmp 6) = .pointer (some ⟨w3.heap.size, 0, none⟩) := ht 6 (by decide)
              have stt := STQ.out.later hI
              have yF := stt.cF
              have yL := stt.cL
              have yv := stt.oL.cell hvn
              rw [mapTo_ig hvn] at yv
              have yy := stt.oL.cell hyn
              rw [mapTo_ig hyn] at yy
              refine opok_gen fun N hN => ?_
              clear hd ht
              go_simp
              exact hN.out _ _ ⟨hI, Below.refl _ _, rfl⟩
            · intro ev wt ht hc hg hf hI hd
              have e11 : ev (.tmp 11) = .int .i64 (v : Int) := ht 11 (by decide)
              exact opok_move _ rfl ⟨hI, Below.refl _ _, e11⟩
            · intro ev wt ht hc hg hf hI hd
              have e52 : ev (.tmp 52) = _ := hd 2 52 rfl rfl
              have e53 : ev (.tmp 53) = _ := hd 3 53 rfl rfl
              refine opok_gen fun N hN => ?_
              clear hd ht
              go_simp
              exact hN.out _ _ ⟨hI, Below.refl _ _, rfl⟩
            · intro ev wt ht hc hg hf hI hd
              have e54 : ev (.tmp 54) = _ := hd 4 54 rfl rfl
              have stt := STQ.out.later hI
              have yF := stt.cF
              have yL := stt.cL
              have yv := stt.oL.cell hvn
              rw [mapTo_ig hvn] at yv
              have yy := stt.oL.cell hyn
              rw [mapTo_ig hyn] at yy
              refine opok_gen fun N hN => ?_
              clear hd ht
              go_simp
              exact hN.out _ _ ⟨hI, Below.refl _ _, rfl⟩
            · intro ev wt ht hc hg hf hI hd
              have e50 : ev (.tmp 50) = _ := hd 0 50 rfl rfl
              have e51 : ev (.tmp 51) = _ := hd 1 51 rfl rfl
              refine opok_gen fun N hN => ?_
              clear hd ht
              go_simp
              exact hN.out _ _ ⟨hI, Below.refl _ _, rfl⟩
          case hst =>
            refine fun j v w w' _ h1 h2 => StbL.nth (S := Grw) ?_ j v w w' h1 h2
            exact ⟨stb_eqv _, stb_eqv _, stb_eqv _, stb_eqv _, stb_eqv _, stb_eqv _, stb_eqv _, trivial⟩
          case hI => exact (Below.refl _ _).drew
          case hl =>
            rintro wt hI _ rfl _ rfl _ rfl _ rfl _ rfl _ rfl _ rfl
            simp only [Lasts, List.length_cons, List.length_nil, Nat.reduceAdd, List.drop_succ_cons, List.drop_zero, Act.put, List.setIfInBounds_toArray, List.set_cons_succ, List.set_cons_zero]
            have stt := STQ.out.later hI
            have frt := FRQ.out.below (by omega) (by omega) hI
            have xpt := (hI.block _ (Array.getElem?_eq_some_iff.1 XPQ.out).1).trans XPQ.out
            have yq := stt.oF.cell hqm
            have uq := stt.oF.unfrozen q
            have e1 := stt.h1
            have e2 := stt.h2
            have e3 := stt.h3
            have e4 := stt.h4
            have e5 := stt.h5
            have stu := stt.putF q (z := S.2 v) ⟨by omega, by omega⟩
            have fru := frt.put (b := w.heap.size + 1) (by omega) (by omega) (by omega) (by omega) q (.int .i64 (S.2 v))
            have xpu := (Below.heap_setCell wt ⟨w.heap.size + 1, q, none⟩ (.int .i64 (S.2 v)) Wa.heap.size (by show _ ≠ w.heap.size + 1; omega)).trans xpt
            obtain ⟨wu, hwu⟩ : ∃ wu, wu = wt.setCell ⟨w.heap.size + 1, q, none⟩ (.int .i64 (S.2 v)) := ⟨_, rfl⟩
            rw [← hwu] at stu fru xpu
            have HWU := Lib.hid hwu
            have n1u : wu.cell? ⟨Wa.heap.size, 1, none⟩ = some (.int .i64 (pp net.pipes q).to) := by rw [cell_blk xpu]; rfl
            have STU := Lib.hid stu
            have FRU := Lib.hid fru
            have XPU := Lib.hid xpu
            clear stt frt xpt stu fru xpu hwu STQ FRQ XPQ
            go_wp2_with fail
            rw [← HWU.out]
            clear HWU yq uq
            rcases hjo with ⟨ht, hf⟩ | ⟨ht, hf⟩
            · have g1 : ((pp net.pipes q).to == (v : Int)) = true := by rw [HT.out, ht]; simp
              have HFI : Hid ((if (netG net).f q = v then S.2 v else -(S.2 v)) = -(S.2 v)) := Lib.hid (by rw [if_neg hf])
              clear ht hf
              gi_wp2
              clear n1u g1
              refine any_round (fun ⟨_, _, h⟩ => h) (by kernel_rfl) (by kernel_rfl) ?_
              apply any_track [61, 62, 63, 64, 65, 66, 67, 68] [eqv _, eqv _, eqv _, eqv _, eqv _, eqv _, eqv _, eqv _]
                (fun wx => Below wu.heap.size wu wx) Grw (by kernel_rfl) rfl (by kernel_rfl)
              case hs =>
                refine ⟨?_, ?_, ?_, ?_, ?_, ?_, ?_, ?_, trivial⟩
                · intro ev wt ht hc hg hf hI hd
                  have hw1 := wrap_id (z := -(S.2 v)) ⟨by omega, by omega⟩
                  have e5 : ev (.tmp 5) = .pointer (some ⟨w1.heap.size, 0, none⟩) := ht 5 (by decide)
                  have stt := STU.out.later hI
                  have yF := stt.cF
                  have yL := stt.cL
                  have yv := stt.oL.cell hvn
                  rw [mapTo_ig hvn] at yv
                  have yy := stt.oL.cell hyn
                  rw [mapTo_ig hyn] at yy
                  refine opok_gen fun N hN => ?_
                  clear hd ht
                  go_simp
                  exact hN.out _ _ ⟨hI, Below.refl _ _, rfl⟩
                · intro ev wt ht hc hg hf hI hd
                  have hw1 := wrap_id (z := -(S.2 v)) ⟨by omega, by omega⟩
                  have e12 : ev (.tmp 12) = .int .i64 (q : Int) := ht 12 (by decide)
                  exact opok_move _ rfl ⟨hI, Below.refl _ _, e12⟩
                · intro ev wt ht hc hg hf hI hd
                  have hw1 := wrap_id (z := -(S.2 v)) ⟨by omega, by omega⟩
                  have e6 : ev (.tmp 6) = .pointer (some ⟨w3.heap.size, 0, none⟩) := ht 6 (by decide)
                  have stt := STU.out.later hI
                  have yF := stt.cF
                  have yL := stt.cL
                  have yv := stt.oL.cell hvn
                  rw [mapTo_ig hvn] at yv
                  have yy := stt.oL.cell hyn
                  rw [mapTo_ig hyn] at yy
                  refine opok_gen fun N hN => ?_
                  clear hd ht
                  go_simp
                  exact hN.out _ _ ⟨hI, Below.refl _ _, rfl⟩
                · intro ev wt ht hc hg hf hI hd
                  have hw1 := wrap_id (z := -(S.2 v)) ⟨by omega, by omega⟩
                  have e11 : ev (.tmp 11) = .int .i64 (v : Int) := ht 11 (by decide)
                  exact opok_move _ rfl ⟨hI, Below.refl _ _, e11⟩
                · intro ev wt ht hc hg hf hI hd
                  have hw1 := wrap_id (z := -(S.2 v)) ⟨by omega, by omega⟩
                  have e63 : ev (.tmp 63) = _ := hd 2 63 rfl rfl
                  have e64 : ev (.tmp 64) = _ := hd 3 64 rfl rfl
                  refine opok_gen fun N hN => ?_
                  clear hd ht
                  go_simp
                  exact hN.out _ _ ⟨hI, Below.refl _ _, rfl⟩
                · intro ev wt ht hc hg hf hI hd
                  have hw1 := wrap_id (z := -(S.2 v)) ⟨by omega, by omega⟩
                  have e65 : ev (.tmp 65) = _ := hd 4 65 rfl rfl
                  have stt := STU.out.later hI
                  have yF := stt.cF
                  have yL := stt.cL
                  have yv := stt.oL.cell hvn
                  rw [mapTo_ig hvn] at yv
                  have yy := stt.oL.cell hyn
                  rw [mapTo_ig hyn] at yy
                  refine opok_gen fun N hN => ?_
                  clear hd ht
                  go_simp
                  exact hN.out _ _ ⟨hI, Below.refl _ _, rfl⟩
                · intro ev wt ht hc hg hf hI hd
                  have hw1 := wrap_id (z := -(S.2 v)) ⟨by omega, by omega⟩
                  have e66 : ev (.tmp 66) = _ := hd 5 66 rfl rfl
                  refine opok_gen fun N hN => ?_
                  clear hd ht
                  go_simp
                  exact hN.out _ _ ⟨hI, Below.refl _ _, rfl⟩
                · intro ev wt ht hc hg hf hI hd
                  have hw1 := wrap_id (z := -(S.2 v)) ⟨by omega, by omega⟩
                  have e61 : ev (.tmp 61) = _ := hd 0 61 rfl rfl
                  have e62 : ev (.tmp 62) = _ := hd 1 62 rfl rfl
                  refine opok_gen fun N hN => ?_
                  clear hd ht
                  go_simp
                  exact hN.out _ _ ⟨hI, Below.refl _ _, rfl⟩
              case hst =>
                refine fun j v w w' _ h1 h2 => StbL.nth (S := Grw) ?_ j v w w' h1 h2
                exact ⟨stb_eqv _, stb_eqv _, stb_eqv _, stb_eqv _, stb_eqv _, stb_eqv _, stb_eqv _, stb_eqv _, trivial⟩
              case hI => exact (Below.refl _ _).drew
              case hl =>
                rintro wt hI _ rfl _ rfl _ rfl _ rfl _ rfl _ rfl _ rfl _ rfl
                simp only [Lasts, List.length_cons, List.length_nil, Nat.reduceAdd, List.drop_succ_cons, List.drop_zero, Act.put, List.setIfInBounds_toArray, List.set_cons_succ, List.set_cons_zero]
                have stt := STU.out.later hI
                have frt := FRU.out.below (by omega) (by omega) hI
                have xpt := (hI.block _ (Array.getElem?_eq_some_iff.1 XPU.out).1).trans XPU.out
                have yq := stt.oF.cell hqm
                have uq := stt.oF.unfrozen q
                have stu := stt.putF q (z := -(S.2 v)) ⟨by omega, by omega⟩
                rw [upd_upd] at stu
                have fru := frt.put (b := w.heap.size + 1) (by omega) (by omega) (by omega) (by omega) q (.int .i64 (-(S.2 v)))
                have xpu := (Below.heap_setCell wt ⟨w.heap.size + 1, q, none⟩ (.int .i64 (-(S.2 v))) Wa.heap.size (by show _ ≠ w.heap.size + 1; omega)).trans xpt
                obtain ⟨wv, hwv⟩ : ∃ wv, wv = wt.setCell ⟨w.heap.size + 1, q, none⟩ (.int .i64 (-(S.2 v))) := ⟨_, rfl⟩
                rw [← hwv] at stu fru xpu
                have HWV := Lib.hid hwv
                have STV := Lib.hid stu
                have FRV := Lib.hid fru
                have XPV := Lib.hid xpu
                clear stt frt xpt stu fru xpu hwv STU FRU XPU
                go_wp2_with fail
                rw [← HWV.out]
                clear HWV yq uq
                refine any_round (fun ⟨_, _, h⟩ => h) (by kernel_rfl) (by kernel_rfl) ?_
                apply any_track [69, 70, 71, 72, 73, 74, 75, 76, 77, 78, 79, 80] [eqv _, eqv _, eqv _, eqv _, eqv _, eqv _, eqv _, eqv _, eqv _, eqv _, eqv _, eqv _]
                  (fun wx => Below wv.heap.size wv wx) Grw (by kernel_rfl) rfl (by kernel_rfl)
                case hs =>
                  refine ⟨?_, ?_, ?_, ?_, ?_, ?_, ?_, ?_, ?_, ?_, ?_, ?_, trivial⟩
                  · intro ev wt ht hc hg hf hI hd
                    have hw1 := wrap_id (z := S.2 y + S.2 v) ⟨by omega, by omega⟩
                    have e6 : ev (.tmp 6) = .pointer (some ⟨w3.heap.size, 0, none⟩) := ht 6 (by decide)
                    have stt := STV.out.later hI
                    have yF := stt.cF
                    have yL := stt.cL
                    have yv := stt.oL.cell hvn
                    rw [mapTo_ig hvn] at yv
                    have yy := stt.oL.cell hyn
                    rw [mapTo_ig hyn] at yy
                    have xpt := (hI.block _ (Array.getElem?_eq_some_iff.1 XPV.out).1).trans XPV.out
                    have z0 := cell_blk xpt 0
                    have z1 := cell_blk xpt 1
                    have z2 := cell_blk xpt 2
                    have z3 := cell_blk xpt 3
                    have z4 := cell_blk xpt 4
                    simp at z0 z1 z2 z3 z4
                    clear xpt
                    refine opok_gen fun N hN => ?_
                    clear hd ht
                    go_simp
                    exact hN.out _ _ ⟨hI, Below.refl _ _, rfl⟩
                  · intro ev wt ht hc hg hf hI hd
                    have hw1 := wrap_id (z := S.2 y + S.2 v) ⟨by omega, by omega⟩
                    have e13 : ev (.tmp 13) = .pointer (some ⟨Wa.heap.size, 0, none⟩) := ht 13 (by decide)
                    have stt := STV.out.later hI
                    have yF := stt.cF
                    have yL := stt.cL
                    have yv := stt.oL.cell hvn
                    rw [mapTo_ig hvn] at yv
                    have yy := stt.oL.cell hyn
                    rw [mapTo_ig hyn] at yy
                    have xpt := (hI.block _ (Array.getElem?_eq_some_iff.1 XPV.out).1).trans XPV.out
                    have z0 := cell_blk xpt 0
                    have z1 := cell_blk xpt 1
                    have z2 := cell_blk xpt 2
                    have z3 := cell_blk xpt 3
                    have z4 := cell_blk xpt 4
                    simp at z0 z1 z2 z3 z4
                    clear xpt
                    refine opok_gen fun N hN => ?_
                    clear hd ht
                    go_simp
                    exact hN.out _ _ ⟨hI, Below.refl _ _, rfl⟩
                  · intro ev wt ht hc hg hf hI hd
                    have hw1 := wrap_id (z := S.2 y + S.2 v) ⟨by omega, by omega⟩
                    have e11 : ev (.tmp 11) = .int .i64 (v : Int) := ht 11 (by decide)
                    exact opok_move _ rfl ⟨hI, Below.refl _ _, e11⟩
                  · intro ev wt ht hc hg hf hI hd
                    have hw1 := wrap_id (z := S.2 y + S.2 v) ⟨by omega, by omega⟩
                    have e70 : ev (.tmp 70) = _ := hd 1 70 rfl rfl
                    have e71 : ev (.tmp 71) = _ := hd 2 71 rfl rfl
                    refine opok_gen fun N hN => ?_
                    clear hd ht
                    go_simp
                    refine (otherEnd_any _ (netG net) q v _ HF.out HT.out).mono ?_
                    rintro e w9 ⟨rfl, b9⟩
                    rw [hoy]
                    exact ⟨_, rfl, hN.out _ _ ⟨below_step hI b9, b9, rfl⟩⟩
                  · intro ev wt ht hc hg hf hI hd
                    have hw1 := wrap_id (z := S.2 y + S.2 v) ⟨by omega, by omega⟩
                    have e69 : ev (.tmp 69) = _ := hd 0 69 rfl rfl
                    have e72 : ev (.tmp 72) = _ := hd 3 72 rfl rfl
                    refine opok_gen fun N hN => ?_
                    clear hd ht
                    go_simp
                    exact hN.out _ _ ⟨hI, Below.refl _ _, rfl⟩
                  · intro ev wt ht hc hg hf hI hd
                    have hw1 := wrap_id (z := S.2 y + S.2 v) ⟨by omega, by omega⟩
                    have e73 : ev (.tmp 73) = _ := hd 4 73 rfl rfl
                    have stt := STV.out.later hI
                    have yF := stt.cF
                    have yL := stt.cL
                    have yv := stt.oL.cell hvn
                    rw [mapTo_ig hvn] at yv
                    have yy := stt.oL.cell hyn
                    rw [mapTo_ig hyn] at yy
                    have xpt := (hI.block _ (Array.getElem?_eq_some_iff.1 XPV.out).1).trans XPV.out
                    have z0 := cell_blk xpt 0
                    have z1 := cell_blk xpt 1
                    have z2 := cell_blk xpt 2
                    have z3 := cell_blk xpt 3
                    have z4 := cell_blk xpt 4
                    simp at z0 z1 z2 z3 z4
                    clear xpt
                    refine opok_gen fun N hN => ?_
                    clear hd ht
                    go_simp
                    exact hN.out _ _ ⟨hI, Below.refl _ _, rfl⟩
                  · intro ev wt ht hc hg hf hI hd
                    have hw1 := wrap_id (z := S.2 y + S.2 v) ⟨by omega, by omega⟩
                    have e6 : ev (.tmp 6) = .pointer (some ⟨w3.heap.size, 0, none⟩) := ht 6 (by decide)
                    have stt := STV.out.later hI
                    have yF := stt.cF
                    have yL := stt.cL
                    have yv := stt.oL.cell hvn
                    rw [mapTo_ig hvn] at yv
                    have yy := stt.oL.cell hyn
                    rw [mapTo_ig hyn] at yy
                    have xpt := (hI.block _ (Array.getElem?_eq_some_iff.1 XPV.out).1).trans XPV.out
                    have z0 := cell_blk xpt 0
                    have z1 := cell_blk xpt 1
                    have z2 := cell_blk xpt 2
                    have z3 := cell_blk xpt 3
                    have z4 := cell_blk xpt 4
                    simp at z0 z1 z2 z3 z4
                    clear xpt
                    refine opok_gen fun N hN => ?_
                    clear hd ht
                    go_simp
                    exact hN.out _ _ ⟨hI, Below.refl _ _, rfl⟩
                  · intro ev wt ht hc hg hf hI hd
                    have hw1 := wrap_id (z := S.2 y + S.2 v) ⟨by omega, by omega⟩
                    have e11 : ev (.tmp 11) = .int .i64 (v : Int) := ht 11 (by decide)
                    exact opok_move _ rfl ⟨hI, Below.refl _ _, e11⟩
                  · intro ev wt ht hc hg hf hI hd
                    have hw1 := wrap_id (z := S.2 y + S.2 v) ⟨by omega, by omega⟩
                    have e75 : ev (.tmp 75) = _ := hd 6 75 rfl rfl
                    have e76 : ev (.tmp 76) = _ := hd 7 76 rfl rfl
                    refine opok_gen fun N hN => ?_
                    clear hd ht
                    go_simp
                    exact hN.out _ _ ⟨hI, Below.refl _ _, rfl⟩
                  · intro ev wt ht hc hg hf hI hd
                    have hw1 := wrap_id (z := S.2 y + S.2 v) ⟨by omega, by omega⟩
                    have e77 : ev (.tmp 77) = _ := hd 8 77 rfl rfl
                    have stt := STV.out.later hI
                    have yF := stt.cF
                    have yL := stt.cL
                    have yv := stt.oL.cell hvn
                    rw [mapTo_ig hvn] at yv
                    have yy := stt.oL.cell hyn
                    rw [mapTo_ig hyn] at yy
                    have xpt := (hI.block _ (Array.getElem?_eq_some_iff.1 XPV.out).1).trans XPV.out
                    have z0 := cell_blk xpt 0
                    have z1 := cell_blk xpt 1
                    have z2 := cell_blk xpt 2
                    have z3 := cell_blk xpt 3
                    have z4 := cell_blk xpt 4
                    simp at z0 z1 z2 z3 z4
                    clear xpt
                    refine opok_gen fun N hN => ?_
                    clear hd ht
                    go_simp
                    exact hN.out _ _ ⟨hI, Below.refl _ _, rfl⟩
                  · intro ev wt ht hc hg hf hI hd
                    have hw1 := wrap_id (z := S.2 y + S.2 v) ⟨by omega, by omega⟩
                    have e74 : ev (.tmp 74) = _ := hd 5 74 rfl rfl
                    have e78 : ev (.tmp 78) = _ := hd 9 78 rfl rfl
                    refine opok_gen fun N hN => ?_
                    clear hd ht
                    go_simp
                    exact hN.out _ _ ⟨hI, Below.refl _ _, rfl⟩
                  · intro ev wt ht hc hg hf hI hd
                    have hw1 := wrap_id (z := S.2 y + S.2 v) ⟨by omega, by omega⟩
                    have e69 : ev (.tmp 69) = _ := hd 0 69 rfl rfl
                    have e72 : ev (.tmp 72) = _ := hd 3 72 rfl rfl
                    refine opok_gen fun N hN => ?_
                    clear hd ht
                    go_simp
                    exact hN.out _ _ ⟨hI, Below.refl _ _, rfl⟩
                case hst =>
                  refine fun j v w w' _ h1 h2 => StbL.nth (S := Grw) ?_ j v w w' h1 h2
                  exact ⟨stb_eqv _, stb_eqv _, stb_eqv _, stb_eqv _, stb_eqv _, stb_eqv _, stb_eqv _, stb_eqv _, stb_eqv _, stb_eqv _, stb_eqv _, stb_eqv _, trivial⟩
                case hI => exact (Below.refl _ _).drew
                case hl =>
                  rintro wt hI _ rfl _ rfl _ rfl _ rfl _ rfl _ rfl _ rfl _ rfl _ rfl _ rfl _ rfl _ rfl
                  simp only [Lasts, List.length_cons, List.length_nil, Nat.reduceAdd, List.drop_succ_cons, List.drop_zero, Act.put, List.setIfInBounds_toArray, List.set_cons_succ, List.set_cons_zero]
                  have stt := STV.out.later hI
                  have frt := FRV.out.below (by omega) (by omega) hI
                  have yq := stt.oL.cell hyn
                  have uq := stt.oL.unfrozen y
                  have stu := stt.putL y (z := S.2 y + S.2 v) ⟨by omega, by omega⟩
                  have fru := frt.put (b := bl) (by omega) (by omega) (by omega) (by omega) y (.int .i64 (S.2 y + S.2 v))
                  have STX := Lib.hid stu
                  have FRX := Lib.hid fru
                  clear stt frt stu fru
                  go_wp2_with fail
                  refine ⟨FRX.out.ko, FRX.out.kp, ?_, FRX.out.xs, FRX.out.oe, FRX.out.mrk, FRX.out.sz⟩
                  rw [HFS.out, HFI.out]
                  exact STX.out
            · have g1 : ((pp net.pipes q).to == (v : Int)) = false := by rw [HT.out]; simp; omega
              have HFI : Hid ((if (netG net).f q = v then S.2 v else -(S.2 v)) = S.2 v) := Lib.hid (by rw [if_pos hf])
              clear ht hf
              gi_wp2
              clear n1u g1
              refine any_round (fun ⟨_, _, h⟩ => h) (by kernel_rfl) (by kernel_rfl) ?_
              apply any_track [69, 70, 71, 72, 73, 74, 75, 76, 77, 78, 79, 80] [eqv _, eqv _, eqv _, eqv _, eqv _, eqv _, eqv _, eqv _, eqv _, eqv _, eqv _, eqv _]
                (fun wx => Below wu.heap.size wu wx) Grw (by kernel_rfl) rfl (by kernel_rfl)
              case hs =>
                refine ⟨?_, ?_, ?_, ?_, ?_, ?_, ?_, ?_, ?_, ?_, ?_, ?_, trivial⟩
                · intro ev wt ht hc hg hf hI hd
                  have hw1 := wrap_id (z := S.2 y + S.2 v) ⟨by omega, by omega⟩
                  have e6 : ev (.tmp 6) = .pointer (some ⟨w3.heap.size, 0, none⟩) := ht 6 (by decide)
                  have stt := STU.out.later hI
                  have yF := stt.cF
                  have yL := stt.cL
                  have yv := stt.oL.cell hvn
                  rw [mapTo_ig hvn] at yv
                  have yy := stt.oL.cell hyn
                  rw [mapTo_ig hyn] at yy
                  have xpt := (hI.block _ (Array.getElem?_eq_some_iff.1 XPU.out).1).trans XPU.out
                  have z0 := cell_blk xpt 0
                  have z1 := cell_blk xpt 1
                  have z2 := cell_blk xpt 2
                  have z3 := cell_blk xpt 3
                  have z4 := cell_blk xpt 4
                  simp at z0 z1 z2 z3 z4
                  clear xpt
                  refine opok_gen fun N hN => ?_
                  clear hd ht
                  go_simp
                  exact hN.out _ _ ⟨hI, Below.refl _ _, rfl⟩
                · intro ev wt ht hc hg hf hI hd
                  have hw1 := wrap_id (z := S.2 y + S.2 v) ⟨by omega, by omega⟩
                  have e13 : ev (.tmp 13) = .pointer (some ⟨Wa.heap.size, 0, none⟩) := ht 13 (by decide)
                  have stt := STU.out.later hI
                  have yF := stt.cF
                  have yL := stt.cL
                  have yv := stt.oL.cell hvn
                  rw [mapTo_ig hvn] at yv
                  have yy := stt.oL.cell hyn
                  rw [mapTo_ig hyn] at yy
                  have xpt := (hI.block _ (Array.getElem?_eq_some_iff.1 XPU.out).1).trans XPU.out
                  have z0 := cell_blk xpt 0
                  have z1 := cell_blk xpt 1
                  have z2 := cell_blk xpt 2
                  have z3 := cell_blk xpt 3
                  have z4 := cell_blk xpt 4
                  simp at z0 z1 z2 z3 z4
                  clear xpt
                  refine opok_gen fun N hN => ?_
                  clear hd ht
                  go_simp
                  exact hN.out _ _ ⟨hI, Below.refl _ _, rfl⟩
                · intro ev wt ht hc hg hf hI hd
                  have hw1 := wrap_id (z := S.2 y + S.2 v) ⟨by omega, by omega⟩
                  have e11 : ev (.tmp 11) = .int .i64 (v : Int) := ht 11 (by decide)
                  exact opok_move _ rfl ⟨hI, Below.refl _ _, e11⟩
                · intro ev wt ht hc hg hf hI hd
                  have hw1 := wrap_id (z := S.2 y + S.2 v) ⟨by omega, by omega⟩
                  have e70 : ev (.tmp 70) = _ := hd 1 70 rfl rfl
                  have e71 : ev (.tmp 71) = _ := hd 2 71 rfl rfl
                  refine opok_gen fun N hN => ?_
                  clear hd ht
                  go_simp
                  refine (otherEnd_any _ (netG net) q v _ HF.out HT.out).mono ?_
                  rintro e w9 ⟨rfl, b9⟩
                  rw [hoy]
                  exact ⟨_, rfl, hN.out _ _ ⟨below_step hI b9, b9, rfl⟩⟩
                · intro ev wt ht hc hg hf hI hd
                  have hw1 := wrap_id (z := S.2 y + S.2 v) ⟨by omega, by omega⟩
                  have e69 : ev (.tmp 69) = _ := hd 0 69 rfl rfl
                  have e72 : ev (.tmp 72) = _ := hd 3 72 rfl rfl
                  refine opok_gen fun N hN => ?_
                  clear hd ht
                  go_simp
                  exact hN.out _ _ ⟨hI, Below.refl _ _, rfl⟩
                · intro ev wt ht hc hg hf hI hd
                  have hw1 := wrap_id (z := S.2 y + S.2 v) ⟨by omega, by omega⟩
                  have e73 : ev (.tmp 73) = _ := hd 4 73 rfl rfl
                  have stt := STU.out.later hI
                  have yF := stt.cF
                  have yL := stt.cL
                  have yv := stt.oL.cell hvn
                  rw [mapTo_ig hvn] at yv
                  have yy := stt.oL.cell hyn
                  rw [mapTo_ig hyn] at yy
                  have xpt := (hI.block _ (Array.getElem?_eq_some_iff.1 XPU.out).1).trans XPU.out
                  have z0 := cell_blk xpt 0
                  have z1 := cell_blk xpt 1
                  have z2 := cell_blk xpt 2
                  have z3 := cell_blk xpt 3
                  have z4 := cell_blk xpt 4
                  simp at z0 z1 z2 z3 z4
                  clear xpt
                  refine opok_gen fun N hN => ?_
                  clear hd ht
                  go_simp
                  exact hN.out _ _ ⟨hI, Below.refl _ _, rfl⟩
                · intro ev wt ht hc hg hf hI hd
                  have hw1 := wrap_id (z := S.2 y + S.2 v) ⟨by omega, by omega⟩
                  have e6 : ev (.tmp 6) = .pointer (some ⟨w3.heap.size, 0, none⟩) := ht 6 (by decide)
                  have stt := STU.out.later hI
                  have yF := stt.cF
                  have yL := stt.cL
                  have yv := stt.oL.cell hvn
                  rw [mapTo_ig hvn] at yv
                  have yy := stt.oL.cell hyn
                  rw [mapTo_ig hyn] at yy
                  have xpt := (hI.block _ (Array.getElem?_eq_some_iff.1 XPU.out).1).trans XPU.out
                  have z0 := cell_blk xpt 0
                  have z1 := cell_blk xpt 1
                  have z2 := cell_blk xpt 2
                  have z3 := cell_blk xpt 3
                  have z4 := cell_blk xpt 4
                  simp at z0 z1 z2 z3 z4
                  clear xpt
                  refine opok_gen fun N hN => ?_
                  clear hd ht
                  go_simp
                  exact hN.out _ _ ⟨hI, Below.refl _ _, rfl⟩
                · intro ev wt ht hc hg hf hI hd
                  have hw1 := wrap_id (z := S.2 y + S.2 v) ⟨by omega, by omega⟩
                  have e11 : ev (.tmp 11) = .int .i64 (v : Int) := ht 11 (by decide)
                  exact opok_move _ rfl ⟨hI, Below.refl _ _, e11⟩
                · intro ev wt ht hc hg hf hI hd
                  have hw1 := wrap_id (z := S.2 y + S.2 v) ⟨by omega, by omega⟩
                  have e75 : ev (.tmp 75) = _ := hd 6 75 rfl rfl
                  have e76 : ev (.tmp 76) = _ := hd 7 76 rfl rfl
                  refine opok_gen fun N hN => ?_
                  clear hd ht
                  go_simp
                  exact hN.out _ _ ⟨hI, Below.refl _ _, rfl⟩
                · intro ev wt ht hc hg hf hI hd
                  have hw1 := wrap_id (z := S.2 y + S.2 v) ⟨by omega, by omega⟩
                  have e77 : ev (.tmp 77) = _ := hd 8 77 rfl rfl
                  have stt := STU.out.later hI
                  have yF := stt.cF
                  have yL := stt.cL
                  have yv := stt.oL.cell hvn
                  rw [mapTo_ig hvn] at yv
                  have yy := stt.oL.cell hyn
                  rw [mapTo_ig hyn] at yy
                  have xpt := (hI.block _ (Array.getElem?_eq_some_iff.1 XPU.out).1).trans XPU.out
                  have z0 := cell_blk xpt 0
                  have z1 := cell_blk xpt 1
                  have z2 := cell_blk xpt 2
                  have z3 := cell_blk xpt 3
                  have z4 := cell_blk xpt 4
                  simp at z0 z1 z2 z3 z4
                  clear xpt
                  refine opok_gen fun N hN => ?_
                  clear hd ht
                  go_simp
                  exact hN.out _ _ ⟨hI, Below.refl _ _, rfl⟩
                · intro ev wt ht hc hg hf hI hd
                  have hw1 := wrap_id (z := S.2 y + S.2 v) ⟨by omega, by omega⟩
                  have e74 : ev (.tmp 74) = _ := hd 5 74 rfl rfl
                  have e78 : ev (.tmp 78) = _ := hd 9 78 rfl rfl
                  refine opok_gen fun N hN => ?_
                  clear hd ht
                  go_simp
                  exact hN.out _ _ ⟨hI, Below.refl _ _, rfl⟩
                · intro ev wt ht hc hg hf hI hd
                  have hw1 := wrap_id (z := S.2 y + S.2 v) ⟨by omega, by omega⟩
                  have e69 : ev (.tmp 69) = _ := hd 0 69 rfl rfl
                  have e72 : ev (.tmp 72) = _ := hd 3 72 rfl rfl
                  refine opok_gen fun N hN => ?_
                  clear hd ht
                  go_simp
                  exact hN.out _ _ ⟨hI, Below.refl _ _, rfl⟩
              case hst =>
                refine fun j v w w' _ h1 h2 => StbL.nth (S := Grw) ?_ j v w w' h1 h2
                exact ⟨stb_eqv _, stb_eqv _, stb_eqv _, stb_eqv _, stb_eqv _, stb_eqv _, stb_eqv _, stb_eqv _, stb_eqv _, stb_eqv _, stb_eqv _, stb_eqv _, trivial⟩
              case hI => exact (Below.refl _ _).drew
              case hl =>
                rintro wt hI _ rfl _ rfl _ rfl _ rfl _ rfl _ rfl _ rfl _ rfl _ rfl _ rfl _ rfl _ rfl
                simp only [Lasts, List.length_cons, List.length_nil, Nat.reduceAdd, List.drop_succ_cons, List.drop_zero, Act.put, List.setIfInBounds_toArray, List.set_cons_succ, List.set_cons_zero]
                have stt := STU.out.later hI
                have frt := FRU.out.below (by omega) (by omega) hI
                have yq := stt.oL.cell hyn
                have uq := stt.oL.unfrozen y
                have stu := stt.putL y (z := S.2 y + S.2 v) ⟨by omega, by omega⟩
                have fru := frt.put (b := bl) (by omega) (by omega) (by omega) (by omega) y (.int .i64 (S.2 y + S.2 v))
                have STX := Lib.hid stu
                have FRX := Lib.hid fru
                clear stt frt stu fru
                go_wp2_with fail
                refine ⟨FRX.out.ko, FRX.out.kp, ?_, FRX.out.xs, FRX.out.oe, FRX.out.mrk, FRX.out.sz⟩
                rw [HFS.out, HFI.out]
                exact STX.out
    · have hcb : ((netG net).comp k != (k : Int)) = true := by simp [hc]
      have hbn := Gr.cmp_bnd (g := netG net) (netG net).n k
      rw [show (netG net).cmp (netG net).n k = (netG net).comp k from rfl] at hbn
      have HK : Hid ((netG net).fsK false (fun _ => 0, ig zs) (k + 1) = (netG net).fsK false (fun _ => 0, ig zs) k) := Lib.hid (by show (if (netG net).comp k = k then _ else _) = _; rw [if_neg hc])
      rw [← HK.out] at st
      clear hc HK
      have ST := Lib.hid st
      clear st
      go_wp2_with fail
      exact ⟨⟨k + 1, Ds, _, _, _, _, _, _, _, _, _, _, _, _, _, _, _, _, _, _, by omega, ST.out, mk, by simp only [Int.natCast_add, Int.cast_ofNat_Int]; rfl⟩, by simp [intOf]; omega⟩
  · have hkl : l = k := by omega
    have HFF : Hid (mapTo m ((netG net).fsK false (fun _ => 0, ig zs) k).1 = mapTo m ((netG net).ffl (ig zs))) := Lib.hid (by
      have := Gr.fsK_ffl (z := false) (sup := ig zs) ok.g
      rw [HNn.out, HMm.out, hkl] at this; exact this)
    have kF := st.cF
    have ST := Lib.hid st
    have MK := Lib.hid mk
    clear hkl st mk
    go_wp2_with fail
    refine leaves_marks (B := w.heap.size) Ds _ MK.out.1 MK.out.2 ?_
    intro Wz hbz hkz
    refine ⟨_, results_tmp rfl _ _ _, some ⟨w.heap.size + 1, 0, none⟩, rfl, ?_, (fun a ha => by injection ha with ha; subst ha; show w.heap.size ≤ w.heap.size + 1; omega), ST.out.bel.trans hbz⟩
    rw [← HFF.out]
    refine ST.out.oF.keep fun a ha => ?_
    obtain ⟨o, ho, hc⟩ := own_obj ST.out.oF a ha
    rw [hkz _ _ ho hc, ho]

end Go.Proofs.Ytllblmndoigdlaa

/- the flows through the forest: the reference -/
namespace Go.Proofs.Ytllblmndoigdlaa
open Go Go.RowKit

/-- what lies in memory while the reference finds the flows through the forest -/
structure FV (w : World) (A : Option Addr) (n c : Nat) (B : Option Addr) (m d : Nat) (bn bf bl bc cl : Nat) (comp fl left : Nat → Int) (W : World) : Prop where
  bx : W.heap[bn]? = some (.cells #[.slice A n c, .slice B m d] 27 (0, 0))
  oF : Own W (some ⟨bf, 0, none⟩) m m (mapTo m fl)
  oL : Own W (some ⟨bl, 0, none⟩) n cl (mapTo n left)
  oC : Own W (some ⟨bc, 0, none⟩) n n (mapTo n comp)
  bel : Below w.heap.size w W
  h0 : w.heap.size ≤ bn
  h1 : bn < bf
  h2 : bf < bl
  h3 : bl < bc

section
variable {w W W' : World} {A B : Option Addr} {n c m d bn bf bl bc cl : Nat} {comp fl left : Nat → Int}
theorem FV.lt (h : FV w A n c B m d bn bf bl bc cl comp fl left W) : bc < W.heap.size := h.oC.lt _ rfl
theorem FV.later (h : FV w A n c B m d bn bf bl bc cl comp fl left W) (hb : Below W.heap.size W W') : FV w A n c B m d bn bf bl bc cl comp fl left W' := by
  have hl := h.lt
  have e1 := h.h1; have e2 := h.h2; have e3 := h.h3
  exact ⟨(hb.block _ (by omega)).trans h.bx, h.oF.later hb, h.oL.later hb, h.oC.later hb, below_step h.bel hb, h.h0, h.h1, h.h2, h.h3⟩
theorem FV.putF (h : FV w A n c B m d bn bf bl bc cl comp fl left W) (j : Nat) {z : Int} (hz : I64 z) : FV w A n c B m d bn bf bl bc cl comp (upd fl j z) left (W.setCell ⟨bf, j, none⟩ (.int .i64 z)) := by
  have e0 := h.h0; have e1 := h.h1; have e2 := h.h2; have e3 := h.h3
  refine ⟨(Below.heap_setCell W _ _ _ (by show bn ≠ bf; omega)).trans h.bx, ?_, ?_, ?_, h.bel.setCell (by show _ ≤ bf; omega) _, h.h0, h.h1, h.h2, h.h3⟩
  · rw [← mapTo_upd]; exact h.oF.store j hz
  · exact h.oL.far (fun a ha => by injection ha with ha; subst ha; show bl ≠ bf; omega) _
  · exact h.oC.far (fun a ha => by injection ha with ha; subst ha; show bc ≠ bf; omega) _
theorem FV.putL (h : FV w A n c B m d bn bf bl bc cl comp fl left W) (j : Nat) {z : Int} (hz : I64 z) : FV w A n c B m d bn bf bl bc cl comp fl (upd left j z) (W.setCell ⟨bl, j, none⟩ (.int .i64 z)) := by
  have e0 := h.h0; have e1 := h.h1; have e2 := h.h2; have e3 := h.h3
  refine ⟨(Below.heap_setCell W _ _ _ (by show bn ≠ bl; omega)).trans h.bx, ?_, ?_, ?_, h.bel.setCell (by show _ ≤ bl; omega) _, h.h0, h.h1, h.h2, h.h3⟩
  · exact h.oF.far (fun a ha => by injection ha with ha; subst ha; show bf ≠ bl; omega) _
  · rw [← mapTo_upd]; exact h.oL.store j hz
  · exact h.oC.far (fun a ha => by injection ha with ha; subst ha; show bc ≠ bl; omega) _
theorem FV.c0 (h : FV w A n c B m d bn bf bl bc cl comp fl left W) : W.cell? ⟨bn, 0, none⟩ = some (.slice A n c) := by rw [cell_blk h.bx]; rfl
theorem FV.c1 (h : FV w A n c B m d bn bf bl bc cl comp fl left W) : W.cell? ⟨bn, 1, none⟩ = some (.slice B m d) := by rw [cell_blk h.bx]; rfl

end

set_option maxRecDepth 100000 in
set_option maxHeartbeats 4000000 in
theorem l06Forest_any (A : Option Addr) (n c : Nat) (B : Option Addr) (m d : Nat) (net : Net) (C : Option Addr) (l e : Nat) (zs : List Int) (w : World) (h : NetAt w A n c B m d net) (hz : Ints w C l e zs) (ok : NetOK net) (hl : l = n) (hs : ∀ j, -30000 ≤ ig zs j ∧ ig zs j ≤ 30000) :
    Calls Try.prog 69 #[.agg #[.slice A n c, .slice B m d], .slice C l e] w fun e w' => ∃ Af, e = .returned (.slice Af m m) ∧ Own w' Af m m (mapTo m ((netG net).ffl (ig zs))) ∧ Fresh w.heap.size Af ∧ Below w.heap.size w w' := by
  have hn24 : n ≤ 24 := by have := ok.n24; have := h.nodes.len; omega
  have hn1 : 1 ≤ n := by have := ok.n1; have := h.nodes.len; omega
  have hm40 : m ≤ 40 := by have := ok.m40; have := h.pipes.len; omega
  have HNn : Hid ((netG net).n = n) := Lib.hid h.nodes.len
  have HMm : Hid ((netG net).m = m) := Lib.hid h.pipes.len
  have hple := h.pipes.le
  have hpcap := h.pipes.cap
  subst hl
  have HS := Lib.hid hs
  clear hs
  have HB := Lib.hid (bel1 w (.cells #[.slice A l c, .slice B m d] 27))
  have bx0 : BX (w.alloc (.cells #[.slice A l c, .slice B m d] 27)) w.heap.size A l c B m d := ⟨heap_alloc_new w _⟩
  obtain ⟨W, hW⟩ : ∃ W, W = w.alloc (.cells #[.slice A l c, .slice B m d] 27) := ⟨_, rfl⟩
  have hWs : W.heap.size = w.heap.size + 1 := by rw [hW]; simp
  obtain ⟨bz, oz, hCe, hbz, hcz⟩ := hz.cells (by omega)
  subst hCe
  clear hcz
  go_enter Try.func69, Try.ntmps69
  go_wp2_with (first | (at_make; refine law_make _ rfl _ _ rfl m _ _ rfl rfl rfl rfl (by omega) ?_; intro w1 o1 b1 z1; have o0 := own_lit0 w1; have hz2 := hz.later (below_step (below_step HB.out b1) (bel1 w1 (.cells #[] 2)))) | (at_builtin; refine law_appendL _ rfl _ _ rfl _ _ _ _ rfl o0 _ _ _ _ rfl hz2 (by omega) ?_; rintro v' w2 ⟨Al, cl, rfl, o2, hb2⟩ hg2; have b2 : Below w1.heap.size w1 w2 := (bel1 w1 _).grown hg2 (by simp) (fun i hi => by simp at hi; omega); have bx2 := (bx0.step b1).step b2; have k0 := bx2.c0; have k1 := bx2.c1))
  rw [World.size_alloc] at o1
  rw [← hW] at b1 HB bx0
  rw [Nat.zero_add, List.nil_append] at o2
  have t1 := below_step HB.out b1
  have t2 := below_step t1 b2
  have q1 := b1.size
  have q2 := b2.size
  have oo1 := o1.lt _ rfl
  simp only at oo1
  obtain ⟨bl, rfl, hbl⟩ := o2.pos (by omega)
  have hfl : w1.heap.size ≤ bl := by
    rcases hb2 with hb2 | hb2
    · simp at hb2; omega
    · simp at hb2; omega
  refine (l04Components_any _ _ _ _ _ _ net _ (h.later t2) ok).mono ?_
  rintro e w5 ⟨Ac, rfl, o5, f5, b5⟩
  obtain ⟨bc, rfl, hbc⟩ := o5.pos (by omega)
  have hfc := f5 _ rfl
  simp only at hfc
  have q5 := b5.size
  have st0 : FV w A l c B m d w.heap.size (w.heap.size + 1) bl bc cl (netG net).comp ((netG net).fsK true (fun _ => 0, ig zs) 0).1 ((netG net).fsK true (fun _ => 0, ig zs) 0).2 w5 := by
    refine ⟨(bx2.step b5).box, ?_, ?_, o5, below_step t2 b5, Nat.le_refl _, by omega, by omega, by omega⟩
    · rw [show (netG net).fsK true (fun _ => 0, ig zs) 0 = (fun _ => 0, ig zs) from rfl, mapTo_const]
      exact (o1.later b2).later b5
    · rw [show (netG net).fsK true (fun _ => 0, ig zs) 0 = (fun _ => 0, ig zs) from rfl]
      have e : mapTo l (ig zs) = zs := ext_ig (by rw [mapTo_len, hz.len]) fun j hj => by rw [mapTo_len] at hj; exact mapTo_ig hj
      rw [e]
      exact o2.later b5
  clear hz o0 hz2 o1 o2 o5 b1 b2 b5 bx0 bx2 t1 t2 hW z1 HB k0 k1 hg2 hb2 hfl oo1
  have hlen : ∀ k, Lim (pw ((netG net).ordK k).length) ((netG net).fsK true (fun _ => 0, ig zs) k) := fun k => Gr.fsK_lim ⟨fun _ => ⟨by show (-30000 : Int) ≤ 0; decide, by show (0 : Int) ≤ 30000; decide⟩, HS.out⟩ k
  have HLIM := Lib.hid hlen
  clear hlen
  go_wp2_with fail
  go_loopw [8] (fun i wr => ∃ k : Nat, k ≤ l ∧ i = .int .i64 k ∧ FV w A l c B m d w.heap.size (w.heap.size + 1) bl bc cl (netG net).comp ((netG net).fsK true (fun _ => 0, ig zs) k).1 ((netG net).fsK true (fun _ => 0, ig zs) k).2 wr) (fun i _ => l - (intOf i).toNat)
  case atStart => exact ⟨0, by omega, rfl, st0⟩
  case round =>
    obtain ⟨k, hk, rfl, st⟩ := hrel
    clear st0
    by_cases hlt : k < l
    · have c1 := st.oC.cell hlt
      rw [mapTo_ig hlt] at c1
      by_cases hc : (netG net).comp k = k
      · rw [hc] at c1
        have HFK : Hid ((netG net).fsK true (fun _ => 0, ig zs) (k + 1) = (netG net).fsJ true k ((netG net).fsK true (fun _ => 0, ig zs) k) (((netG net).ord k).length - 1)) := Lib.hid (by show (if (netG net).comp k = k then _ else _) = _; rw [if_pos hc])
        have hkn : k < (netG net).n := by rw [HNn.out]; exact hlt
        have HRK : Hid ((netG net).root k = k) := Lib.hid ((Gr.root_comp ok.g hkn).1 hc)
        have HOS : Hid (((netG net).ordK k).length + ((netG net).ord k).length ≤ l) := Lib.hid (by have := Gr.ordK_step ok.g hkn hc; rw [HNn.out] at this; exact this)
        clear hc
        have k0 := st.c0
        have k1 := st.c1
        go_wp2_with fail
        refine (l04Search_any _ _ _ _ _ _ net k _ (h.later st.bel) ok hlt).mono ?_
        rintro e w6 ⟨Ao, lo, co, Ae, rfl, oo, oe, fo, fe, b6⟩
        have hlo := oo.len
        rw [nl_len] at hlo
        have hlo24 : lo ≤ l := by have := Gr.ord_len ok.g (r := k) hkn; rw [HNn.out] at this; omega
        have hlo1 : 1 ≤ lo := by have := List.length_pos_of_mem (Gr.ord_r ok.g (r := k) hkn); omega
        have HLO := Lib.hid hlo
        obtain ⟨ga, rfl, hga⟩ := oo.pos (by omega)
        obtain ⟨ge, rfl, hge⟩ := oe.pos (by omega)
        have hfo := fo _ rfl
        have hfe := fe _ rfl
        simp only at hfo hfe
        have hls := st.lt
        have st6 := st.later b6
        have e1 := st.h1
        have e2 := st.h2
        have e3 := st.h3
        clear k0 k1 c1 st b6 hlo
        obtain ⟨s0, hs0⟩ : ∃ s0, (netG net).fsK true (fun _ => 0, ig zs) k = s0 := ⟨_, rfl⟩
        have HL0 : Hid (Lim (pw ((netG net).ordK k).length) s0) := Lib.hid (by rw [← hs0]; exact HLIM.out k)
        rw [hs0] at st6 HFK
        clear hs0
        go_wp2_with fail
        go_loopw [11] (fun i wr => ∃ j : Nat, j ≤ lo - 1 ∧ i = .int .i64 ((lo - 1 - j : Nat) : Int) ∧ FV w A l c B m d w.heap.size (w.heap.size + 1) bl bc cl (netG net).comp ((netG net).fsJ true k s0 j).1 ((netG net).fsJ true k s0 j).2 wr ∧ Own wr (some ⟨ga, 0, none⟩) lo co (nl ((netG net).ord k)) ∧ Own wr (some ⟨ge, 0, none⟩) l l (mapTo l ((netG net).ent k))) (fun i _ => (intOf i).toNat)
        case atStart => exact ⟨0, by omega, by congr 1; omega, st6, oo, oe⟩
        case round =>
          obtain ⟨j, hj, rfl, st, oo, oe⟩ := hrel
          clear st6
          by_cases hjl : j < lo - 1
          · obtain ⟨i, hi⟩ : ∃ i, lo - 1 - j = i := ⟨_, rfl⟩
            have hi0 : 0 < i := by omega
            have hil : i < lo := by omega
            rw [hi]
            have hlim := HL0.out.fsJ (g := netG net) (z := true) (r := k) j
            have hos := HOS.out
            rw [HLO.out] at hos
            have hpw := pw_le (k := ((netG net).ordK k).length + j) (by omega)
            obtain ⟨v, q, y, hv, hvn, hvr, hvk, hvi, he, hfe', hqm, hjn, hoy, hyn, hyr, hyi⟩ := Gr.ord_at ok.g hkn HRK.out (i := i) (by rw [HLO.out]; exact hil) hi0
            have HFS0 : (netG net).fsJ true k s0 (j + 1) = (upd ((netG net).fsJ true k s0 j).1 q (if (netG net).f q = v then ((netG net).fsJ true k s0 j).2 v else -(((netG net).fsJ true k s0 j).2 v)), upd (upd ((netG net).fsJ true k s0 j).2 y (((netG net).fsJ true k s0 j).2 y + ((netG net).fsJ true k s0 j).2 v)) v 0) := by
              show (netG net).fs true k _ _ = _
              rw [HLO.out, hi, List.getD_eq_getElem?_getD, hv]
              show (netG net).fs true k _ v = _
              unfold Gr.fs
              rw [he, show ((q : Int)).toNat = q from rfl, hoy]; rfl
            obtain ⟨S, hS⟩ : ∃ S, (netG net).fsJ true k s0 j = S := ⟨_, rfl⟩
            rw [hS] at st hlim HFS0
            have HFS := Lib.hid HFS0
            clear HFS0 hS
            rw [HNn.out] at hvn hyn
            rw [HMm.out] at hqm
            have hvy : v ≠ y := by rintro rfl; have := ok.g q (by rw [HMm.out]; exact hqm); rcases hjn with ⟨a, b⟩ | ⟨a, b⟩ <;> omega
            have hSv := hlim.left v
            have hSy := hlim.left y
            have HTC : Hid ((netG net).f q = v ∨ (netG net).t q = v) := Lib.hid (Gr.touch_of_joins hjn)
            have co1 := oo.cell hil
            rw [nl_ig (by rw [HLO.out]; exact hil), show ((netG net).ord k)[i]'(by rw [HLO.out]; exact hil) = v from (List.getElem?_eq_some_iff.1 hv).2] at co1
            have ce := oe.cell hvn
            rw [mapTo_ig hvn, he] at ce
            have cl1 := st.oL.cell hvn
            rw [mapTo_ig hvn] at cl1
            have kb0 := st.c0
            have kb1 := st.c1
            obtain ⟨bp, offp, rfl, hblp, hcp⟩ := (h.pipes.later st.bel).cells (by omega)
            obtain ⟨p0, p1, p2, p3, p4⟩ := hcp q hqm
            have hpl : q < net.pipes.length := by rw [h.pipes.len]; exact hqm
            have cf1 := st.oF.cell hqm
            have uf1 := st.oF.unfrozen q
            rw [ok.fr hpl] at p0
            clear hcp hv hvr hvk hvi he hfe' hjn hyr hyi hlim p1 p2 p3 p4
            by_cases hfv : (netG net).f q = v
            · have g1 : (((netG net).f q : Int) != (v : Int)) = false := by simp [hfv]
              have HFI : Hid ((if (netG net).f q = v then S.2 v else -(S.2 v)) = S.2 v) := Lib.hid (by rw [if_pos hfv])
              have stu := st.putF q (z := S.2 v) ⟨by omega, by omega⟩
              have oou := oo.far (p := ⟨w.heap.size + 1, q, none⟩) (fun a ha => by injection ha with ha; subst ha; show ga ≠ w.heap.size + 1; omega) (.int .i64 (S.2 v))
              have oeu := oe.far (p := ⟨w.heap.size + 1, q, none⟩) (fun a ha => by injection ha with ha; subst ha; show ge ≠ w.heap.size + 1; omega) (.int .i64 (S.2 v))
              have kb0u := stu.c0
              have kb1u := stu.c1
              obtain ⟨wu, hwu⟩ : ∃ wu, wu = wr.setCell ⟨w.heap.size + 1, q, none⟩ (.int .i64 (S.2 v)) := ⟨_, rfl⟩
              have HWU := Lib.hid hwu
              have STU := Lib.hid stu
              have OOU := Lib.hid oou
              have OEU := Lib.hid oeu
              clear stu oou oeu st oo oe hwu hfv
              obtain ⟨F, hF⟩ : ∃ F, (netG net).f q = F := ⟨_, rfl⟩
              rw [hF] at p0 g1
              have HF := Lib.hid hF
              clear hF
              go_wp2_with fail
              refine (l02Other_any _ _ _ _ _ _ net q v _ (h.later STU.out.bel) ok hqm HTC.out).mono ?_
              rintro e w7 ⟨rfl, b7⟩
              rw [hoy]
              have st7 := STU.out.later b7
              have oo7 := OOU.out.later b7
              have oe7 := OEU.out.later b7
              clear cl1 kb0 kb1 kb0u kb1u p0 cf1 uf1 co1 ce STU OOU OEU HWU b7
              have cv := st7.oL.cell hvn
              rw [mapTo_ig hvn] at cv
              have cy := st7.oL.cell hyn
              rw [mapTo_ig hyn] at cy
              have uy := st7.oL.unfrozen y
              have uv := st7.oL.unfrozen v
              have st8 := (st7.putL y (z := S.2 y + S.2 v) ⟨by omega, by omega⟩).putL v (z := 0) ⟨by decide, by decide⟩
              have oo8 := (oo7.far (p := ⟨bl, y, none⟩) (fun a ha => by injection ha with ha; subst ha; show ga ≠ bl; omega) (.int .i64 (S.2 y + S.2 v))).far (p := ⟨bl, v, none⟩) (fun a ha => by injection ha with ha; subst ha; show ga ≠ bl; omega) (.int .i64 0)
              have oe8 := (oe7.far (p := ⟨bl, y, none⟩) (fun a ha => by injection ha with ha; subst ha; show ge ≠ bl; omega) (.int .i64 (S.2 y + S.2 v))).far (p := ⟨bl, v, none⟩) (fun a ha => by injection ha with ha; subst ha; show ge ≠ bl; omega) (.int .i64 0)
              have ST8 := Lib.hid st8
              have OO8 := Lib.hid oo8
              have OE8 := Lib.hid oe8
              clear st7 oo7 oe7 st8 oo8 oe8
              have HVY := Lib.hid hvy
              generalize S.2 v = X at *
              generalize S.2 y = Y at *
              go_wp2_with fail
              go_region
              go_wp2_with fail
              go_roundw
              case rel =>
                refine ⟨j + 1, by omega, by have := hi; congr 1; omega, ?_, OO8.out.later (Below.refl _ _).drew, OE8.out.later (Below.refl _ _).drew⟩
                rw [HFS.out, HFI.out]
                exact ST8.out.later (Below.refl _ _).drew
              case measure => simp [intOf]; omega
            · have g1 : (((netG net).f q : Int) != (v : Int)) = true := by simp; omega
              have HFI : Hid ((if (netG net).f q = v then S.2 v else -(S.2 v)) = -(S.2 v)) := Lib.hid (by rw [if_neg hfv])
              have stu := st.putF q (z := -(S.2 v)) ⟨by omega, by omega⟩
              have oou := oo.far (p := ⟨w.heap.size + 1, q, none⟩) (fun a ha => by injection ha with ha; subst ha; show ga ≠ w.heap.size + 1; omega) (.int .i64 (-(S.2 v)))
              have oeu := oe.far (p := ⟨w.heap.size + 1, q, none⟩) (fun a ha => by injection ha with ha; subst ha; show ge ≠ w.heap.size + 1; omega) (.int .i64 (-(S.2 v)))
              have kb0u := stu.c0
              have kb1u := stu.c1
              obtain ⟨wu, hwu⟩ : ∃ wu, wu = wr.setCell ⟨w.heap.size + 1, q, none⟩ (.int .i64 (-(S.2 v))) := ⟨_, rfl⟩
              have HWU := Lib.hid hwu
              have STU := Lib.hid stu
              have OOU := Lib.hid oou
              have OEU := Lib.hid oeu
              clear stu oou oeu st oo oe hwu hfv
              obtain ⟨F, hF⟩ : ∃ F, (netG net).f q = F := ⟨_, rfl⟩
              rw [hF] at p0 g1
              have HF := Lib.hid hF
              clear hF
              go_wp2_with fail
              refine (l02Other_any _ _ _ _ _ _ net q v _ (h.later STU.out.bel) ok hqm HTC.out).mono ?_
              rintro e w7 ⟨rfl, b7⟩
              rw [hoy]
              have st7 := STU.out.later b7
              have oo7 := OOU.out.later b7
              have oe7 := OEU.out.later b7
              clear cl1 kb0 kb1 kb0u kb1u p0 cf1 uf1 co1 ce STU OOU OEU HWU b7
              have cv := st7.oL.cell hvn
              rw [mapTo_ig hvn] at cv
              have cy := st7.oL.cell hyn
              rw [mapTo_ig hyn] at cy
              have uy := st7.oL.unfrozen y
              have uv := st7.oL.unfrozen v
              have st8 := (st7.putL y (z := S.2 y + S.2 v) ⟨by omega, by omega⟩).putL v (z := 0) ⟨by decide, by decide⟩
              have oo8 := (oo7.far (p := ⟨bl, y, none⟩) (fun a ha => by injection ha with ha; subst ha; show ga ≠ bl; omega) (.int .i64 (S.2 y + S.2 v))).far (p := ⟨bl, v, none⟩) (fun a ha => by injection ha with ha; subst ha; show ga ≠ bl; omega) (.int .i64 0)
              have oe8 := (oe7.far (p := ⟨bl, y, none⟩) (fun a ha => by injection ha with ha; subst ha; show ge ≠ bl; omega) (.int .i64 (S.2 y + S.2 v))).far (p := ⟨bl, v, none⟩) (fun a ha => by injection ha with ha; subst ha; show ge ≠ bl; omega) (.int .i64 0)
              have ST8 := Lib.hid st8
              have OO8 := Lib.hid oo8
              have OE8 := Lib.hid oe8
              clear st7 oo7 oe7 st8 oo8 oe8
              have HVY := Lib.hid hvy
              generalize S.2 v = X at *
              generalize S.2 y = Y at *
              go_wp2_with fail
              go_region
              go_wp2_with fail
              go_roundw
              case rel =>
                refine ⟨j + 1, by omega, by have := hi; congr 1; omega, ?_, OO8.out.later (Below.refl _ _).drew, OE8.out.later (Below.refl _ _).drew⟩
                rw [HFS.out, HFI.out]
                exact ST8.out.later (Below.refl _ _).drew
              case measure => simp [intOf]; omega
          · have hjl2 : lo - 1 - j = 0 := by omega
            have hjj : j = lo - 1 := by omega
            have hfk := HFK.out
            rw [HLO.out, ← hjj] at hfk
            rw [← hfk] at st
            rw [hjl2]
            have ST := Lib.hid st
            clear st hfk hjj hjl2 oo oe
            go_wp2_with fail
            go_roundw
            case rel => exact ⟨k + 1, by omega, by go_num, ST.out⟩
            case measure => simp [intOf]; omega
      · have hcb : ((netG net).comp k != (k : Int)) = true := by simp [hc]
        have hbn := Gr.cmp_bnd (g := netG net) (netG net).n k
        rw [show (netG net).cmp (netG net).n k = (netG net).comp k from rfl] at hbn
        have HK : Hid ((netG net).fsK true (fun _ => 0, ig zs) (k + 1) = (netG net).fsK true (fun _ => 0, ig zs) k) := Lib.hid (by show (if (netG net).comp k = k then _ else _) = _; rw [if_neg hc])
        rw [← HK.out] at st
        clear hc HK
        have ST := Lib.hid st
        clear st
        go_wp2_with fail
        go_roundw
        case rel => exact ⟨k + 1, by omega, by go_num, ST.out⟩
        case measure => simp [intOf]; omega
    · have hkl : l = k := by omega
      have HFF : Hid (mapTo m ((netG net).fsK true (fun _ => 0, ig zs) k).1 = mapTo m ((netG net).ffl (ig zs))) := Lib.hid (by
        have := Gr.fsK_ffl (z := true) (sup := ig zs) ok.g
        rw [HNn.out, HMm.out, hkl] at this; exact this)
      have ST := Lib.hid st
      clear hkl st
      go_wp2_with fail
      go_ret
      refine ⟨some ⟨w.heap.size + 1, 0, none⟩, rfl, ?_, (fun a ha => by injection ha with ha; subst ha; show w.heap.size ≤ w.heap.size + 1; omega), ST.out.bel⟩
      rw [← HFF.out]; exact ST.out.oF

end Go.Proofs.Ytllblmndoigdlaa

/- ForestFlows, TreeFlows -/
namespace Go.Proofs.Ytllblmndoigdlaa
open Go.RowKit

noncomputable def ffL (net : Net) (zs : List Int) : List Int := mapTo net.pipes.length ((netG net).ffl (ig zs))
theorem ffL_len (net : Net) (zs : List Int) : (ffL net zs).length = net.pipes.length := mapTo_len _ _
noncomputable def rFF (net : Net) (zs : List Int) : List Int × Int := if evB net zs then (if allB (ffL net zs) (-30000) 30000 then (ffL net zs, 0) else ([], 2)) else ([], 5)
noncomputable def rForestFlows (net : Net) (zs : List Int) : List Int × Int := if codeS net zs = 0 then rFF net zs else ([], codeS net zs)
theorem flowB_ffL (net : Net) (zs : List Int) : flowB net (ffL net zs) = allB (ffL net zs) (-30000) 30000 := by
  unfold flowB; rw [ffL_len]; simp
theorem rFF_len {net : Net} (hv : netB net = true) (zs : List Int) : (rFF net zs).1.length ≤ 40 := by
  unfold rFF
  split
  · split
    · show (ffL net zs).length ≤ _
      rw [ffL_len]; exact (netB_sizes hv).2.2
    · simp
  · simp
theorem rForestFlows_len (net : Net) (zs : List Int) (_h : zs.length ≤ 1048576) : (rForestFlows net zs).1.length ≤ 1048576 := by
  unfold rForestFlows
  by_cases h0 : codeS net zs = 0
  · rw [if_pos h0]
    have := rFF_len (codeS_zero h0).1 zs
    omega
  · rw [if_neg h0]; simp

set_option maxRecDepth 100000 in
set_option maxHeartbeats 2000000 in
theorem implForestFlows_any (A : Option Addr) (n c : Nat) (B : Option Addr) (m d : Nat) (net : Net) (C : Option Addr) (l e : Nat) (zs : List Int) (w : World) (h : NetAt w A n c B m d net) (hz : Ints w C l e zs) :
    Calls Try.prog 17 #[.agg #[.slice A n c, .slice B m d], .slice C l e] w fun e w' => RetLI w (rForestFlows net zs) e w' := by
  have HB := Lib.hid (bel1 w (.cells #[.slice A n c, .slice B m d] 27))
  by_cases h0 : codeS net zs = 0
  · obtain ⟨hv, hs⟩ := codeS_zero h0
    have HLN : Hid (l = n) := Lib.hid (by have := supB_len hs; have := h.nodes.len; have := hz.len; omega)
    have HMP := Lib.hid h.pipes.len
    rcases hE : evB net zs with _ | _
    · have HR : Hid (rForestFlows net zs = ([], 5)) := Lib.hid (by unfold rForestFlows rFF; rw [if_pos h0, hE]; rfl)
      go_enter Try.func17, Try.ntmps17
      go_wp2_with fail
      refine (checkSupplies_is _ _ _ _ _ _ _ _ _ net zs _ _ (h.later HB.out) (hz.later HB.out) h0).mono ?_
      rintro e w1 ⟨rfl, b1⟩
      have t1 := below_step HB.out b1
      have s1 := b1
      obtain ⟨k0, k1⟩ := box_cells s1
      go_wp2_with fail
      refine (isEven_is _ _ _ _ _ _ net _ _ _ zs _ _ (h.later t1) (hz.later t1) (NetOK.of hv) hs hE).mono ?_
      rintro e w2 ⟨rfl, b2⟩
      clear k0 k1
      have t2 := below_step t1 b2
      have s2 := below_step s1 b2
      obtain ⟨k0, k1⟩ := box_cells s2
      go_wp2_with fail
      go_ret2
      exact retLI_nil rfl HR.out t2
    · rcases hA : allB (ffL net zs) (-30000) 30000 with _ | _
      · have HR : Hid (rForestFlows net zs = ([], 2)) := Lib.hid (by unfold rForestFlows rFF; rw [if_pos h0, hE, hA]; rfl)
        go_enter Try.func17, Try.ntmps17
        go_wp2_with fail
        refine (checkSupplies_is _ _ _ _ _ _ _ _ _ net zs _ _ (h.later HB.out) (hz.later HB.out) h0).mono ?_
        rintro e w1 ⟨rfl, b1⟩
        have t1 := below_step HB.out b1
        have s1 := b1
        obtain ⟨k0, k1⟩ := box_cells s1
        go_wp2_with fail
        refine (isEven_is _ _ _ _ _ _ net _ _ _ zs _ _ (h.later t1) (hz.later t1) (NetOK.of hv) hs hE).mono ?_
        rintro e w2 ⟨rfl, b2⟩
        clear k0 k1
        have t2 := below_step t1 b2
        have s2 := below_step s1 b2
        obtain ⟨k0, k1⟩ := box_cells s2
        go_wp2_with fail
        refine (forestFlows_any _ _ _ _ _ _ net _ _ _ zs _ (h.later t2) (hz.later t2) (NetOK.of hv) HLN.out (supB_all hs)).mono ?_
        rintro e w3 ⟨Af, rfl, of, ff, b3⟩
        clear k0 k1
        have t3 := below_step t2 b3
        have s3 := below_step s2 b3
        obtain ⟨k0, k1⟩ := box_cells s3
        have of2 : Own w3 Af m m (ffL net zs) := by have e := HMP.out; unfold ffL; rw [e]; exact of
        clear of
        go_wp2_with fail
        refine (checkedFlows_is _ _ _ _ _ _ of2.ints hA).mono ?_
        rintro e w' ⟨rfl, rfl⟩
        clear k0 k1
        go_wp2_with fail
        go_ret2
        exact retLI_nil rfl HR.out t3
      · have HR : Hid (rForestFlows net zs = (ffL net zs, 0)) := Lib.hid (by unfold rForestFlows rFF; rw [if_pos h0, hE, hA]; rfl)
        go_enter Try.func17, Try.ntmps17
        go_wp2_with fail
        refine (checkSupplies_is _ _ _ _ _ _ _ _ _ net zs _ _ (h.later HB.out) (hz.later HB.out) h0).mono ?_
        rintro e w1 ⟨rfl, b1⟩
        have t1 := below_step HB.out b1
        have s1 := b1
        obtain ⟨k0, k1⟩ := box_cells s1
        go_wp2_with fail
        refine (isEven_is _ _ _ _ _ _ net _ _ _ zs _ _ (h.later t1) (hz.later t1) (NetOK.of hv) hs hE).mono ?_
        rintro e w2 ⟨rfl, b2⟩
        clear k0 k1
        have t2 := below_step t1 b2
        have s2 := below_step s1 b2
        obtain ⟨k0, k1⟩ := box_cells s2
        go_wp2_with fail
        refine (forestFlows_any _ _ _ _ _ _ net _ _ _ zs _ (h.later t2) (hz.later t2) (NetOK.of hv) HLN.out (supB_all hs)).mono ?_
        rintro e w3 ⟨Af, rfl, of, ff, b3⟩
        clear k0 k1
        have t3 := below_step t2 b3
        have s3 := below_step s2 b3
        obtain ⟨k0, k1⟩ := box_cells s3
        have of2 : Own w3 Af m m (ffL net zs) := by have e := HMP.out; unfold ffL; rw [e]; exact of
        clear of
        go_wp2_with fail
        refine (checkedFlows_is _ _ _ _ _ _ of2.ints hA).mono ?_
        rintro e w' ⟨rfl, rfl⟩
        clear k0 k1
        go_wp2_with fail
        go_ret2
        exact retLI_own rfl HR.out of2 (fresh_up ff t2.size) t3
  · obtain ⟨k, hk⟩ : ∃ k, codeS net zs = k := ⟨_, rfl⟩
    rw [hk] at h0
    have hne : (k != 0) = true := by simp [h0]
    have hne2 : (k == 0) = false := by simp [h0]
    have HR : Hid (rForestFlows net zs = ([], k)) := Lib.hid (by unfold rForestFlows; rw [hk, if_neg h0])
    go_enter Try.func17, Try.ntmps17
    go_wp2_with fail
    refine (checkSupplies_is _ _ _ _ _ _ _ _ _ net zs _ _ (h.later HB.out) (hz.later HB.out) hk).mono ?_
    rintro e w1 ⟨rfl, b1⟩
    have t1 := below_step HB.out b1
    have s1 := b1
    obtain ⟨k0, k1⟩ := box_cells s1
    go_wp2_with fail
    go_ret2
    exact retLI_nil rfl HR.out t1

set_option maxRecDepth 100000 in
set_option maxHeartbeats 2000000 in
theorem specForestFlows_any (A : Option Addr) (n c : Nat) (B : Option Addr) (m d : Nat) (net : Net) (C : Option Addr) (l e : Nat) (zs : List Int) (w : World) (h : NetAt w A n c B m d net) (hz : Ints w C l e zs) :
    Calls Try.prog 18 #[.agg #[.slice A n c, .slice B m d], .slice C l e] w fun e w' => RetLI w (rForestFlows net zs) e w' := by
  have HB := Lib.hid (bel1 w (.cells #[.slice A n c, .slice B m d] 27))
  by_cases h0 : codeS net zs = 0
  · obtain ⟨hv, hs⟩ := codeS_zero h0
    have HLN : Hid (l = n) := Lib.hid (by have := supB_len hs; have := h.nodes.len; have := hz.len; omega)
    have HMP := Lib.hid h.pipes.len
    rcases hE : evB net zs with _ | _
    · have HR : Hid (rForestFlows net zs = ([], 5)) := Lib.hid (by unfold rForestFlows rFF; rw [if_pos h0, hE]; rfl)
      go_enter Try.func18, Try.ntmps18
      go_wp2_with fail
      refine (l06Code_is _ _ _ _ _ _ _ _ _ net zs _ _ (h.later HB.out) (hz.later HB.out) h0).mono ?_
      rintro e w1 ⟨rfl, b1⟩
      have t1 := below_step HB.out b1
      have s1 := b1
      obtain ⟨k0, k1⟩ := box_cells s1
      go_wp2_with fail
      refine (l06Even_is _ _ _ _ _ _ net _ _ _ zs _ _ (h.later t1) (hz.later t1) (NetOK.of hv) hs hE).mono ?_
      rintro e w2 ⟨rfl, b2⟩
      clear k0 k1
      have t2 := below_step t1 b2
      have s2 := below_step s1 b2
      obtain ⟨k0, k1⟩ := box_cells s2
      go_wp2_with fail
      go_ret2
      exact retLI_nil rfl HR.out t2
    · rcases hA : allB (ffL net zs) (-30000) 30000 with _ | _
      · have HR : Hid (rForestFlows net zs = ([], 2)) := Lib.hid (by unfold rForestFlows rFF; rw [if_pos h0, hE, hA]; rfl)
        go_enter Try.func18, Try.ntmps18
        go_wp2_with fail
        refine (l06Code_is _ _ _ _ _ _ _ _ _ net zs _ _ (h.later HB.out) (hz.later HB.out) h0).mono ?_
        rintro e w1 ⟨rfl, b1⟩
        have t1 := below_step HB.out b1
        have s1 := b1
        obtain ⟨k0, k1⟩ := box_cells s1
        go_wp2_with fail
        refine (l06Even_is _ _ _ _ _ _ net _ _ _ zs _ _ (h.later t1) (hz.later t1) (NetOK.of hv) hs hE).mono ?_
        rintro e w2 ⟨rfl, b2⟩
        clear k0 k1
        have t2 := below_step t1 b2
        have s2 := below_step s1 b2
        obtain ⟨k0, k1⟩ := box_cells s2
        go_wp2_with fail
        refine (l06Forest_any _ _ _ _ _ _ net _ _ _ zs _ (h.later t2) (hz.later t2) (NetOK.of hv) HLN.out (supB_all hs)).mono ?_
        rintro e w3 ⟨Af, rfl, of, ff, b3⟩
        clear k0 k1
        have t3 := below_step t2 b3
        have s3 := below_step s2 b3
        obtain ⟨k0, k1⟩ := box_cells s3
        have of2 : Own w3 Af m m (ffL net zs) := by have e := HMP.out; unfold ffL; rw [e]; exact of
        clear of
        go_wp2_with fail
        refine (l05List_is _ _ _ _ _ _ _ _ _ net _ _ _ (h.later t3) of2.ints ((flowB_ffL net zs).trans hA)).mono ?_
        rintro e w4 ⟨rfl, b4⟩
        clear k0 k1
        have t4 := below_step t3 b4
        have s4 := below_step s3 b4
        obtain ⟨k0, k1⟩ := box_cells s4
        go_wp2_with fail
        go_ret2
        exact retLI_nil rfl HR.out t4
      · have HR : Hid (rForestFlows net zs = (ffL net zs, 0)) := Lib.hid (by unfold rForestFlows rFF; rw [if_pos h0, hE, hA]; rfl)
        go_enter Try.func18, Try.ntmps18
        go_wp2_with fail
        refine (l06Code_is _ _ _ _ _ _ _ _ _ net zs _ _ (h.later HB.out) (hz.later HB.out) h0).mono ?_
        rintro e w1 ⟨rfl, b1⟩
        have t1 := below_step HB.out b1
        have s1 := b1
        obtain ⟨k0, k1⟩ := box_cells s1
        go_wp2_with fail
        refine (l06Even_is _ _ _ _ _ _ net _ _ _ zs _ _ (h.later t1) (hz.later t1) (NetOK.of hv) hs hE).mono ?_
        rintro e w2 ⟨rfl, b2⟩
        clear k0 k1
        have t2 := below_step t1 b2
        have s2 := below_step s1 b2
        obtain ⟨k0, k1⟩ := box_cells s2
        go_wp2_with fail
        refine (l06Forest_any _ _ _ _ _ _ net _ _ _ zs _ (h.later t2) (hz.later t2) (NetOK.of hv) HLN.out (supB_all hs)).mono ?_
        rintro e w3 ⟨Af, rfl, of, ff, b3⟩
        clear k0 k1
        have t3 := below_step t2 b3
        have s3 := below_step s2 b3
        obtain ⟨k0, k1⟩ := box_cells s3
        have of2 : Own w3 Af m m (ffL net zs) := by have e := HMP.out; unfold ffL; rw [e]; exact of
        clear of
        go_wp2_with fail
        refine (l05List_is _ _ _ _ _ _ _ _ _ net _ _ _ (h.later t3) of2.ints ((flowB_ffL net zs).trans hA)).mono ?_
        rintro e w4 ⟨rfl, b4⟩
        clear k0 k1
        have t4 := below_step t3 b4
        have s4 := below_step s3 b4
        obtain ⟨k0, k1⟩ := box_cells s4
        go_wp2_with fail
        go_ret2
        exact retLI_own rfl HR.out (of2.later b4) (fresh_up ff t2.size) t4
  · obtain ⟨k, hk⟩ : ∃ k, codeS net zs = k := ⟨_, rfl⟩
    rw [hk] at h0
    have hne : (k != 0) = true := by simp [h0]
    have hne2 : (k == 0) = false := by simp [h0]
    have HR : Hid (rForestFlows net zs = ([], k)) := Lib.hid (by unfold rForestFlows; rw [hk, if_neg h0])
    go_enter Try.func18, Try.ntmps18
    go_wp2_with fail
    refine (l06Code_is _ _ _ _ _ _ _ _ _ net zs _ _ (h.later HB.out) (hz.later HB.out) hk).mono ?_
    rintro e w1 ⟨rfl, b1⟩
    have t1 := below_step HB.out b1
    have s1 := b1
    obtain ⟨k0, k1⟩ := box_cells s1
    go_wp2_with fail
    go_ret2
    exact retLI_nil rfl HR.out t1

/-! ### trees -/
def treeB (net : Net) : Bool := (netG net).conn && decide ((net.pipes.length : Int) = (net.nodes.length : Int) - 1)
noncomputable def rTF (net : Net) (zs : List Int) : List Int × Int := if treeB net then rFF net zs else ([], 5)
noncomputable def rTreeFlows (net : Net) (zs : List Int) : List Int × Int := if codeS net zs = 0 then rTF net zs else ([], codeS net zs)
theorem rTreeFlows_len (net : Net) (zs : List Int) (_h : zs.length ≤ 1048576) : (rTreeFlows net zs).1.length ≤ 1048576 := by
  unfold rTreeFlows rTF
  by_cases h0 : codeS net zs = 0
  · rw [if_pos h0]
    have := rFF_len (codeS_zero h0).1 zs
    split
    · omega
    · simp
  · rw [if_neg h0]; simp

theorem retLI_up {w w0 w' : World} {r : List Int × Int} {e : Ending} (hb : Below w.heap.size w w0) (h : RetLI w0 r e w') : RetLI w r e w' := by
  obtain ⟨A, c, he, ho, hf, hbb⟩ := h
  exact ⟨A, c, he, ho, fresh_up hf hb.size, below_step hb hbb⟩

end Go.Proofs.Ytllblmndoigdlaa
