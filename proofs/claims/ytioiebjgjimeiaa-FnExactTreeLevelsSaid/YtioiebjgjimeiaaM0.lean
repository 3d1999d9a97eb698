/- ranges over a function: what is kept -/
import Derived.RangeFuncNested
import Derived.RangeFuncBound
import Derived.RangeFuncCalls
import Derived.RangeFuncLeaves
import Derived.Shelf.Abstract
import Derived.Shelf.RegionOpen
import Derived.WalkKit
import Derived.OwnWalkIn
import Derived.TacticsInMore
import Derived.LoopNIn
import Derived.LoopIn
import Derived.Test.YtioiebjgjimeiaaJ4
import Derived.Test.YtioiebjgjimeiaaH6
import Derived.Test.YtioiebjgjimeiaaQ6
namespace Go.Proofs.Ytioiebjgjimeiaa
open Go Go.RowKit

theorem own_obj {w : World} {A : Option Addr} {n c : Nat} {zs : List Int} (h : Own w A n c zs) : ∀ a, A = some a → ∃ o : Obj, w.heap[a.block]? = some o ∧ o.isCells = true := by
  intro a ha
  rcases h.row.2 with ⟨h1, _⟩ | ⟨g, cap, cur, h1, _, hg, _⟩
  · injection h1 with e; rw [e] at ha; cases ha
  · injection h1 with e
    rw [e] at ha; injection ha with ha; subst ha
    exact ⟨_, hg, rfl⟩
theorem Own.kept {W W' : World} {A : Option Addr} {n c : Nat} {zs : List Int} {row : Option Nat} (h : Own W A n c zs) (hg : W.grownBy W' row) (hr : ∀ r, row = some r → ∃ o : Obj, W.heap[r]? = some o ∧ o.isCells = false) : Own W' A n c zs :=
  h.keep fun a ha => by
    obtain ⟨o, ho, hc⟩ := own_obj h a ha
    exact grownBy_keeps_cells hg hr ho hc
theorem blk_kept {W W' : World} {row : Option Nat} {k : Nat} {cs : Array Value} {t : TypeId} {fr : Nat × Nat} (h : W.heap[k]? = some (.cells cs t fr)) (hg : W.grownBy W' row) (hr : ∀ r, row = some r → ∃ o : Obj, W.heap[r]? = some o ∧ o.isCells = false) : W'.heap[k]? = some (.cells cs t fr) :=
  (grownBy_keeps_cells hg hr h rfl).trans h
theorem keepsOthers_below {W W' : World} (h : Below W.heap.size W W') : KeepsOthers W W' :=
  ⟨h.size, fun k _ hk _ => (h.block k (Array.getElem?_eq_some_iff.1 hk).1).trans hk⟩

def mark (D : Nat) : Deferred := { target := .collected D, args := #[] }
theorem leaves_marks {F : Fence} {n : Nat} {P : Program} {fn : Func} {tmps : Array Value} {R : Ending → World → Prop} {B : Nat} (Ds : List Nat) : ∀ (W : World), Ds.Nodup → (∀ D ∈ Ds, B ≤ D ∧ W.heap[D]? = some (.deferred (some []))) →
    (∀ W', Below B W W' → (∀ (k : Nat) (o : Obj), W.heap[k]? = some o → o.isCells = true → W'.heap[k]? = some o) → LeavesIn F n P fn tmps R [] .returning W') → LeavesInM F n P fn tmps R (Ds.map mark) .returning W := by
  induction Ds with
  | nil => exact fun W _ _ h => h W (Below.refl _ _) (fun _ _ h _ => h)
  | cons D Ds ih =>
    intro W hnd hD h
    obtain ⟨h1, h2⟩ := List.nodup_cons.1 hnd
    have hd := hD D List.mem_cons_self
    have hlt := (Array.getElem?_eq_some_iff.1 hd.2).1
    have hb : Below B W (W.putObj D (.deferred none)) := (Below.refl B W).grown (grownBy_putObj' W D _) (by omega) (fun k e => by cases e; exact hd.1)
    refine ⟨by simp, .inl ⟨D, _, rfl, run_takeDeferred hd.2, ih _ h2 (fun D' hD' => ?_) fun W' hb' hk => h W' (hb.trans hb') fun k o hko hc => hk k o ?_ hc⟩⟩
    · have := hD D' (List.mem_cons_of_mem _ hD')
      exact ⟨this.1, (World.putObj_heap_other (by rintro rfl; exact h1 hD')).trans this.2⟩
    · refine (World.putObj_heap_other ?_).trans hko
      rintro rfl
      rw [hd.2] at hko
      cases hko; cases hc
/-! ### operations in a round -/
theorem rowsIn_wide {n : Nat} {P : Program} {row : String} {args : Array Value} {w : World} {R : Value → World → Prop} (h : Rows P row args w R) : RowsIn Fence.wide n P row args w R :=
  fun c cs _ => let ⟨v, w', r, s⟩ := h c cs; ⟨v, w', r, stepsIn_wide.2 s⟩
def noDefer (o : Oper) : Bool := match o.op with
  | .defer _ => false
  | _ => true

section
variable {n l0 : Nat} {P : Program} {ops : Array Oper} {Q : Exit → Act → World → Prop}
theorem opIn_round {o : Oper} {a : Act} {w : World} {K : Act → World → Prop} (hd : noDefer o = true) (h : o.wp P a w K Q) : o.wpIn (Fence.wide.inRound l0) n P a w K Q := by
  unfold Oper.wp at h
  refine ⟨fun _ _ => trivial, ?_⟩
  rw [show (Fence.wide.inRound l0).round = some l0 from rfl, Oper.semAt_some l0 _ _ (fun c hc => by unfold noDefer at hd; rw [hc] at hd; cases hd)]
  generalize (execOp a.eval o).run P w = r at *
  cases r with
  | ok x w' =>
    cases x <;> simp only [Oper.upon] at h <;> simp only [Oper.uponIn] <;>
      first
        | exact h
        | exact ⟨fun hs => (by cases hs), callsIn_wide.2 h⟩
        | exact ⟨fun hs => (by cases hs), rowsIn_wide h⟩
        | exact h.elim
  | halt x w' => cases x <;> simp only [Oper.upon] at h <;> simp only [Oper.uponIn] <;> exact h
theorem wpListIn_round (hno : ¬ LetsOut Q) : ∀ {rest : List Oper} {a : Act} {w : World}, (rest.all noDefer) = true → wpList P ops Q rest a w → wpListIn (Fence.wide.inRound l0) n P ops Q rest a w
  | [], _, _, _, h => h
  | o :: rest, a, w, hd, h => by
    rw [List.all_cons, Bool.and_eq_true] at hd
    unfold wpList at h
    unfold wpListIn
    split at h
    · rename_i hw
      rw [if_pos hw]
      exact opIn_round hd.1 (Oper.wp_mono (fun a w h => wpListIn_round hno hd.2 h) (h.resolve_right fun x => hno x.2))
    · rename_i hw
      rw [if_neg hw]
      exact ⟨fun _ _ => trivial, wpListIn_round hno hd.2 h⟩
theorem region_round {id : Nat} {l : List Oper} {a : Act} {w : World} (hno : ¬ LetsOut Q) (hd : (l.all noDefer) = true) (h : wpList P l.toArray Q l a w) : (Code.region id l.toArray false).wpIn (Fence.wide.inRound l0) n P Q a w :=
  wpIn_region_lit (wpListIn_round hno hd h)
theorem wpAnyIn_round {md : Region.Mode} (hno : ¬ LetsOut Q) (hd : (ops.all noDefer) = true) : ∀ (fuel : Nat) (listed : Array Bool) (a : Act) (w : World), wpAny P md ops Q fuel listed a w → wpAnyIn (Fence.wide.inRound l0) n P md ops Q fuel listed a w
  | 0, _, _, _, h => h
  | fuel + 1, _, _, _, h => ⟨h.1, fun i hi => by
    have h2 := h.2 i hi
    unfold wpOp at h2
    unfold wpOpIn
    rcases ho : ops[i]? with _ | o
    · simp only [ho] at h2 ⊢
      exact wpAnyIn_round hno hd fuel _ _ _ h2
    · simp only [ho] at h2 ⊢
      split at h2
      · rename_i hw
        rw [if_pos hw]
        refine opIn_round ?_ (Oper.wp_mono (fun a w h => wpAnyIn_round hno hd fuel _ a w h) (h2.resolve_right fun x => hno x.2))
        exact Array.all_eq_true'.1 hd o (Array.mem_of_getElem? ho)
      · rename_i hw
        rw [if_neg hw]
        exact ⟨fun _ _ => trivial, wpAnyIn_round hno hd fuel _ _ _ h2⟩⟩
theorem any_round {id : Nat} {l : List Oper} {a : Act} {w : World} (hno : ¬ LetsOut Q) (hm : P.follows .mixedOrders = true) (hd : (l.toArray.all noDefer) = true) (h : wpAny P .any l.toArray Q l.toArray.size (Array.replicate l.toArray.size false) a { w with drawn := w.drawn + 1 }) : (Code.region id l.toArray true).wpIn (Fence.wide.inRound l0) n P Q a w :=
  wpIn_region_any hm (wpAnyIn_round hno hd _ _ _ _ h)

end
end Go.Proofs.Ytioiebjgjimeiaa
