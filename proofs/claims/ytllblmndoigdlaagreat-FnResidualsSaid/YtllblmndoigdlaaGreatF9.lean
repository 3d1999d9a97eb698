/- what flows out of each node -/
import Derived.Test.YtllblmndoigdlaaGreatF6
import Derived.Test.YtllblmndoigdlaaGreatMk
import Derived.BigRegion
import Derived.StillTailTactics
namespace Go.Proofs.YtllblmndoigdlaaGreat
open Go.RowKit

/-- the list f 0, .., f (n - 1) -/
def mapTo (n : Nat) (f : Nat → Int) : List Int := (List.range n).map f
theorem mapTo_len (n : Nat) (f : Nat → Int) : (mapTo n f).length = n := by simp [mapTo]
theorem mapTo_ig {n : Nat} {f : Nat → Int} {v : Nat} (h : v < n) : ig (mapTo n f) v = f v := by
  rw [ig_lt (by rw [mapTo_len]; exact h)]; simp [mapTo]
theorem ext_ig {xs ys : List Int} (h : xs.length = ys.length) (h2 : ∀ j, j < xs.length → ig xs j = ig ys j) : xs = ys := by
  refine List.ext_getElem h fun i h1 h3 => ?_
  have := h2 i h1
  rwa [ig_lt h1, ig_lt h3] at this
theorem ig_set (xs : List Int) (i j : Nat) (x : Int) : ig (xs.set i x) j = if i = j ∧ i < xs.length then x else ig xs j := by
  unfold ig
  rw [List.getD_eq_getElem?_getD, List.getD_eq_getElem?_getD, List.getElem?_set]
  by_cases h : i = j
  · subst h
    by_cases h' : i < xs.length
    · simp [h']
    · simp [h']
  · simp [h]
theorem mapTo_set {n : Nat} {f g : Nat → Int} {i : Nat} {x : Int} (h : ∀ v, v < n → g v = if i = v then x else f v) : (mapTo n f).set i x = mapTo n g := by
  refine ext_ig (by rw [List.length_set, mapTo_len, mapTo_len]) fun j hj => ?_
  rw [List.length_set, mapTo_len] at hj
  rw [ig_set, mapTo_ig hj, mapTo_ig hj, mapTo_len, h j hj]
  by_cases e : i = j
  · subst e; simp [hj]
  · simp [e]

/-- what one pipe brings out of a node -/
def dlt (p : Pipe) (z : Int) (v : Nat) : Int := (if p.fr = v then z else 0) - (if p.to = v then z else 0)
def outS (ps : List Pipe) (zs : List Int) (k v : Nat) : Int := sumTo (fun j => dlt (pp ps j) (ig zs j) v) k
def outL (n : Nat) (ps : List Pipe) (zs : List Int) (k : Nat) : List Int := mapTo n (outS ps zs k)
def outH (n : Nat) (ps : List Pipe) (zs : List Int) (k : Nat) : List Int := mapTo n (fun v => outS ps zs k v + if (pp ps k).fr = v then ig zs k else 0)
theorem outS_succ (ps : List Pipe) (zs : List Int) (k v : Nat) : outS ps zs (k + 1) v = outS ps zs k v + dlt (pp ps k) (ig zs k) v := rfl
theorem outL_zero (n : Nat) (ps : List Pipe) (zs : List Int) : outL n ps zs 0 = List.replicate n 0 := by
  refine ext_ig (by simp [outL, mapTo_len]) fun j hj => ?_
  rw [outL, mapTo_len] at hj
  rw [outL, mapTo_ig hj, ig_lt (by simpa using hj)]; simp [outS, sumTo]
theorem outS_bnd {net : Net} {zs : List Int} (h : flowB net zs = true) (v : Nat) (k : Nat) (hk : k ≤ 40) : -2400000 ≤ outS net.pipes zs k v ∧ outS net.pipes zs k v ≤ 2400000 := by
  have := sumTo_le (f := fun j => dlt (pp net.pipes j) (ig zs j) v) (k := k) (N := 40) (M := 60000) (by omega) (by omega) fun j hj => by
    have h1 := flowB_all h j
    show -60000 ≤ dlt _ _ _ ∧ dlt _ _ _ ≤ 60000
    unfold dlt
    split <;> split <;> omega
  exact this
theorem out_step1 {n : Nat} {ps : List Pipe} {zs : List Int} {k f : Nat} (hf : (pp ps k).fr = f) : (outL n ps zs k).set f (outS ps zs k f + ig zs k) = outH n ps zs k := by
  refine mapTo_set fun v hv => ?_
  by_cases e : f = v
  · subst e; simp [hf]
  · have : (pp ps k).fr ≠ v := by omega
    simp [e, this]
theorem out_step2 {n : Nat} {ps : List Pipe} {zs : List Int} {k t : Nat} (ht : (pp ps k).to = t) (hne : (pp ps k).fr ≠ (pp ps k).to) : (outH n ps zs k).set t (outS ps zs k t - ig zs k) = outL n ps zs (k + 1) := by
  refine mapTo_set fun v hv => ?_
  rw [outS_succ]
  unfold dlt
  by_cases e : t = v
  · subst e
    have : (pp ps k).fr ≠ t := by omega
    simp [ht, this]; omega
  · have : (pp ps k).to ≠ v := by omega
    simp [e, this]

end Go.Proofs.YtllblmndoigdlaaGreat

/- what flows out of each node: the reference -/
namespace Go.Proofs.YtllblmndoigdlaaGreat
open Go.RowKit

end Go.Proofs.YtllblmndoigdlaaGreat

/- SuppliesOf, IsBalanced -/
namespace Go.Proofs.YtllblmndoigdlaaGreat
open Go.RowKit

/-- a list and a code -/
def RetLI (w : World) (r : List Int × Int) (e : Ending) (w' : World) : Prop :=
  ∃ A c, e = .returned (.tuple #[.slice A r.1.length c, .int .i64 r.2]) ∧ Own w' A r.1.length c r.1 ∧ Fresh w.heap.size A ∧ Below w.heap.size w w'
theorem retLI_nil {w w' : World} {r : List Int × Int} {k : Int} {e : Ending} (he : e = .returned (.tuple #[.slice none 0 0, .int .i64 k])) (hr : r = ([], k)) (hb : Below w.heap.size w w') : RetLI w r e w' :=
  ⟨none, 0, by rw [hr]; exact he, by rw [hr]; exact Own.nil, (fun a ha => by cases ha), hb⟩
theorem retLI_own {w w' : World} {r : List Int × Int} {zs : List Int} {A : Option Addr} {n c : Nat} {e : Ending} (he : e = .returned (.tuple #[.slice A n c, .int .i64 0])) (hr : r = (zs, 0)) (ho : Own w' A n c zs) (hf : Fresh w.heap.size A) (hb : Below w.heap.size w w') : RetLI w r e w' :=
  ⟨A, c, by rw [hr]; show _ = Ending.returned (.tuple #[.slice A zs.length c, .int .i64 0]); rw [ho.len]; exact he, by rw [hr]; show Own w' A zs.length c zs; rw [ho.len]; exact ho, hf, hb⟩

def rSuppliesOf (net : Net) (zs : List Int) : List Int × Int :=
  if codeF net zs = 0 then (if allB (outL net.nodes.length net.pipes zs net.pipes.length) (-30000) 30000 then (outL net.nodes.length net.pipes zs net.pipes.length, 0) else ([], 2)) else ([], codeF net zs)
theorem outL_len (n : Nat) (ps : List Pipe) (zs : List Int) (k : Nat) : (outL n ps zs k).length = n := mapTo_len _ _

theorem rSuppliesOf_len (net : Net) (zs : List Int) (_h : zs.length ≤ 1048576) : (rSuppliesOf net zs).1.length ≤ 1048576 := by
  unfold rSuppliesOf
  by_cases hz0 : codeF net zs = 0
  · rw [if_pos hz0]
    have := netB_sizes (codeF_zero hz0).1
    split
    · rw [outL_len]; omega
    · simp
  · rw [if_neg hz0]; simp

end Go.Proofs.YtllblmndoigdlaaGreat
