/- what flows out of each node -/
import Derived.Test.YtllblmndoigdlaaF6
import Derived.Test.YtllblmndoigdlaaMk
import Derived.BigRegion
import Derived.StillTailTactics
namespace Go.Proofs.Ytllblmndoigdlaa
open Go.RowKit

/-- the list f 0, .., f (n - 1) -/
def mapTo (n : Nat) (f : Nat → Int) : List Int := (List.range n).map f
theorem mapTo_len (n : Nat) (f : Nat → Int) : (mapTo n f).length = n := by simp [mapTo]
theorem mapTo_ig {n : Nat} {f : Nat → Int} {v : Nat} (h : v < n) : ig (mapTo n f) v = f v := by
  rw [ig_lt (by rw [mapTo_len]; exact h)]; simp [mapTo]
theorem ext_ig {xs ys : List Int} (h : xs.length = ys.length) (h2 : ∀ j, j < xs.length → ig xs j = ig ys j) : xs = ys := by
  refine List.ext_getElem h fun i h1 h3 => ?_
  have := h2 i h1
  rwa [ig_lt h1, ig_lt h3] at this
theorem ig_set (xs : List Int) (i j : Nat) (x : Int) : ig (xs.set i x) j = if i = j ∧ i < xs.length then x else ig xs j := by
  unfold ig
  rw [List.getD_eq_getElem?_getD, List.getD_eq_getElem?_getD, List.getElem?_set]
  by_cases h : i = j
  · subst h
    by_cases h' : i < xs.length
    · simp [h']
    · simp [h']
  · simp [h]
theorem mapTo_set {n : Nat} {f g : Nat → Int} {i : Nat} {x : Int} (h : ∀ v, v < n → g v = if i = v then x else f v) : (mapTo n f).set i x = mapTo n g := by
  refine ext_ig (by rw [List.length_set, mapTo_len, mapTo_len]) fun j hj => ?_
  rw [List.length_set, mapTo_len] at hj
  rw [ig_set, mapTo_ig hj, mapTo_ig hj, mapTo_len, h j hj]
  by_cases e : i = j
  · subst e; simp [hj]
  · simp [e]

/-- what one pipe brings out of a node -/
def dlt (p : Pipe) (z : Int) (v : Nat) : Int := (if p.fr = v then z else 0) - (if p.to = v then z else 0)
def outS (ps : List Pipe) (zs : List Int) (k v : Nat) : Int := sumTo (fun j => dlt (pp ps j) (ig zs j) v) k
def outL (n : Nat) (ps : List Pipe) (zs : List Int) (k : Nat) : List Int := mapTo n (outS ps zs k)
def outH (n : Nat) (ps : List Pipe) (zs : List Int) (k : Nat) : List Int := mapTo n (fun v => outS ps zs k v + if (pp ps k).fr = v then ig zs k else 0)
theorem outS_succ (ps : List Pipe) (zs : List Int) (k v : Nat) : outS ps zs (k + 1) v = outS ps zs k v + dlt (pp ps k) (ig zs k) v := rfl
theorem outL_zero (n : Nat) (ps : List Pipe) (zs : List Int) : outL n ps zs 0 = List.replicate n 0 := by
  refine ext_ig (by simp [outL, mapTo_len]) fun j hj => ?_
  rw [outL, mapTo_len] at hj
  rw [outL, mapTo_ig hj, ig_lt (by simpa using hj)]; simp [outS, sumTo]
theorem outS_bnd {net : Net} {zs : List Int} (h : flowB net zs = true) (v : Nat) (k : Nat) (hk : k ≤ 40) : -2400000 ≤ outS net.pipes zs k v ∧ outS net.pipes zs k v ≤ 2400000 := by
  have := sumTo_le (f := fun j => dlt (pp net.pipes j) (ig zs j) v) (k := k) (N := 40) (M := 60000) (by omega) (by omega) fun j hj => by
    have h1 := flowB_all h j
    show -60000 ≤ dlt _ _ _ ∧ dlt _ _ _ ≤ 60000
    unfold dlt
    split <;> split <;> omega
  exact this
theorem out_step1 {n : Nat} {ps : List Pipe} {zs : List Int} {k f : Nat} (hf : (pp ps k).fr = f) : (outL n ps zs k).set f (outS ps zs k f + ig zs k) = outH n ps zs k := by
  refine mapTo_set fun v hv => ?_
  by_cases e : f = v
  · subst e; simp [hf]
  · have : (pp ps k).fr ≠ v := by omega
    simp [e, this]
theorem out_step2 {n : Nat} {ps : List Pipe} {zs : List Int} {k t : Nat} (ht : (pp ps k).to = t) (hne : (pp ps k).fr ≠ (pp ps k).to) : (outH n ps zs k).set t (outS ps zs k t - ig zs k) = outL n ps zs (k + 1) := by
  refine mapTo_set fun v hv => ?_
  rw [outS_succ]
  unfold dlt
  by_cases e : t = v
  · subst e
    have : (pp ps k).fr ≠ t := by omega
    simp [ht, this]; omega
  · have : (pp ps k).to ≠ v := by omega
    simp [e, this]

set_option maxRecDepth 100000 in
set_option maxHeartbeats 4000000 in
theorem outflows_any (A : Option Addr) (n c : Nat) (B : Option Addr) (m d : Nat) (net : Net) (C : Option Addr) (l e : Nat) (zs : List Int) (w : World) (h : NetAt w A n c B m d net) (hz : Ints w C l e zs) (hv : netB net = true) (hs : flowB net zs = true) :
    Calls Try.prog 55 #[.agg #[.slice A n c, .slice B m d], .slice C l e] w fun e w' => ∃ A' c', e = .returned (.slice A' n c') ∧ Own w' A' n c' (outL n net.pipes zs m) ∧ Fresh w.heap.size A' ∧ Below w.heap.size w w' := by
  have HB := Lib.hid (bel1 w (.cells #[.slice A n c, .slice B m d] 27))
  have hl : m = l := by have := flowB_len hs; have := h.pipes.len; have := hz.len; omega
  have HM := Lib.hid h.pipes.len
  have HN := Lib.hid h.nodes.len
  obtain ⟨hn1, hn24, h40⟩ := netB_sizes hv
  rw [HM.out] at h40
  rw [HN.out] at hn1 hn24
  subst hl
  have HS := Lib.hid hs
  have HV := Lib.hid hv
  have hple := h.pipes.le
  have hpcap := h.pipes.cap
  clear hs hv
  have hg : (w.alloc (.cells #[.slice A n c, .slice B m d] 27)).heap.size = w.heap.size + 1 := by simp
  go_enter Try.func55, Try.ntmps55
  go_wp2_with (at_make; refine law_make _ rfl _ _ rfl n _ _ rfl rfl rfl rfl (by omega) ?_; intro w1 o1 b1 z1; obtain ⟨k0, k1⟩ := box_cells b1; have t1 := below_step HB.out b1; rw [hg] at o1)
  go_loopw [15] (fun i wr => ∃ k : Nat, k ≤ m ∧ i = .int .i64 k ∧ Own wr (some ⟨w.heap.size + 1, 0, none⟩) n n (outL n net.pipes zs k) ∧ Below w.heap.size w wr ∧ w.heap.size + 1 < wr.heap.size) (fun i _ => m - (intOf i).toNat)
  case atStart => exact ⟨0, by omega, rfl, by rw [outL_zero]; exact o1, t1, by rw [hg] at z1; exact z1⟩
  case round =>
    obtain ⟨k, hk, rfl, ho, hb, hsz⟩ := hrel
    clear k0 k1
    by_cases hlt : k < m
    · obtain ⟨bb, off, rfl, hbl, hc⟩ := (hz.later hb).cells (by omega)
      have hck := hc k hlt
      obtain ⟨bp, offp, rfl, hblp, hcp⟩ := (h.pipes.later hb).cells (by omega)
      obtain ⟨c0, c1, c2, c3, c4⟩ := hcp k hlt
      clear hc hcp
      have hk1 := netB_pipe_at HV.out (j := k) (by rw [HM.out]; omega)
      rw [HN.out] at hk1
      obtain ⟨f, hf⟩ : ∃ f : Nat, (pp net.pipes k).fr = f := ⟨(pp net.pipes k).fr.toNat, by omega⟩
      obtain ⟨t, ht⟩ : ∃ t : Nat, (pp net.pipes k).to = t := ⟨(pp net.pipes k).to.toNat, by omega⟩
      have S1 := Lib.hid (out_step1 (n := n) (zs := zs) hf)
      have S2 := Lib.hid (out_step2 (n := n) (zs := zs) ht (by omega))
      have hz1 := flowB_all HS.out k
      have hbs := hb.size
      obtain ⟨wq, hwq, bq, n0, n1, n2, n3, n4⟩ := pipe_box wr (pp net.pipes k)
      rw [hf] at n0 c0 hk1 hwq
      rw [ht] at n1 c1 hk1 hwq
      have hO := outS_bnd HS.out f k (by omega)
      have hO2 := outS_bnd HS.out t k (by omega)
      go_wp2_with fail
      rw [← hwq]
      have oq := ho.later bq
      have hgq := oq.cell (j := f) (by omega)
      rw [outL, mapTo_ig (by omega)] at hgq
      have huq := oq.unfrozen f
      have hckq := (bq.cell (p := ⟨bb, off + k, none⟩) hbl).trans hck
      have HQ := Lib.hid hwq
      have HCK := Lib.hid hck
      have OQ := Lib.hid oq
      have N1 := Lib.hid n1
      clear hwq c0 c1 c2 c3 c4 n1 n2 n3 n4 hck oq ho
      go_still_tail 10, (by kernel_rfl)
      change wpList _ _ _ _ _ wq.drew
      go_wp2_with fail
      obtain ⟨w5, hw5⟩ : ∃ w5, w5 = (wq.setCell ⟨w.heap.size + 1, f, none⟩ (.int .i64 (outS net.pipes zs k f + ig zs k))).drew := ⟨_, rfl⟩
      rw [← hw5]
      have o5 : Own w5 (some ⟨w.heap.size + 1, 0, none⟩) n n (outH n net.pipes zs k) := by
        rw [hw5, ← S1.out]
        exact (OQ.out.store f ⟨by omega, by omega⟩).later (Below.refl _ _).drew
      have b5 : Below w.heap.size w w5 := by
        rw [hw5]
        exact ((below_step hb bq).setCell (by show w.heap.size ≤ w.heap.size + 1; omega) _).drew
      have e5 : ∀ b, b ≠ w.heap.size + 1 → w5.heap[b]? = wq.heap[b]? := fun b hne => by
        rw [hw5]; exact Below.heap_setCell wq _ _ b hne
      have z5 : w5.heap.size = wq.heap.size := by rw [hw5]; show (wq.setCell _ _).heap.size = _; simp [World.setCell]
      have sq := bq.size
      clear hw5 hgq huq hckq n0
      have hg5 := o5.cell (j := t) (by omega)
      rw [outH, mapTo_ig (by omega)] at hg5
      rw [hf, if_neg (by omega), Int.add_zero] at hg5
      have hu5 := o5.unfrozen t
      have n1 := (World.cell?_of_block (a := ⟨wr.heap.size, 1, none⟩) (e5 wr.heap.size (by omega))).trans N1.out
      obtain ⟨bb', off', hbb, _, hc5⟩ := (hz.later b5).cells (by omega)
      injection hbb with hbb
      injection hbb with hbb1 hbb2
      subst hbb1 hbb2
      have hck5 := hc5 k hlt
      have O5 := Lib.hid o5
      have E5 := Lib.hid e5
      clear hc5 e5 o5
      go_still_tail 10, (by kernel_rfl)
      change wpList _ _ _ _ _ w5.drew
      go_wp2_with fail
      go_roundw
      case rel =>
        refine ⟨k + 1, by omega, by go_num, ?_, (b5.setCell (by show w.heap.size ≤ w.heap.size + 1; omega) _).drew, ?_⟩
        · rw [← S2.out]
          exact (O5.out.store t ⟨by omega, by omega⟩).later (Below.refl _ _).drew
        · show _ < (w5.setCell _ _).heap.size
          simp [World.setCell]; omega
      case measure => simp [intOf]; omega
    · have hkm : k = m := by omega
      subst hkm
      go_wp2_with fail
      go_ret
      exact ⟨_, _, rfl, ho, (by intro a ha; injection ha with ha; subst ha; show w.heap.size ≤ w.heap.size + 1; omega), hb⟩

end Go.Proofs.Ytllblmndoigdlaa

/- what flows out of each node: the reference -/
namespace Go.Proofs.Ytllblmndoigdlaa
open Go.RowKit

set_option maxRecDepth 100000 in
set_option maxHeartbeats 4000000 in
theorem l05Out_any (A : Option Addr) (n c : Nat) (B : Option Addr) (m d : Nat) (net : Net) (C : Option Addr) (l e : Nat) (zs : List Int) (w : World) (h : NetAt w A n c B m d net) (hz : Ints w C l e zs) (hv : netB net = true) (hs : flowB net zs = true) :
    Calls Try.prog 58 #[.agg #[.slice A n c, .slice B m d], .slice C l e] w fun e w' => ∃ A' c', e = .returned (.slice A' n c') ∧ Own w' A' n c' (outL n net.pipes zs m) ∧ Fresh w.heap.size A' ∧ Below w.heap.size w w' := by
  have HB := Lib.hid (bel1 w (.cells #[.slice A n c, .slice B m d] 27))
  have hl : m = l := by have := flowB_len hs; have := h.pipes.len; have := hz.len; omega
  have HM := Lib.hid h.pipes.len
  have HN := Lib.hid h.nodes.len
  obtain ⟨hn1, hn24, h40⟩ := netB_sizes hv
  rw [HM.out] at h40
  rw [HN.out] at hn1 hn24
  subst hl
  have HS := Lib.hid hs
  have HV := Lib.hid hv
  have hple := h.pipes.le
  have hpcap := h.pipes.cap
  have hzle := hz.le
  have hzcap := hz.cap
  clear hs hv
  have hg : (w.alloc (.cells #[.slice A n c, .slice B m d] 27)).heap.size = w.heap.size + 1 := by simp
  go_enter Try.func58, Try.ntmps58
  go_wp2_with (at_make; refine law_make _ rfl _ _ rfl n _ _ rfl rfl rfl rfl (by omega) ?_; intro w1 o1 b1 z1; have t1 := below_step HB.out b1; rw [hg] at o1)
  have x1 : BX w1 w.heap.size A n c B m d := ⟨(b1.block w.heap.size (by simp)).trans (heap_alloc_new w _)⟩
  go_loopw [6] (fun i wr => ∃ k : Nat, k ≤ m ∧ i = .int .i64 k ∧ Own wr (some ⟨w.heap.size + 1, 0, none⟩) n n (outL n net.pipes zs k) ∧ Below w.heap.size w wr ∧ w.heap.size + 1 < wr.heap.size ∧ BX wr w.heap.size A n c B m d) (fun i _ => m - (intOf i).toNat)
  case atStart => exact ⟨0, by omega, rfl, by rw [outL_zero]; exact o1, t1, by rw [hg] at z1; exact z1, x1⟩
  case round =>
    obtain ⟨k, hk, rfl, ho, hb, hsz, hx⟩ := hrel
    by_cases hlt : k < m
    · obtain ⟨bb, off, rfl, hbl, hc⟩ := (hz.later hb).cells (by omega)
      have hck := hc k hlt
      obtain ⟨bp, offp, rfl, hblp, hcp⟩ := (h.pipes.later hb).cells (by omega)
      obtain ⟨c0, c1, c2, c3, c4⟩ := hcp k hlt
      clear hc hcp c2 c3 c4
      have hk1 := netB_pipe_at HV.out (j := k) (by rw [HM.out]; omega)
      rw [HN.out] at hk1
      obtain ⟨f, hf⟩ : ∃ f : Nat, (pp net.pipes k).fr = f := ⟨(pp net.pipes k).fr.toNat, by omega⟩
      obtain ⟨t, ht⟩ : ∃ t : Nat, (pp net.pipes k).to = t := ⟨(pp net.pipes k).to.toNat, by omega⟩
      have S1 := Lib.hid (out_step1 (n := n) (zs := zs) hf)
      have S2 := Lib.hid (out_step2 (n := n) (zs := zs) ht (by omega))
      have hz1 := flowB_all HS.out k
      rw [hf] at c0 hk1
      rw [ht] at c1 hk1
      have hO := outS_bnd HS.out f k (by omega)
      have hO2 := outS_bnd HS.out t k (by omega)
      have hgq := ho.cell (j := f) (by omega)
      rw [outL, mapTo_ig (by omega)] at hgq
      have huq := ho.unfrozen f
      have y1 := hx.c1
      have OQ := Lib.hid ho
      have XQ := Lib.hid hx
      clear ho hx c1
      go_wp2_with fail
      go_still_tail 21, (by kernel_rfl)
      change wpList _ _ _ _ _ wr.drew
      go_wp2_with fail
      obtain ⟨w5, hw5⟩ : ∃ w5, w5 = (wr.setCell ⟨w.heap.size + 1, f, none⟩ (.int .i64 (outS net.pipes zs k f + ig zs k))).drew := ⟨_, rfl⟩
      rw [← hw5]
      have o5 : Own w5 (some ⟨w.heap.size + 1, 0, none⟩) n n (outH n net.pipes zs k) := by
        rw [hw5, ← S1.out]
        exact (OQ.out.store f ⟨by omega, by omega⟩).later (Below.refl _ _).drew
      have b5 : Below w.heap.size w w5 := by
        rw [hw5]
        exact (hb.setCell (by show w.heap.size ≤ w.heap.size + 1; omega) _).drew
      have x5 : BX w5 w.heap.size A n c (some ⟨bp, offp, none⟩) m d := ⟨by rw [hw5]; exact (Below.heap_setCell wr _ _ w.heap.size (by show w.heap.size ≠ w.heap.size + 1; omega)).trans XQ.out.box⟩
      have z5 : w5.heap.size = wr.heap.size := by rw [hw5]; show (wr.setCell _ _).heap.size = _; simp [World.setCell]
      clear hw5 hgq huq hck c0 y1
      have hg5 := o5.cell (j := t) (by omega)
      rw [outH, mapTo_ig (by omega)] at hg5
      rw [hf, if_neg (by omega), Int.add_zero] at hg5
      have hu5 := o5.unfrozen t
      obtain ⟨bb', off', hbb, _, hc5⟩ := (hz.later b5).cells (by omega)
      injection hbb with hbb
      injection hbb with hbb1 hbb2
      subst hbb1 hbb2
      have hck5 := hc5 k hlt
      obtain ⟨bp', offp', hbp, _, hcp5⟩ := (h.pipes.later b5).cells (by omega)
      injection hbp with hbp
      injection hbp with hbp1 hbp2
      subst hbp1 hbp2
      obtain ⟨_, c15, _, _, _⟩ := hcp5 k hlt
      rw [ht] at c15
      have y5 := x5.c1
      have O5 := Lib.hid o5
      have X5 := Lib.hid x5
      clear hc5 hcp5 o5 x5
      go_still_tail 21, (by kernel_rfl)
      change wpList _ _ _ _ _ w5.drew
      go_wp2_with fail
      go_roundw
      case rel =>
        refine ⟨k + 1, by omega, by go_num, ?_, (b5.setCell (by show w.heap.size ≤ w.heap.size + 1; omega) _).drew, ?_, ?_⟩
        · rw [← S2.out]
          exact (O5.out.store t ⟨by omega, by omega⟩).later (Below.refl _ _).drew
        · show _ < (w5.setCell _ _).heap.size
          simp [World.setCell]; omega
        · exact ⟨(Below.heap_setCell w5 _ _ w.heap.size (by show w.heap.size ≠ w.heap.size + 1; omega)).trans X5.out.box⟩
      case measure => simp [intOf]; omega
    · have hkm : k = m := by omega
      subst hkm
      go_wp2_with fail
      go_ret
      exact ⟨_, _, rfl, ho, (by intro a ha; injection ha with ha; subst ha; show w.heap.size ≤ w.heap.size + 1; omega), hb⟩

end Go.Proofs.Ytllblmndoigdlaa

/- SuppliesOf, IsBalanced -/
namespace Go.Proofs.Ytllblmndoigdlaa
open Go.RowKit

/-- a list and a code -/
def RetLI (w : World) (r : List Int × Int) (e : Ending) (w' : World) : Prop :=
  ∃ A c, e = .returned (.tuple #[.slice A r.1.length c, .int .i64 r.2]) ∧ Own w' A r.1.length c r.1 ∧ Fresh w.heap.size A ∧ Below w.heap.size w w'
theorem retLI_nil {w w' : World} {r : List Int × Int} {k : Int} {e : Ending} (he : e = .returned (.tuple #[.slice none 0 0, .int .i64 k])) (hr : r = ([], k)) (hb : Below w.heap.size w w') : RetLI w r e w' :=
  ⟨none, 0, by rw [hr]; exact he, by rw [hr]; exact Own.nil, (fun a ha => by cases ha), hb⟩
theorem retLI_own {w w' : World} {r : List Int × Int} {zs : List Int} {A : Option Addr} {n c : Nat} {e : Ending} (he : e = .returned (.tuple #[.slice A n c, .int .i64 0])) (hr : r = (zs, 0)) (ho : Own w' A n c zs) (hf : Fresh w.heap.size A) (hb : Below w.heap.size w w') : RetLI w r e w' :=
  ⟨A, c, by rw [hr]; show _ = Ending.returned (.tuple #[.slice A zs.length c, .int .i64 0]); rw [ho.len]; exact he, by rw [hr]; show Own w' A zs.length c zs; rw [ho.len]; exact ho, hf, hb⟩

def rSuppliesOf (net : Net) (zs : List Int) : List Int × Int :=
  if codeF net zs = 0 then (if allB (outL net.nodes.length net.pipes zs net.pipes.length) (-30000) 30000 then (outL net.nodes.length net.pipes zs net.pipes.length, 0) else ([], 2)) else ([], codeF net zs)
theorem outL_len (n : Nat) (ps : List Pipe) (zs : List Int) (k : Nat) : (outL n ps zs k).length = n := mapTo_len _ _

set_option maxHeartbeats 1000000 in
theorem implSuppliesOf_any (A : Option Addr) (n c : Nat) (B : Option Addr) (m d : Nat) (net : Net) (C : Option Addr) (l e : Nat) (zs : List Int) (w : World) (h : NetAt w A n c B m d net) (hz : Ints w C l e zs) :
    Calls Try.prog 38 #[.agg #[.slice A n c, .slice B m d], .slice C l e] w fun e w' => RetLI w (rSuppliesOf net zs) e w' := by
  have HB := Lib.hid (bel1 w (.cells #[.slice A n c, .slice B m d] 27))
  have hnl := Lib.hid h.nodes.len
  have hml := Lib.hid h.pipes.len
  by_cases hz0 : codeF net zs = 0
  · obtain ⟨hv, hs⟩ := codeF_zero hz0
    have HR : Hid (rSuppliesOf net zs = if allB (outL n net.pipes zs m) (-30000) 30000 then (outL n net.pipes zs m, 0) else ([], 2)) := Lib.hid (by unfold rSuppliesOf; rw [if_pos hz0, hnl.out, hml.out])
    go_enter Try.func38, Try.ntmps38
    go_wp2_with fail
    refine (checkFlows_is _ _ _ _ _ _ _ _ _ net zs _ _ (h.later HB.out) (hz.later HB.out) hz0).mono ?_
    rintro e w1 ⟨rfl, b1⟩
    have t1 := below_step HB.out b1
    obtain ⟨k0, k1⟩ := box_cells b1
    clear hz0
    go_wp2_with fail
    refine (outflows_any _ _ _ _ _ _ net _ _ _ zs _ (h.later t1) (hz.later t1) hv hs).mono ?_
    rintro e w2 ⟨A2, c2, rfl, o2, f2, b2⟩
    have t2 := below_step t1 b2
    have f2' : Fresh w.heap.size A2 := fresh_up f2 t1.size
    clear k0 k1
    rcases ha : allB (outL n net.pipes zs m) (-30000) 30000 with _ | _
    · rw [ha] at HR
      go_wp2_with fail
      refine (allWithin_any _ _ _ _ _ _ _ o2.ints).mono ?_
      rintro e w' ⟨rfl, rfl⟩
      rw [ha]
      go_wp2_with fail
      go_ret2
      exact retLI_nil rfl HR.out t2
    · rw [ha] at HR
      go_wp2_with fail
      refine (allWithin_any _ _ _ _ _ _ _ o2.ints).mono ?_
      rintro e w' ⟨rfl, rfl⟩
      rw [ha]
      go_wp2_with fail
      go_ret2
      exact retLI_own rfl HR.out o2 f2' t2
  · have HR : Hid (rSuppliesOf net zs = ([], codeF net zs)) := Lib.hid (by unfold rSuppliesOf; rw [if_neg hz0])
    obtain ⟨r, hr⟩ : ∃ r, codeF net zs = r := ⟨_, rfl⟩
    rw [hr] at HR hz0
    have hne : (r != 0) = true := by simp [hz0]
    go_enter Try.func38, Try.ntmps38
    go_wp2_with fail
    refine (checkFlows_is _ _ _ _ _ _ _ _ _ net zs _ _ (h.later HB.out) (hz.later HB.out) hr).mono ?_
    rintro e w1 ⟨rfl, b1⟩
    go_wp2_with fail
    go_ret2
    exact retLI_nil rfl HR.out (below_step HB.out b1)

theorem rSuppliesOf_len (net : Net) (zs : List Int) (_h : zs.length ≤ 1048576) : (rSuppliesOf net zs).1.length ≤ 1048576 := by
  unfold rSuppliesOf
  by_cases hz0 : codeF net zs = 0
  · rw [if_pos hz0]
    have := netB_sizes (codeF_zero hz0).1
    split
    · rw [outL_len]; omega
    · simp
  · rw [if_neg hz0]; simp

end Go.Proofs.Ytllblmndoigdlaa
