/- what flows out of each node: the reference -/
import Derived.Test.YtahmhmicegjdkaaF7
namespace Go.Proofs.Ytahmhmicegjdkaa
open Go.RowKit

set_option maxRecDepth 100000 in
set_option maxHeartbeats 4000000 in
theorem l05Out_any (A : Option Addr) (n c : Nat) (B : Option Addr) (m d : Nat) (net : Net) (C : Option Addr) (l e : Nat) (zs : List Int) (w : World) (h : NetAt w A n c B m d net) (hz : Ints w C l e zs) (hv : netB net = true) (hs : flowB net zs = true) :
    Calls Try.prog 67 #[.agg #[.slice A n c, .slice B m d], .slice C l e] w fun e w' => ∃ A' c', e = .returned (.slice A' n c') ∧ Own w' A' n c' (outL n net.pipes zs m) ∧ Fresh w.heap.size A' ∧ Below w.heap.size w w' := by
  have HB := Lib.hid (bel1 w (.cells #[.slice A n c, .slice B m d] 32))
  have hl : m = l := by have := flowB_len hs; have := h.pipes.len; have := hz.len; omega
  have HM := Lib.hid h.pipes.len
  have HN := Lib.hid h.nodes.len
  obtain ⟨hn1, hn24, h40⟩ := netB_sizes hv
  rw [HM.out] at h40
  rw [HN.out] at hn1 hn24
  subst hl
  have HS := Lib.hid hs
  have HV := Lib.hid hv
  have hple := h.pipes.le
  have hpcap := h.pipes.cap
  have hzle := hz.le
  have hzcap := hz.cap
  clear hs hv
  have hg : (w.alloc (.cells #[.slice A n c, .slice B m d] 32)).heap.size = w.heap.size + 1 := by simp
  go_enter Try.func67, Try.ntmps67
  go_wp2_with (at_make; refine law_make _ rfl _ _ rfl n _ _ rfl rfl rfl rfl (by omega) ?_; intro w1 o1 b1 z1; have t1 := below_step HB.out b1; rw [hg] at o1)
  have x1 : BX w1 w.heap.size A n c B m d := ⟨(b1.block w.heap.size (by simp)).trans (heap_alloc_new w _)⟩
  go_loopw [6] (fun i wr => ∃ k : Nat, k ≤ m ∧ i = .int .i64 k ∧ Own wr (some ⟨w.heap.size + 1, 0, none⟩) n n (outL n net.pipes zs k) ∧ Below w.heap.size w wr ∧ w.heap.size + 1 < wr.heap.size ∧ BX wr w.heap.size A n c B m d) (fun i _ => m - (intOf i).toNat)
  case atStart => exact ⟨0, by omega, rfl, by rw [outL_zero]; exact o1, t1, by rw [hg] at z1; exact z1, x1⟩
  case round =>
    obtain ⟨k, hk, rfl, ho, hb, hsz, hx⟩ := hrel
    by_cases hlt : k < m
    · obtain ⟨bb, off, rfl, hbl, hc⟩ := (hz.later hb).cells (by omega)
      have hck := hc k hlt
      obtain ⟨bp, offp, rfl, hblp, hcp⟩ := (h.pipes.later hb).cells (by omega)
      obtain ⟨c0, c1, c2, c3, c4⟩ := hcp k hlt
      clear hc hcp c2 c3 c4
      have hk1 := netB_pipe_at HV.out (j := k) (by rw [HM.out]; omega)
      rw [HN.out] at hk1
      obtain ⟨f, hf⟩ : ∃ f : Nat, (pp net.pipes k).fr = f := ⟨(pp net.pipes k).fr.toNat, by omega⟩
      obtain ⟨t, ht⟩ : ∃ t : Nat, (pp net.pipes k).to = t := ⟨(pp net.pipes k).to.toNat, by omega⟩
      have S1 := Lib.hid (out_step1 (n := n) (zs := zs) hf)
      have S2 := Lib.hid (out_step2 (n := n) (zs := zs) ht (by omega))
      have hz1 := flowB_all HS.out k
      rw [hf] at c0 hk1
      rw [ht] at c1 hk1
      have hO := outS_bnd HS.out f k (by omega)
      have hO2 := outS_bnd HS.out t k (by omega)
      have hgq := ho.cell (j := f) (by omega)
      rw [outL, mapTo_ig (by omega)] at hgq
      have huq := ho.unfrozen f
      have y1 := hx.c1
      have OQ := Lib.hid ho
      have XQ := Lib.hid hx
      clear ho hx c1
      go_wp2_with fail
      go_still_tail 21, (by kernel_rfl)
      change wpList _ _ _ _ _ wr.drew
      go_wp2_with fail
      obtain ⟨w5, hw5⟩ : ∃ w5, w5 = (wr.setCell ⟨w.heap.size + 1, f, none⟩ (.int .i64 (outS net.pipes zs k f + ig zs k))).drew := ⟨_, rfl⟩
      rw [← hw5]
      have o5 : Own w5 (some ⟨w.heap.size + 1, 0, none⟩) n n (outH n net.pipes zs k) := by
        rw [hw5, ← S1.out]
        exact (OQ.out.store f ⟨by omega, by omega⟩).later (Below.refl _ _).drew
      have b5 : Below w.heap.size w w5 := by
        rw [hw5]
        exact (hb.setCell (by show w.heap.size ≤ w.heap.size + 1; omega) _).drew
      have x5 : BX w5 w.heap.size A n c (some ⟨bp, offp, none⟩) m d := ⟨by rw [hw5]; exact (Below.heap_setCell wr _ _ w.heap.size (by show w.heap.size ≠ w.heap.size + 1; omega)).trans XQ.out.box⟩
      have z5 : w5.heap.size = wr.heap.size := by rw [hw5]; show (wr.setCell _ _).heap.size = _; simp [World.setCell]
      clear hw5 hgq huq hck c0 y1
      have hg5 := o5.cell (j := t) (by omega)
      rw [outH, mapTo_ig (by omega)] at hg5
      rw [hf, if_neg (by omega), Int.add_zero] at hg5
      have hu5 := o5.unfrozen t
      obtain ⟨bb', off', hbb, _, hc5⟩ := (hz.later b5).cells (by omega)
      injection hbb with hbb
      injection hbb with hbb1 hbb2
      subst hbb1 hbb2
      have hck5 := hc5 k hlt
      obtain ⟨bp', offp', hbp, _, hcp5⟩ := (h.pipes.later b5).cells (by omega)
      injection hbp with hbp
      injection hbp with hbp1 hbp2
      subst hbp1 hbp2
      obtain ⟨_, c15, _, _, _⟩ := hcp5 k hlt
      rw [ht] at c15
      have y5 := x5.c1
      have O5 := Lib.hid o5
      have X5 := Lib.hid x5
      clear hc5 hcp5 o5 x5
      go_still_tail 21, (by kernel_rfl)
      change wpList _ _ _ _ _ w5.drew
      go_wp2_with fail
      go_roundw
      case rel =>
        refine ⟨k + 1, by omega, by go_num, ?_, (b5.setCell (by show w.heap.size ≤ w.heap.size + 1; omega) _).drew, ?_, ?_⟩
        · rw [← S2.out]
          exact (O5.out.store t ⟨by omega, by omega⟩).later (Below.refl _ _).drew
        · show _ < (w5.setCell _ _).heap.size
          simp [World.setCell]; omega
        · exact ⟨(Below.heap_setCell w5 _ _ w.heap.size (by show w.heap.size ≠ w.heap.size + 1; omega)).trans X5.out.box⟩
      case measure => simp [intOf]; omega
    · have hkm : k = m := by omega
      subst hkm
      go_wp2_with fail
      go_ret
      exact ⟨_, _, rfl, ho, (by intro a ha; injection ha with ha; subst ha; show w.heap.size ≤ w.heap.size + 1; omega), hb⟩

end Go.Proofs.Ytahmhmicegjdkaa
