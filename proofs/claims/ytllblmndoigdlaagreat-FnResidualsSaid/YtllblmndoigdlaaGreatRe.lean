/- l10Lower, IsRelaxed -/
import Derived.Test.YtllblmndoigdlaaGreatRb
namespace Go.Proofs.YtllblmndoigdlaaGreat
open Go.RowKit

set_option maxRecDepth 100000 in
set_option maxHeartbeats 4000000 in
theorem l10Lower_is (A : Option Addr) (n c : Nat) (B : Option Addr) (m d : Nat) (net : Net) (C : Option Addr) (l e : Nat) (zs : List Int) (C2 : Option Addr) (l2 e2 : Nat) (cs : List Int) (a : Int) (b : Bool) (w : World) (h : NetAt w A n c B m d net) (hz : Ints w C l e zs) (hz2 : Ints w C2 l2 e2 cs) (ha : -100000 ≤ a ∧ a ≤ 100000) (hv : netB net = true) (hf : flowB net zs = true) (hc : Cyc net cs) (hb : lowB net zs cs a = b) :
    Calls Tryz.prog 28 #[.agg #[.slice A n c, .slice B m d], .slice C l e, .slice C2 l2 e2, .int .i64 a] w fun e w' => e = .returned (.bool b) ∧ Below w.heap.size w w' := by
  have HB := Lib.hid (bel1 w (.cells #[.slice A n c, .slice B m d] 27))
  have hlm : l = m := by have := flowB_len hf; have := h.pipes.len; have := hz.len; omega
  have HLM : Hid (l = m ∧ l2 = m ∧ m ≤ 40 ∧ net.pipes.length = m) := Lib.hid ⟨hlm, by have := hc.len; have := h.pipes.len; have := hz2.len; omega, by have := (netB_sizes hv).2.2; have := h.pipes.len; omega, h.pipes.len⟩
  have HF := Lib.hid hf
  have HC := Lib.hid hc
  have hlow := lowB_is (a := a) hf hc.len
  rw [hb] at hlow
  clear hlm
  rcases hO : flowB net (addL zs cs a) with _ | _
  · rw [hO] at hlow
    have HR : Hid (false = b) := Lib.hid (by rw [hlow]; rfl)
    clear hlow hb hf hc
    go_enter Tryz.func28, Tryz.ntmps28
    go_wp2_with fail
    refine (l05Add_any _ _ _ zs _ _ _ cs a _ (hz.later HB.out) (hz2.later HB.out) (by have := HLM.out; omega) (by have := HLM.out; omega) (fun j => by have := flowB_all HF.out j; omega) (fun j => by have := HC.out.bnd j; omega) (by omega)).mono ?_
    rintro e w1 ⟨Aa, ca, rfl, oa, fa, b1⟩
    have t1 := below_step HB.out b1
    have s1 := b1
    obtain ⟨k0, k1⟩ := box_cells s1
    go_wp2_with fail
    have lt0 := World.block_lt_of_cell? _ _ k0
    simp only at lt0
    refine wp_region_any (by kernel_rfl) ?_
    try (change wpAny _ _ _ _ _ _ _ (World.drew _))
    refine wpAny_take (i := 1) (v := _) rfl (by kernel_rfl) (by kernel_rfl) (by kernel_rfl) (fun _ _ _ h => h) (Or.inl ⟨by rfl, by intro w; go_simp; try with_reducible rfl⟩) ?_
    simp only [Act.put, List.getElem_toArray, List.getElem_cons_zero, List.getElem_cons_succ, List.setIfInBounds_toArray, List.set_cons_succ, List.set_cons_zero]
    refine wpAny_ready (rs := [0]) (by kernel_rfl) (by simp) (AllReady.cons rfl (fun K hK => ?_) AllReady.nil)
    go_simp
    refine hK _ _ ?_
    clear hK K
    refine wpAny_ready (rs := [2]) (by kernel_rfl) (by simp) (AllReady.cons rfl (fun K hK => ?_) AllReady.nil)
    go_simp
    go_wp2_with (go_at_call 42; refine (l05List_is _ _ _ _ _ _ _ _ _ net _ _ _ (h.later (below_step t1 (Below.refl _ _).drew)) (oa.later (Below.refl _ _).drew).ints hO).mono ?_; rintro e w2 ⟨rfl, b2'⟩; have b2 : Below w1.heap.size w1 w2 := (Below.refl _ _).drew.trans b2'; have t2 := below_step t1 b2; have o2 := oa.later b2; have y0 := (b2.cell (p := ⟨w.heap.size, 0, none⟩) lt0).trans k0; have y1 := (b2.cell (p := ⟨w.heap.size, 1, none⟩) lt0).trans k1; clear b2')
    refine wpAny_take (i := 3) (v := _) rfl (by kernel_rfl) (by kernel_rfl) (by kernel_rfl) (fun _ _ _ h => h) (Or.inl ⟨by rfl, by intro w; go_simp; try with_reducible rfl⟩) ?_
    simp only [Act.put, List.getElem_toArray, List.getElem_cons_zero, List.getElem_cons_succ, List.setIfInBounds_toArray, List.set_cons_succ, List.set_cons_zero]
    refine wpAny_take (i := 4) (v := undef) rfl (by kernel_rfl) (by kernel_rfl) (by kernel_rfl) (fun _ _ _ h => h) (Or.inr ⟨by rfl, rfl⟩) ?_
    simp only [Act.put, List.getElem_toArray, List.getElem_cons_zero, List.getElem_cons_succ, List.setIfInBounds_toArray, List.set_cons_succ, List.set_cons_zero]
    refine wpAny_take (i := 5) (v := undef) rfl (by kernel_rfl) (by kernel_rfl) (by kernel_rfl) (fun _ _ _ h => h) (Or.inr ⟨by rfl, rfl⟩) ?_
    simp only [Act.put, List.getElem_toArray, List.getElem_cons_zero, List.getElem_cons_succ, List.setIfInBounds_toArray, List.set_cons_succ, List.set_cons_zero]
    refine wpAny_take (i := 6) (v := undef) rfl (by kernel_rfl) (by kernel_rfl) (by kernel_rfl) (fun _ _ _ h => h) (Or.inr ⟨by rfl, rfl⟩) ?_
    simp only [Act.put, List.getElem_toArray, List.getElem_cons_zero, List.getElem_cons_succ, List.setIfInBounds_toArray, List.set_cons_succ, List.set_cons_zero]
    refine wpAny_take (i := 7) (v := undef) rfl (by kernel_rfl) (by kernel_rfl) (by kernel_rfl) (fun _ _ _ h => h) (Or.inr ⟨by rfl, rfl⟩) ?_
    simp only [Act.put, List.getElem_toArray, List.getElem_cons_zero, List.getElem_cons_succ, List.setIfInBounds_toArray, List.set_cons_succ, List.set_cons_zero]
    refine wpAny_take (i := 8) (v := undef) rfl (by kernel_rfl) (by kernel_rfl) (by kernel_rfl) (fun _ _ _ h => h) (Or.inr ⟨by rfl, rfl⟩) ?_
    simp only [Act.put, List.getElem_toArray, List.getElem_cons_zero, List.getElem_cons_succ, List.setIfInBounds_toArray, List.set_cons_succ, List.set_cons_zero]
    refine wpAny_take (i := 9) (v := undef) rfl (by kernel_rfl) (by kernel_rfl) (by kernel_rfl) (fun _ _ _ h => h) (Or.inr ⟨by rfl, rfl⟩) ?_
    simp only [Act.put, List.getElem_toArray, List.getElem_cons_zero, List.getElem_cons_succ, List.setIfInBounds_toArray, List.set_cons_succ, List.set_cons_zero]
    refine wpAny_take (i := 10) (v := undef) rfl (by kernel_rfl) (by kernel_rfl) (by kernel_rfl) (fun _ _ _ h => h) (Or.inr ⟨by rfl, rfl⟩) ?_
    simp only [Act.put, List.getElem_toArray, List.getElem_cons_zero, List.getElem_cons_succ, List.setIfInBounds_toArray, List.set_cons_succ, List.set_cons_zero]
    refine wpAny_take (i := 11) (v := _) rfl (by kernel_rfl) (by kernel_rfl) (by kernel_rfl) (fun _ _ _ h => h) (Or.inl ⟨by rfl, by intro w; go_simp; try with_reducible rfl⟩) ?_
    simp only [Act.put, List.getElem_toArray, List.getElem_cons_zero, List.getElem_cons_succ, List.setIfInBounds_toArray, List.set_cons_succ, List.set_cons_zero]
    refine wpAny_take (i := 12) (v := _) rfl (by kernel_rfl) (by kernel_rfl) (by kernel_rfl) (fun _ _ _ h => h) (Or.inl ⟨by rfl, by intro w; go_simp; try with_reducible rfl⟩) ?_
    simp only [Act.put, List.getElem_toArray, List.getElem_cons_zero, List.getElem_cons_succ, List.setIfInBounds_toArray, List.set_cons_succ, List.set_cons_zero]
    refine wpAny_done (by kernel_rfl) ?_ _
    clear k0 k1 y0 y1
    go_wp2_with fail
    go_ret
    exact ⟨ret_bool HR.out, t2⟩
  · rw [hO, HLM.out.2.2.2] at hlow
    have hl2 : eng net.pipes (addL zs cs a) l = eng net.pipes (addL zs cs a) m ∧ eng net.pipes zs l = eng net.pipes zs m := by rw [HLM.out.1]; exact ⟨rfl, rfl⟩
    obtain ⟨E1, hE1⟩ : ∃ E1, eng net.pipes (addL zs cs a) m = E1 := ⟨_, rfl⟩
    obtain ⟨E2, hE2⟩ : ∃ E2, eng net.pipes zs m = E2 := ⟨_, rfl⟩
    rw [hE1, hE2] at hl2 hlow
    have HE1 := Lib.hid hl2.1
    have HE2 := Lib.hid hl2.2
    have HR : Hid (decide (E1 < E2) = b) := Lib.hid (by rw [hlow]; rfl)
    clear hlow hb hf hc hl2 hE1 hE2
    have hmark : True := trivial
    go_enter Tryz.func28, Tryz.ntmps28
    go_wp2_with fail
    refine (l05Add_any _ _ _ zs _ _ _ cs a _ (hz.later HB.out) (hz2.later HB.out) (by have := HLM.out; omega) (by have := HLM.out; omega) (fun j => by have := flowB_all HF.out j; omega) (fun j => by have := HC.out.bnd j; omega) (by omega)).mono ?_
    rintro e w1 ⟨Aa, ca, rfl, oa, fa, b1⟩
    have t1 := below_step HB.out b1
    have s1 := b1
    obtain ⟨k0, k1⟩ := box_cells s1
    go_wp2_with fail
    have lt0 := World.block_lt_of_cell? _ _ k0
    simp only at lt0
    go_region_with (first | (go_at_call 42; refine (l05List_is _ _ _ _ _ _ _ _ _ net _ _ _ (h.later (below_step t1 (Below.refl _ _).drew)) (oa.later (Below.refl _ _).drew).ints hO).mono ?_; rintro e w2 ⟨rfl, b2'⟩; have b2 : Below w1.heap.size w1 w2 := (Below.refl _ _).drew.trans b2'; have t2 := below_step t1 b2; have o2 := oa.later b2; have y0 := (b2.cell (p := ⟨w.heap.size, 0, none⟩) lt0).trans k0; have y1 := (b2.cell (p := ⟨w.heap.size, 1, none⟩) lt0).trans k1; clear b2') | (go_at_call 54; clear hmark; refine (l10Energy_any _ _ _ _ _ _ net _ _ _ (addL zs cs a) _ (h.later t2) o2.ints hv hO).mono ?_; rintro e w3 ⟨rfl, b3⟩; rw [HE1.out]; have t3 := below_step t2 b3; have y2 := (b3.cell (p := ⟨w.heap.size, 0, none⟩) (Nat.lt_of_lt_of_le lt0 b2.size)).trans y0; have y3 := (b3.cell (p := ⟨w.heap.size, 1, none⟩) (Nat.lt_of_lt_of_le lt0 b2.size)).trans y1) | (go_at_call 54; refine (l10Energy_any _ _ _ _ _ _ net _ _ _ zs _ (h.later t3) (hz.later t3) hv HF.out).mono ?_; rintro e w4 ⟨rfl, b4⟩; rw [HE2.out]; have t4 := below_step t3 b4))
    all_goals
      clear k0 k1 y0 y1 y2 y3
      go_wp2_with fail
      go_ret
      exact ⟨ret_bool HR.out, t4⟩

end Go.Proofs.YtllblmndoigdlaaGreat
