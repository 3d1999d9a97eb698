/- ResidualBound -/
import Derived.Test.YtllblmndoigdlaaGreatRb
namespace Go.Proofs.YtllblmndoigdlaaGreat
open Go.RowKit

set_option maxRecDepth 100000 in
set_option maxHeartbeats 4000000 in
theorem residualBound_any (A : Option Addr) (n c : Nat) (B : Option Addr) (m d : Nat) (net : Net) (C : Option Addr) (l e : Nat) (zs : List Int) (q : Nat) (w : World) (h : NetAt w A n c B m d net) (hz : Ints w C l e zs) (hv : netB net = true) (hf : flowB net zs = true) (hq : q ∈ (netG net).chords) :
    Calls Tryz.prog 36 #[.agg #[.slice A n c, .slice B m d], .slice C l e, .int .i64 (q : Int)] w fun e w' => e = .returned (.int .i64 (rbd net zs (cycL net q) net.pipes.length)) ∧ Below w.heap.size w w' := by
  have HB := Lib.hid (bel1 w (.cells #[.slice A n c, .slice B m d] 27))
  have ok := NetOK.of hv
  have hlm : l = m := by have := flowB_len hf; have := h.pipes.len; have := hz.len; omega
  subst hlm
  have hm40 : l ≤ 40 := by have := (netB_sizes hv).2.2; have := h.pipes.len; omega
  have HM := Lib.hid h.pipes.len
  have HS := Lib.hid hf
  have HV := Lib.hid hv
  have hzle := hz.le
  have hzcap := hz.cap
  have hple := h.pipes.le
  have hpcap := h.pipes.cap
  have HQ := Lib.hid hq
  have HC := Lib.hid (cycL_cyc ok hq)
  clear hf hv hq
  have bx0 : BX (w.alloc (.cells #[.slice A n c, .slice B l d] 27)) w.heap.size A n c B l d := ⟨heap_alloc_new w _⟩
  obtain ⟨W, hW⟩ : ∃ W, W = w.alloc (.cells #[.slice A n c, .slice B l d] 27) := ⟨_, rfl⟩
  go_enter Tryz.func36, Tryz.ntmps36
  go_wp2_with fail
  rw [← hW] at bx0 HB ⊢
  clear hW
  refine (cycleOf_any _ _ _ _ _ _ net q _ (h.later HB.out) ok HQ.out).mono ?_
  rintro e w1 ⟨Ac, rfl, oc, fc, b1⟩
  have bx1 := bx0.step b1
  have T1 := Lib.hid (below_step HB.out b1)
  clear bx0 b1 fc
  obtain ⟨cs, hcs⟩ : ∃ cs, cycL net q = cs := ⟨_, rfl⟩
  rw [hcs] at oc HC
  have HCS := Lib.hid hcs
  clear hcs
  go_wp2_with fail
  go_loopw [7, 14] (fun s i wr => ∃ k : Nat, k ≤ l ∧ s = .int .i64 (rbd net zs cs k) ∧ i = .int .i64 k ∧ Below w1.heap.size w1 wr) (fun _ i _ => l - (intOf i).toNat)
  case atStart => exact ⟨0, by omega, rfl, rfl, Below.refl _ _⟩
  case round =>
    obtain ⟨k, hk, rfl, rfl, hb⟩ := hrel
    have hbw := below_step T1.out hb
    by_cases hlt : k < l
    · have oc1 := oc.later hb
      obtain ⟨gc, rfl, hgc⟩ := oc1.pos (by omega)
      have cc := oc1.cell hlt
      have HT := Lib.hid (rbd_succ net zs cs k)
      by_cases h0 : ig cs k = 0
      · have HT2 : Hid (rbd net zs cs (k + 1) = rbd net zs cs k) := Lib.hid (by rw [HT.out]; unfold rbT; rw [if_pos h0]; omega)
        rw [h0] at cc
        clear h0 HT oc1
        generalize rbd net zs cs k = G at *
        go_wp2_with fail
        go_roundw
        case rel => exact ⟨k + 1, by omega, by rw [HT2.out], by go_num, hb⟩
        case measure => simp [intOf]; omega
      · have g0 : (ig cs k != 0) = true := by simp [h0]
        obtain ⟨bz, offz, rfl, hblz, hcz⟩ := (hz.later hbw).cells (by omega)
        have hckz := hcz k hlt
        obtain ⟨bp, offp, rfl, hblp, hcp⟩ := (h.pipes.later hbw).cells (by omega)
        obtain ⟨_, _, c2, _, _⟩ := hcp k hlt
        clear hcz hcp oc1
        have hq1 := flowB_all HS.out k
        have ht := rbT_bnd (cs := cs) HV.out HS.out k
        have hr1 := rbd_bnd (cs := cs) HV.out HS.out k (by omega)
        have HT2 : Hid (rbd net zs cs (k + 1) = rbd net zs cs k + (pp net.pipes k).k * (3 * ab (ig zs k) + 1)) := Lib.hid (by rw [HT.out]; unfold rbT; rw [if_neg h0])
        have ha1 := ab_nn (ig zs k)
        have ha2 := ab_le hq1.1 hq1.2
        obtain ⟨AV, hA⟩ : ∃ AV, ab (ig zs k) = AV := ⟨_, rfl⟩
        rw [hA] at ht HT2 ha1 ha2
        have HA := Lib.hid hA
        obtain ⟨ht1, ht2, _, _⟩ := ht
        clear h0 HT hA
        have kx := bx1.step hb
        have k0 := kx.c0
        have k1 := kx.c1
        have KX := Lib.hid kx
        generalize ig cs k = Z at *
        generalize rbd net zs cs k = G at *
        generalize (pp net.pipes k).k = KV at *
        generalize ig zs k = Q at *
        have hw1 := w64_id (z := KV * (3 * AV + 1)) ⟨by omega, by omega⟩
        have hw2 := wrap_id (z := KV * (3 * AV + 1)) ⟨by omega, by omega⟩
        go_wp2_with fail
        apply wp_region_track [21, 22, 23, 24, 25, 26, 27, 28, 29, 30, 31, 32, 33, 34, 35] [eqv _, eqv _, eqv _, eqv _, eqv _, eqv _, eqv _, eqv _, eqv _, eqv _, eqv _, eqv _, eqv _, eqv _, eqv _]
          (fun w' => Below wr.heap.size wr w') Grw (by kernel_rfl) (by kernel_rfl) rfl (by kernel_rfl)
        case hs =>
          refine ⟨?_, ?_, ?_, ?_, ?_, ?_, ?_, ?_, ?_, ?_, ?_, ?_, ?_, ?_, ?_, trivial⟩
          · intro ev wt ht hc hg hf hI hd
            have e7 : ev (.tmp 7) = .int .i64 G := ht 7 (by decide)
            exact opok_move _ rfl ⟨hI, Below.refl _ _, e7⟩
          · intro ev wt ht hc hg hf hI hd
            have e3 : ev (.tmp 3) = .pointer (some ⟨w.heap.size, 0, none⟩) := ht 3 (by decide)
            refine opok_gen fun N hN => ?_
            clear hd ht
            go_simp
            exact hN.out _ _ ⟨hI, Below.refl _ _, rfl⟩
          · intro ev wt ht hc hg hf hI hd
            have e22 : ev (.tmp 22) = _ := hd 1 22 rfl rfl
            have y0 := (KX.out.step hI).c0
            have y1 := (KX.out.step hI).c1
            have yz := (hI.cell (p := ⟨bz, offz + k, none⟩) hblz).trans hckz
            have x2 := (hI.cell (p := ⟨bp, offp + k * 5 + 2, none⟩) hblp).trans c2
            refine opok_gen fun N hN => ?_
            clear hd ht
            go_simp
            exact hN.out _ _ ⟨hI, Below.refl _ _, rfl⟩
          · intro ev wt ht hc hg hf hI hd
            have e8 : ev (.tmp 8) = .int .i64 k := ht 8 (by decide)
            exact opok_move _ rfl ⟨hI, Below.refl _ _, e8⟩
          · intro ev wt ht hc hg hf hI hd
            have e23 : ev (.tmp 23) = _ := hd 2 23 rfl rfl
            have e24 : ev (.tmp 24) = _ := hd 3 24 rfl rfl
            refine opok_gen fun N hN => ?_
            clear hd ht
            go_simp
            exact hN.out _ _ ⟨hI, Below.refl _ _, rfl⟩
          · intro ev wt ht hc hg hf hI hd
            have e25 : ev (.tmp 25) = _ := hd 4 25 rfl rfl
            refine opok_gen fun N hN => ?_
            clear hd ht
            go_simp
            exact hN.out _ _ ⟨hI, Below.refl _ _, rfl⟩
          · intro ev wt ht hc hg hf hI hd
            have e26 : ev (.tmp 26) = _ := hd 5 26 rfl rfl
            have y0 := (KX.out.step hI).c0
            have y1 := (KX.out.step hI).c1
            have yz := (hI.cell (p := ⟨bz, offz + k, none⟩) hblz).trans hckz
            have x2 := (hI.cell (p := ⟨bp, offp + k * 5 + 2, none⟩) hblp).trans c2
            refine opok_gen fun N hN => ?_
            clear hd ht
            go_simp
            exact hN.out _ _ ⟨hI, Below.refl _ _, rfl⟩
          · intro ev wt ht hc hg hf hI hd
            have e1 : ev (.tmp 1) = .slice (some ⟨bz, offz, none⟩) l e := ht 1 (by decide)
            exact opok_move _ rfl ⟨hI, Below.refl _ _, e1⟩
          · intro ev wt ht hc hg hf hI hd
            have e8 : ev (.tmp 8) = .int .i64 k := ht 8 (by decide)
            exact opok_move _ rfl ⟨hI, Below.refl _ _, e8⟩
          · intro ev wt ht hc hg hf hI hd
            have e28 : ev (.tmp 28) = _ := hd 7 28 rfl rfl
            have e29 : ev (.tmp 29) = _ := hd 8 29 rfl rfl
            refine opok_gen fun N hN => ?_
            clear hd ht
            go_simp
            exact hN.out _ _ ⟨hI, Below.refl _ _, rfl⟩
          · intro ev wt ht hc hg hf hI hd
            have e30 : ev (.tmp 30) = _ := hd 9 30 rfl rfl
            have y0 := (KX.out.step hI).c0
            have y1 := (KX.out.step hI).c1
            have yz := (hI.cell (p := ⟨bz, offz + k, none⟩) hblz).trans hckz
            have x2 := (hI.cell (p := ⟨bp, offp + k * 5 + 2, none⟩) hblp).trans c2
            refine opok_gen fun N hN => ?_
            clear hd ht
            go_simp
            exact hN.out _ _ ⟨hI, Below.refl _ _, rfl⟩
          · intro ev wt ht hc hg hf hI hd
            have e31 : ev (.tmp 31) = _ := hd 10 31 rfl rfl
            refine opok_gen fun N hN => ?_
            clear hd ht
            go_simp
            refine (absOf_is _ _ _ (by omega) HA.out).mono ?_
            rintro e wz ⟨rfl, rfl⟩
            exact ⟨_, rfl, hN.out _ _ ⟨hI, Below.refl _ _, rfl⟩⟩
          · intro ev wt ht hc hg hf hI hd
            have e32 : ev (.tmp 32) = _ := hd 11 32 rfl rfl
            refine opok_gen fun N hN => ?_
            clear hd ht
            go_simp
            exact hN.out _ _ ⟨hI, Below.refl _ _, rfl⟩
          · intro ev wt ht hc hg hf hI hd
            have e33 : ev (.tmp 33) = _ := hd 12 33 rfl rfl
            refine opok_gen fun N hN => ?_
            clear hd ht
            go_simp
            exact hN.out _ _ ⟨hI, Below.refl _ _, rfl⟩
          · intro ev wt ht hc hg hf hI hd
            have e27 : ev (.tmp 27) = _ := hd 6 27 rfl rfl
            have e34 : ev (.tmp 34) = _ := hd 13 34 rfl rfl
            refine opok_gen fun N hN => ?_
            clear hd ht
            go_simp
            exact hN.out _ _ ⟨hI, Below.refl _ _, rfl⟩
        case hst =>
          refine fun j v w w' _ h1 h2 => StbL.nth (S := Grw) ?_ j v w w' h1 h2
          exact ⟨stb_eqv _, stb_eqv _, stb_eqv _, stb_eqv _, stb_eqv _, stb_eqv _, stb_eqv _, stb_eqv _, stb_eqv _, stb_eqv _, stb_eqv _, stb_eqv _, stb_eqv _, stb_eqv _, stb_eqv _, trivial⟩
        case hI => exact (Below.refl _ _).drew
        case hl =>
          rintro wt hI _ rfl _ rfl _ rfl _ rfl _ rfl _ rfl _ rfl _ rfl _ rfl _ rfl _ rfl _ rfl _ rfl _ rfl _ rfl
          simp only [Lasts, List.length_cons, List.length_nil, Nat.reduceAdd, List.drop_succ_cons, List.drop_zero, Act.put, List.setIfInBounds_toArray, List.set_cons_succ, List.set_cons_zero]
          have hb3 := below_step hb hI
          go_wp2_with fail
          go_roundw
          case rel => exact ⟨k + 1, by omega, by rw [HT2.out], by go_num, hb3⟩
          case measure => simp [intOf]; omega
    · have hkl : l = k := by omega
      have HR : Hid (rbd net zs cs net.pipes.length = rbd net zs cs k) := Lib.hid (by rw [HM.out, hkl])
      clear hkl
      go_wp2_with fail
      go_ret
      exact ⟨ret_int (by rw [HCS.out, HR.out]), hbw⟩

set_option maxRecDepth 100000 in
set_option maxHeartbeats 4000000 in
theorem l10Bound_any (A : Option Addr) (n c : Nat) (B : Option Addr) (m d : Nat) (net : Net) (C : Option Addr) (l e : Nat) (zs : List Int) (C2 : Option Addr) (l2 e2 : Nat) (cs : List Int) (w : World) (h : NetAt w A n c B m d net) (hz : Ints w C l e zs) (hz2 : Ints w C2 l2 e2 cs) (hv : netB net = true) (hf : flowB net zs = true) (hc : Cyc net cs) :
    Calls Tryz.prog 38 #[.agg #[.slice A n c, .slice B m d], .slice C l e, .slice C2 l2 e2] w fun e w' => e = .returned (.int .i64 (rbd net zs cs net.pipes.length)) ∧ Below w.heap.size w w' := by
  have HB := Lib.hid (bel1 w (.cells #[.slice A n c, .slice B m d] 27))
  have hlm : l = m := by have := flowB_len hf; have := h.pipes.len; have := hz.len; omega
  have hl2m : l2 = m := by have := hc.len; have := h.pipes.len; have := hz2.len; omega
  subst hlm
  subst hl2m
  have hm40 : l2 ≤ 40 := by have := (netB_sizes hv).2.2; have := h.pipes.len; omega
  have HM := Lib.hid h.pipes.len
  have HS := Lib.hid hf
  have HV := Lib.hid hv
  have hzle := hz.le
  have hzcap := hz.cap
  have hple := h.pipes.le
  have hpcap := h.pipes.cap
  have HC := Lib.hid hc
  clear hf hv hc
  have bx0 : BX (w.alloc (.cells #[.slice A n c, .slice B l2 d] 27)) w.heap.size A n c B l2 d := ⟨heap_alloc_new w _⟩
  obtain ⟨W, hW⟩ : ∃ W, W = w.alloc (.cells #[.slice A n c, .slice B l2 d] 27) := ⟨_, rfl⟩
  go_enter Tryz.func38, Tryz.ntmps38
  go_wp2_with fail
  rw [← hW] at bx0 HB ⊢
  clear hW
  go_loopw [7, 8] (fun s i wr => ∃ k : Nat, k ≤ l2 ∧ s = .int .i64 (rbd net zs cs k) ∧ i = .int .i64 k ∧ Below W.heap.size W wr) (fun _ i _ => l2 - (intOf i).toNat)
  case atStart => exact ⟨0, by omega, rfl, rfl, Below.refl _ _⟩
  case round =>
    obtain ⟨k, hk, rfl, rfl, hb⟩ := hrel
    have hbw := below_step HB.out hb
    by_cases hlt : k < l2
    · obtain ⟨bz, offz, rfl, hblz, hcz⟩ := (hz.later hbw).cells (by omega)
      have hckz := hcz k hlt
      obtain ⟨bc, offc, rfl, hblc, hcc⟩ := (hz2.later hbw).cells (by omega)
      have hckc := hcc k hlt
      obtain ⟨bp, offp, rfl, hblp, hcp⟩ := (h.pipes.later hbw).cells (by omega)
      obtain ⟨_, _, c2, _, _⟩ := hcp k hlt
      clear hcz hcp hcc
      have hki : (k : Int) < (l2 : Int) := by omega
      have HT := Lib.hid (rbd_succ net zs cs k)
      have hq1 := flowB_all HS.out k
      have hub := HC.out.bnd k
      have hkq := ppk_bnd HV.out k
      have ht := rbT_bnd (cs := cs) HV.out HS.out k
      have hr1 := rbd_bnd (cs := cs) HV.out HS.out k (by omega)
      have ha1 := ab_nn (ig zs k)
      have ha2 := ab_le hq1.1 hq1.2
      obtain ⟨AV, hA⟩ : ∃ AV, ab (ig zs k) = AV := ⟨_, rfl⟩
      obtain ⟨AV2, hA2⟩ : ∃ AV2, ab (ig cs k) = AV2 := ⟨_, rfl⟩
      have kx := bx0.step hb
      have k0 := kx.c0
      have k1 := kx.c1
      have KX := Lib.hid kx
      have HA := Lib.hid hA
      by_cases h0 : ig cs k = 0
      · have HT2 : Hid (rbd net zs cs (k + 1) = rbd net zs cs k) := Lib.hid (by rw [HT.out]; unfold rbT; rw [if_pos h0]; omega)
        rw [hA] at ht ha1 ha2
        obtain ⟨ht1, ht2, _, _⟩ := ht
        clear hA
        have g0 : AV2 = 0 := by rw [← hA2]; rw [h0]; rfl
        subst g0
        have HA2 := Lib.hid hA2
        clear h0 hA2 HT
        generalize ig cs k = Z at *
        generalize rbd net zs cs k = G at *
        generalize (pp net.pipes k).k = KV at *
        generalize ig zs k = Q at *
        have hw1 := w64_id (z := KV * (3 * AV + 1)) ⟨by omega, by omega⟩
        have hw2 := wrap_id (z := KV * (3 * AV + 1)) ⟨by omega, by omega⟩
        have hw3 := wrap_id (z := KV) ⟨by omega, by omega⟩
        go_wp2_with fail
        apply wp_region_track [15, 16, 17, 18, 19, 20, 21, 22, 23, 24, 25, 26, 27, 28, 29, 30, 31, 32, 33, 34, 35] [eqv _, eqv _, eqv _, eqv _, eqv _, eqv _, eqv _, eqv _, eqv _, eqv _, eqv _, eqv _, eqv _, eqv _, eqv _, eqv _, eqv _, eqv _, eqv _, eqv _, eqv _]
          (fun w' => Below wr.heap.size wr w') Grw (by kernel_rfl) (by kernel_rfl) rfl (by kernel_rfl)
        case hs =>
          refine ⟨?_, ?_, ?_, ?_, ?_, ?_, ?_, ?_, ?_, ?_, ?_, ?_, ?_, ?_, ?_, ?_, ?_, ?_, ?_, ?_, ?_, trivial⟩
          · intro ev wt ht hc hg hf hI hd
            have e7 : ev (.tmp 7) = .int .i64 G := ht 7 (by decide)
            exact opok_move _ rfl ⟨hI, Below.refl _ _, e7⟩
          · intro ev wt ht hc hg hf hI hd
            have e2 : ev (.tmp 2) = .slice (some ⟨bc, offc, none⟩) l2 e2 := ht 2 (by decide)
            exact opok_move _ rfl ⟨hI, Below.refl _ _, e2⟩
          · intro ev wt ht hc hg hf hI hd
            have e8 : ev (.tmp 8) = .int .i64 k := ht 8 (by decide)
            exact opok_move _ rfl ⟨hI, Below.refl _ _, e8⟩
          · intro ev wt ht hc hg hf hI hd
            have e16 : ev (.tmp 16) = _ := hd 1 16 rfl rfl
            have e17 : ev (.tmp 17) = _ := hd 2 17 rfl rfl
            refine opok_gen fun N hN => ?_
            clear hd ht
            go_simp
            exact hN.out _ _ ⟨hI, Below.refl _ _, rfl⟩
          · intro ev wt ht hc hg hf hI hd
            have e18 : ev (.tmp 18) = _ := hd 3 18 rfl rfl
            have y0 := (KX.out.step hI).c0
            have y1 := (KX.out.step hI).c1
            have yz := (hI.cell (p := ⟨bz, offz + k, none⟩) hblz).trans hckz
            have yc := (hI.cell (p := ⟨bc, offc + k, none⟩) hblc).trans hckc
            have x2 := (hI.cell (p := ⟨bp, offp + k * 5 + 2, none⟩) hblp).trans c2
            refine opok_gen fun N hN => ?_
            clear hd ht
            go_simp
            exact hN.out _ _ ⟨hI, Below.refl _ _, rfl⟩
          · intro ev wt ht hc hg hf hI hd
            have e19 : ev (.tmp 19) = _ := hd 4 19 rfl rfl
            refine opok_gen fun N hN => ?_
            clear hd ht
            go_simp
            refine (l01Abs_is _ _ _ (by omega) HA2.out).mono ?_
            rintro e wz ⟨rfl, rfl⟩
            exact ⟨_, rfl, hN.out _ _ ⟨hI, Below.refl _ _, rfl⟩⟩
          · intro ev wt ht hc hg hf hI hd
            have e3 : ev (.tmp 3) = .pointer (some ⟨w.heap.size, 0, none⟩) := ht 3 (by decide)
            refine opok_gen fun N hN => ?_
            clear hd ht
            go_simp
            exact hN.out _ _ ⟨hI, Below.refl _ _, rfl⟩
          · intro ev wt ht hc hg hf hI hd
            have e21 : ev (.tmp 21) = _ := hd 6 21 rfl rfl
            have y0 := (KX.out.step hI).c0
            have y1 := (KX.out.step hI).c1
            have yz := (hI.cell (p := ⟨bz, offz + k, none⟩) hblz).trans hckz
            have yc := (hI.cell (p := ⟨bc, offc + k, none⟩) hblc).trans hckc
            have x2 := (hI.cell (p := ⟨bp, offp + k * 5 + 2, none⟩) hblp).trans c2
            refine opok_gen fun N hN => ?_
            clear hd ht
            go_simp
            exact hN.out _ _ ⟨hI, Below.refl _ _, rfl⟩
          · intro ev wt ht hc hg hf hI hd
            have e8 : ev (.tmp 8) = .int .i64 k := ht 8 (by decide)
            exact opok_move _ rfl ⟨hI, Below.refl _ _, e8⟩
          · intro ev wt ht hc hg hf hI hd
            have e22 : ev (.tmp 22) = _ := hd 7 22 rfl rfl
            have e23 : ev (.tmp 23) = _ := hd 8 23 rfl rfl
            refine opok_gen fun N hN => ?_
            clear hd ht
            go_simp
            exact hN.out _ _ ⟨hI, Below.refl _ _, rfl⟩
          · intro ev wt ht hc hg hf hI hd
            have e24 : ev (.tmp 24) = _ := hd 9 24 rfl rfl
            refine opok_gen fun N hN => ?_
            clear hd ht
            go_simp
            exact hN.out _ _ ⟨hI, Below.refl _ _, rfl⟩
          · intro ev wt ht hc hg hf hI hd
            have e25 : ev (.tmp 25) = _ := hd 10 25 rfl rfl
            have y0 := (KX.out.step hI).c0
            have y1 := (KX.out.step hI).c1
            have yz := (hI.cell (p := ⟨bz, offz + k, none⟩) hblz).trans hckz
            have yc := (hI.cell (p := ⟨bc, offc + k, none⟩) hblc).trans hckc
            have x2 := (hI.cell (p := ⟨bp, offp + k * 5 + 2, none⟩) hblp).trans c2
            refine opok_gen fun N hN => ?_
            clear hd ht
            go_simp
            exact hN.out _ _ ⟨hI, Below.refl _ _, rfl⟩
          · intro ev wt ht hc hg hf hI hd
            have e20 : ev (.tmp 20) = _ := hd 5 20 rfl rfl
            have e26 : ev (.tmp 26) = _ := hd 11 26 rfl rfl
            refine opok_gen fun N hN => ?_
            clear hd ht
            go_simp
            exact hN.out _ _ ⟨hI, Below.refl _ _, rfl⟩
          · intro ev wt ht hc hg hf hI hd
            have e1 : ev (.tmp 1) = .slice (some ⟨bz, offz, none⟩) l2 e := ht 1 (by decide)
            exact opok_move _ rfl ⟨hI, Below.refl _ _, e1⟩
          · intro ev wt ht hc hg hf hI hd
            have e8 : ev (.tmp 8) = .int .i64 k := ht 8 (by decide)
            exact opok_move _ rfl ⟨hI, Below.refl _ _, e8⟩
          · intro ev wt ht hc hg hf hI hd
            have e28 : ev (.tmp 28) = _ := hd 13 28 rfl rfl
            have e29 : ev (.tmp 29) = _ := hd 14 29 rfl rfl
            refine opok_gen fun N hN => ?_
            clear hd ht
            go_simp
            exact hN.out _ _ ⟨hI, Below.refl _ _, rfl⟩
          · intro ev wt ht hc hg hf hI hd
            have e30 : ev (.tmp 30) = _ := hd 15 30 rfl rfl
            have y0 := (KX.out.step hI).c0
            have y1 := (KX.out.step hI).c1
            have yz := (hI.cell (p := ⟨bz, offz + k, none⟩) hblz).trans hckz
            have yc := (hI.cell (p := ⟨bc, offc + k, none⟩) hblc).trans hckc
            have x2 := (hI.cell (p := ⟨bp, offp + k * 5 + 2, none⟩) hblp).trans c2
            refine opok_gen fun N hN => ?_
            clear hd ht
            go_simp
            exact hN.out _ _ ⟨hI, Below.refl _ _, rfl⟩
          · intro ev wt ht hc hg hf hI hd
            have e31 : ev (.tmp 31) = _ := hd 16 31 rfl rfl
            refine opok_gen fun N hN => ?_
            clear hd ht
            go_simp
            refine (l01Abs_is _ _ _ (by omega) HA.out).mono ?_
            rintro e wz ⟨rfl, rfl⟩
            exact ⟨_, rfl, hN.out _ _ ⟨hI, Below.refl _ _, rfl⟩⟩
          · intro ev wt ht hc hg hf hI hd
            have e32 : ev (.tmp 32) = _ := hd 17 32 rfl rfl
            refine opok_gen fun N hN => ?_
            clear hd ht
            go_simp
            exact hN.out _ _ ⟨hI, Below.refl _ _, rfl⟩
          · intro ev wt ht hc hg hf hI hd
            have e33 : ev (.tmp 33) = _ := hd 18 33 rfl rfl
            refine opok_gen fun N hN => ?_
            clear hd ht
            go_simp
            exact hN.out _ _ ⟨hI, Below.refl _ _, rfl⟩
          · intro ev wt ht hc hg hf hI hd
            have e27 : ev (.tmp 27) = _ := hd 12 27 rfl rfl
            have e34 : ev (.tmp 34) = _ := hd 19 34 rfl rfl
            refine opok_gen fun N hN => ?_
            clear hd ht
            go_simp
            exact hN.out _ _ ⟨hI, Below.refl _ _, rfl⟩
        case hst =>
          refine fun j v w w' _ h1 h2 => StbL.nth (S := Grw) ?_ j v w w' h1 h2
          exact ⟨stb_eqv _, stb_eqv _, stb_eqv _, stb_eqv _, stb_eqv _, stb_eqv _, stb_eqv _, stb_eqv _, stb_eqv _, stb_eqv _, stb_eqv _, stb_eqv _, stb_eqv _, stb_eqv _, stb_eqv _, stb_eqv _, stb_eqv _, stb_eqv _, stb_eqv _, stb_eqv _, stb_eqv _, trivial⟩
        case hI => exact (Below.refl _ _).drew
        case hl =>
          rintro wt hI _ rfl _ rfl _ rfl _ rfl _ rfl _ rfl _ rfl _ rfl _ rfl _ rfl _ rfl _ rfl _ rfl _ rfl _ rfl _ rfl _ rfl _ rfl _ rfl _ rfl _ rfl
          simp only [Lasts, List.length_cons, List.length_nil, Nat.reduceAdd, List.drop_succ_cons, List.drop_zero, Act.put, List.setIfInBounds_toArray, List.set_cons_succ, List.set_cons_zero]
          have hb3 := below_step hb hI
          go_wp2_with fail
          go_roundw
          case rel => exact ⟨k + 1, by omega, by rw [HT2.out, Int.zero_mul, Int.add_zero], by go_num, hb3⟩
          case measure => simp [intOf]; omega
      · have HT2 : Hid (rbd net zs cs (k + 1) = rbd net zs cs k + (pp net.pipes k).k * (3 * ab (ig zs k) + 1)) := Lib.hid (by rw [HT.out]; unfold rbT; rw [if_neg h0])
        rw [hA] at ht HT2 ha1 ha2
        obtain ⟨ht1, ht2, _, _⟩ := ht
        clear hA
        have g0 : AV2 = 1 := by rw [← hA2]; rcases HC.out.u k with h | h | h <;> rw [h] <;> first | rfl | exact absurd h h0
        subst g0
        have HA2 := Lib.hid hA2
        clear h0 hA2 HT
        generalize ig cs k = Z at *
        generalize rbd net zs cs k = G at *
        generalize (pp net.pipes k).k = KV at *
        generalize ig zs k = Q at *
        have hw1 := w64_id (z := KV * (3 * AV + 1)) ⟨by omega, by omega⟩
        have hw2 := wrap_id (z := KV * (3 * AV + 1)) ⟨by omega, by omega⟩
        have hw3 := wrap_id (z := KV) ⟨by omega, by omega⟩
        go_wp2_with fail
        apply wp_region_track [15, 16, 17, 18, 19, 20, 21, 22, 23, 24, 25, 26, 27, 28, 29, 30, 31, 32, 33, 34, 35] [eqv _, eqv _, eqv _, eqv _, eqv _, eqv _, eqv _, eqv _, eqv _, eqv _, eqv _, eqv _, eqv _, eqv _, eqv _, eqv _, eqv _, eqv _, eqv _, eqv _, eqv _]
          (fun w' => Below wr.heap.size wr w') Grw (by kernel_rfl) (by kernel_rfl) rfl (by kernel_rfl)
        case hs =>
          refine ⟨?_, ?_, ?_, ?_, ?_, ?_, ?_, ?_, ?_, ?_, ?_, ?_, ?_, ?_, ?_, ?_, ?_, ?_, ?_, ?_, ?_, trivial⟩
          · intro ev wt ht hc hg hf hI hd
            have e7 : ev (.tmp 7) = .int .i64 G := ht 7 (by decide)
            exact opok_move _ rfl ⟨hI, Below.refl _ _, e7⟩
          · intro ev wt ht hc hg hf hI hd
            have e2 : ev (.tmp 2) = .slice (some ⟨bc, offc, none⟩) l2 e2 := ht 2 (by decide)
            exact opok_move _ rfl ⟨hI, Below.refl _ _, e2⟩
          · intro ev wt ht hc hg hf hI hd
            have e8 : ev (.tmp 8) = .int .i64 k := ht 8 (by decide)
            exact opok_move _ rfl ⟨hI, Below.refl _ _, e8⟩
          · intro ev wt ht hc hg hf hI hd
            have e16 : ev (.tmp 16) = _ := hd 1 16 rfl rfl
            have e17 : ev (.tmp 17) = _ := hd 2 17 rfl rfl
            refine opok_gen fun N hN => ?_
            clear hd ht
            go_simp
            exact hN.out _ _ ⟨hI, Below.refl _ _, rfl⟩
          · intro ev wt ht hc hg hf hI hd
            have e18 : ev (.tmp 18) = _ := hd 3 18 rfl rfl
            have y0 := (KX.out.step hI).c0
            have y1 := (KX.out.step hI).c1
            have yz := (hI.cell (p := ⟨bz, offz + k, none⟩) hblz).trans hckz
            have yc := (hI.cell (p := ⟨bc, offc + k, none⟩) hblc).trans hckc
            have x2 := (hI.cell (p := ⟨bp, offp + k * 5 + 2, none⟩) hblp).trans c2
            refine opok_gen fun N hN => ?_
            clear hd ht
            go_simp
            exact hN.out _ _ ⟨hI, Below.refl _ _, rfl⟩
          · intro ev wt ht hc hg hf hI hd
            have e19 : ev (.tmp 19) = _ := hd 4 19 rfl rfl
            refine opok_gen fun N hN => ?_
            clear hd ht
            go_simp
            refine (l01Abs_is _ _ _ (by omega) HA2.out).mono ?_
            rintro e wz ⟨rfl, rfl⟩
            exact ⟨_, rfl, hN.out _ _ ⟨hI, Below.refl _ _, rfl⟩⟩
          · intro ev wt ht hc hg hf hI hd
            have e3 : ev (.tmp 3) = .pointer (some ⟨w.heap.size, 0, none⟩) := ht 3 (by decide)
            refine opok_gen fun N hN => ?_
            clear hd ht
            go_simp
            exact hN.out _ _ ⟨hI, Below.refl _ _, rfl⟩
          · intro ev wt ht hc hg hf hI hd
            have e21 : ev (.tmp 21) = _ := hd 6 21 rfl rfl
            have y0 := (KX.out.step hI).c0
            have y1 := (KX.out.step hI).c1
            have yz := (hI.cell (p := ⟨bz, offz + k, none⟩) hblz).trans hckz
            have yc := (hI.cell (p := ⟨bc, offc + k, none⟩) hblc).trans hckc
            have x2 := (hI.cell (p := ⟨bp, offp + k * 5 + 2, none⟩) hblp).trans c2
            refine opok_gen fun N hN => ?_
            clear hd ht
            go_simp
            exact hN.out _ _ ⟨hI, Below.refl _ _, rfl⟩
          · intro ev wt ht hc hg hf hI hd
            have e8 : ev (.tmp 8) = .int .i64 k := ht 8 (by decide)
            exact opok_move _ rfl ⟨hI, Below.refl _ _, e8⟩
          · intro ev wt ht hc hg hf hI hd
            have e22 : ev (.tmp 22) = _ := hd 7 22 rfl rfl
            have e23 : ev (.tmp 23) = _ := hd 8 23 rfl rfl
            refine opok_gen fun N hN => ?_
            clear hd ht
            go_simp
            exact hN.out _ _ ⟨hI, Below.refl _ _, rfl⟩
          · intro ev wt ht hc hg hf hI hd
            have e24 : ev (.tmp 24) = _ := hd 9 24 rfl rfl
            refine opok_gen fun N hN => ?_
            clear hd ht
            go_simp
            exact hN.out _ _ ⟨hI, Below.refl _ _, rfl⟩
          · intro ev wt ht hc hg hf hI hd
            have e25 : ev (.tmp 25) = _ := hd 10 25 rfl rfl
            have y0 := (KX.out.step hI).c0
            have y1 := (KX.out.step hI).c1
            have yz := (hI.cell (p := ⟨bz, offz + k, none⟩) hblz).trans hckz
            have yc := (hI.cell (p := ⟨bc, offc + k, none⟩) hblc).trans hckc
            have x2 := (hI.cell (p := ⟨bp, offp + k * 5 + 2, none⟩) hblp).trans c2
            refine opok_gen fun N hN => ?_
            clear hd ht
            go_simp
            exact hN.out _ _ ⟨hI, Below.refl _ _, rfl⟩
          · intro ev wt ht hc hg hf hI hd
            have e20 : ev (.tmp 20) = _ := hd 5 20 rfl rfl
            have e26 : ev (.tmp 26) = _ := hd 11 26 rfl rfl
            refine opok_gen fun N hN => ?_
            clear hd ht
            go_simp
            exact hN.out _ _ ⟨hI, Below.refl _ _, rfl⟩
          · intro ev wt ht hc hg hf hI hd
            have e1 : ev (.tmp 1) = .slice (some ⟨bz, offz, none⟩) l2 e := ht 1 (by decide)
            exact opok_move _ rfl ⟨hI, Below.refl _ _, e1⟩
          · intro ev wt ht hc hg hf hI hd
            have e8 : ev (.tmp 8) = .int .i64 k := ht 8 (by decide)
            exact opok_move _ rfl ⟨hI, Below.refl _ _, e8⟩
          · intro ev wt ht hc hg hf hI hd
            have e28 : ev (.tmp 28) = _ := hd 13 28 rfl rfl
            have e29 : ev (.tmp 29) = _ := hd 14 29 rfl rfl
            refine opok_gen fun N hN => ?_
            clear hd ht
            go_simp
            exact hN.out _ _ ⟨hI, Below.refl _ _, rfl⟩
          · intro ev wt ht hc hg hf hI hd
            have e30 : ev (.tmp 30) = _ := hd 15 30 rfl rfl
            have y0 := (KX.out.step hI).c0
            have y1 := (KX.out.step hI).c1
            have yz := (hI.cell (p := ⟨bz, offz + k, none⟩) hblz).trans hckz
            have yc := (hI.cell (p := ⟨bc, offc + k, none⟩) hblc).trans hckc
            have x2 := (hI.cell (p := ⟨bp, offp + k * 5 + 2, none⟩) hblp).trans c2
            refine opok_gen fun N hN => ?_
            clear hd ht
            go_simp
            exact hN.out _ _ ⟨hI, Below.refl _ _, rfl⟩
          · intro ev wt ht hc hg hf hI hd
            have e31 : ev (.tmp 31) = _ := hd 16 31 rfl rfl
            refine opok_gen fun N hN => ?_
            clear hd ht
            go_simp
            refine (l01Abs_is _ _ _ (by omega) HA.out).mono ?_
            rintro e wz ⟨rfl, rfl⟩
            exact ⟨_, rfl, hN.out _ _ ⟨hI, Below.refl _ _, rfl⟩⟩
          · intro ev wt ht hc hg hf hI hd
            have e32 : ev (.tmp 32) = _ := hd 17 32 rfl rfl
            refine opok_gen fun N hN => ?_
            clear hd ht
            go_simp
            exact hN.out _ _ ⟨hI, Below.refl _ _, rfl⟩
          · intro ev wt ht hc hg hf hI hd
            have e33 : ev (.tmp 33) = _ := hd 18 33 rfl rfl
            refine opok_gen fun N hN => ?_
            clear hd ht
            go_simp
            exact hN.out _ _ ⟨hI, Below.refl _ _, rfl⟩
          · intro ev wt ht hc hg hf hI hd
            have e27 : ev (.tmp 27) = _ := hd 12 27 rfl rfl
            have e34 : ev (.tmp 34) = _ := hd 19 34 rfl rfl
            refine opok_gen fun N hN => ?_
            clear hd ht
            go_simp
            exact hN.out _ _ ⟨hI, Below.refl _ _, rfl⟩
        case hst =>
          refine fun j v w w' _ h1 h2 => StbL.nth (S := Grw) ?_ j v w w' h1 h2
          exact ⟨stb_eqv _, stb_eqv _, stb_eqv _, stb_eqv _, stb_eqv _, stb_eqv _, stb_eqv _, stb_eqv _, stb_eqv _, stb_eqv _, stb_eqv _, stb_eqv _, stb_eqv _, stb_eqv _, stb_eqv _, stb_eqv _, stb_eqv _, stb_eqv _, stb_eqv _, stb_eqv _, stb_eqv _, trivial⟩
        case hI => exact (Below.refl _ _).drew
        case hl =>
          rintro wt hI _ rfl _ rfl _ rfl _ rfl _ rfl _ rfl _ rfl _ rfl _ rfl _ rfl _ rfl _ rfl _ rfl _ rfl _ rfl _ rfl _ rfl _ rfl _ rfl _ rfl _ rfl
          simp only [Lasts, List.length_cons, List.length_nil, Nat.reduceAdd, List.drop_succ_cons, List.drop_zero, Act.put, List.setIfInBounds_toArray, List.set_cons_succ, List.set_cons_zero]
          have hb3 := below_step hb hI
          go_wp2_with fail
          go_roundw
          case rel => exact ⟨k + 1, by omega, by rw [HT2.out], by go_num, hb3⟩
          case measure => simp [intOf]; omega
    · have hkl : l2 = k := by omega
      have HR : Hid (rbd net zs cs net.pipes.length = rbd net zs cs k) := Lib.hid (by rw [HM.out, hkl])
      clear hkl
      have hki : ¬ (k : Int) < (l2 : Int) := by omega
      go_wp2_with fail
      go_ret
      exact ⟨ret_int (by rw [HR.out]), hbw⟩

set_option maxRecDepth 100000 in
set_option maxHeartbeats 2000000 in
theorem implResidualBound_any (A : Option Addr) (n c : Nat) (B : Option Addr) (m d : Nat) (net : Net) (C : Option Addr) (l e : Nat) (zs : List Int) (x : Int) (w : World) (h : NetAt w A n c B m d net) (hz : Ints w C l e zs) (_hx : I64 x) :
    Calls Tryz.prog 15 #[.agg #[.slice A n c, .slice B m d], .slice C l e, .int .i64 x] w fun e w' => e = .returned (.tuple #[.int .i64 (rResidualBound net zs x).1, .int .i64 (rResidualBound net zs x).2]) ∧ Below w.heap.size w w' := by
  have HB := Lib.hid (bel1 w (.cells #[.slice A n c, .slice B m d] 27))
  by_cases h0 : codeC net zs x = 0
  · obtain ⟨hv, hf, q, rfl, hq, hqm⟩ := codeC_zero h0
    have ok := NetOK.of hv
    have hm40 : m ≤ 40 := by have := ok.m40; have := h.pipes.len; omega
    have hqm2 : q < m := by have := h.pipes.len; omega
    have hpos : 0 < m := by omega
    have HR : Hid (rResidualBound net zs q = (rbd net zs (cycL net q) net.pipes.length, 0)) := Lib.hid (by unfold rResidualBound; rw [if_pos h0, Int.toNat_natCast])
    go_enter Tryz.func15, Tryz.ntmps15
    go_wp2_with fail
    refine (checkChord_is _ _ _ _ _ _ net _ _ _ zs _ _ _ (h.later HB.out) (hz.later HB.out) h0).mono ?_
    rintro e w1 ⟨rfl, b1⟩
    have t1 := below_step HB.out b1
    have s1 := b1
    obtain ⟨k0, k1⟩ := box_cells s1
    go_wp2_with fail
    refine (residualBound_any _ _ _ _ _ _ net _ _ _ zs q _ (h.later t1) (hz.later t1) hv hf hq).mono ?_
    rintro e w2 ⟨rfl, b2⟩
    clear k0 k1
    have t2 := below_step t1 b2
    have s2 := below_step s1 b2
    obtain ⟨k0, k1⟩ := box_cells s2
    go_wp2_with fail
    go_ret2
    exact ⟨by rw [HR.out]; rfl, t2⟩
  · obtain ⟨k, hk⟩ : ∃ k, codeC net zs x = k := ⟨_, rfl⟩
    rw [hk] at h0
    have hne : (k != 0) = true := by simp [h0]
    have hne2 : (k == 0) = false := by simp [h0]
    have HR : Hid (rResidualBound net zs x = (0, k)) := Lib.hid (by unfold rResidualBound; rw [hk, if_neg h0])
    go_enter Tryz.func15, Tryz.ntmps15
    go_wp2_with fail
    refine (checkChord_is _ _ _ _ _ _ net _ _ _ zs _ _ _ (h.later HB.out) (hz.later HB.out) hk).mono ?_
    rintro e w1 ⟨rfl, b1⟩
    have t1 := below_step HB.out b1
    have s1 := b1
    obtain ⟨k0, k1⟩ := box_cells s1
    go_wp2_with fail
    go_ret2
    exact ⟨by rw [HR.out]; rfl, t1⟩

set_option maxRecDepth 100000 in
set_option maxHeartbeats 2000000 in
theorem specResidualBound_any (A : Option Addr) (n c : Nat) (B : Option Addr) (m d : Nat) (net : Net) (C : Option Addr) (l e : Nat) (zs : List Int) (x : Int) (w : World) (h : NetAt w A n c B m d net) (hz : Ints w C l e zs) (_hx : I64 x) :
    Calls Tryz.prog 16 #[.agg #[.slice A n c, .slice B m d], .slice C l e, .int .i64 x] w fun e w' => e = .returned (.tuple #[.int .i64 (rResidualBound net zs x).1, .int .i64 (rResidualBound net zs x).2]) ∧ Below w.heap.size w w' := by
  have HB := Lib.hid (bel1 w (.cells #[.slice A n c, .slice B m d] 27))
  by_cases h0 : codeC net zs x = 0
  · obtain ⟨hv, hf, q, rfl, hq, hqm⟩ := codeC_zero h0
    have ok := NetOK.of hv
    have hm40 : m ≤ 40 := by have := ok.m40; have := h.pipes.len; omega
    have hqm2 : q < m := by have := h.pipes.len; omega
    have hpos : 0 < m := by omega
    have HR : Hid (rResidualBound net zs q = (rbd net zs (cycL net q) net.pipes.length, 0)) := Lib.hid (by unfold rResidualBound; rw [if_pos h0, Int.toNat_natCast])
    go_enter Tryz.func16, Tryz.ntmps16
    go_wp2_with fail
    refine (l10Code_is _ _ _ _ _ _ net _ _ _ zs _ _ _ (h.later HB.out) (hz.later HB.out) h0).mono ?_
    rintro e w1 ⟨rfl, b1⟩
    have t1 := below_step HB.out b1
    have s1 := b1
    obtain ⟨k0, k1⟩ := box_cells s1
    go_wp2_with fail
    have lt0 := World.block_lt_of_cell? _ _ k0
    simp only at lt0
    apply wp_region_track [16, 17, 18, 19, 20] [eqv _, eqv _, eqv _, eqv _, isRow w1.heap.size m m (cycL net q)]
      (fun w' => Below w1.heap.size w1 w') Grw (by kernel_rfl) (by kernel_rfl) rfl (by kernel_rfl)
    case hs =>
      refine ⟨?_, ?_, ?_, ?_, ?_, trivial⟩
      · intro ev wt ht hc hg hf hI hd
        have e3 : ev (.tmp 3) = .pointer (some ⟨w.heap.size, 0, none⟩) := ht 3 (by decide)
        have y0 := (hI.cell (p := ⟨w.heap.size, 0, none⟩) lt0).trans k0
        have y1 := (hI.cell (p := ⟨w.heap.size, 1, none⟩) lt0).trans k1
        refine opok_gen fun N hN => ?_
        clear hd ht
        go_simp
        exact hN.out _ _ ⟨hI, Below.refl _ _, rfl⟩
      · intro ev wt ht hc hg hf hI hd
        have e1 : ev (.tmp 1) = .slice C l e := ht 1 (by decide)
        exact opok_move _ rfl ⟨hI, Below.refl _ _, e1⟩
      · intro ev wt ht hc hg hf hI hd
        have e3 : ev (.tmp 3) = .pointer (some ⟨w.heap.size, 0, none⟩) := ht 3 (by decide)
        have y0 := (hI.cell (p := ⟨w.heap.size, 0, none⟩) lt0).trans k0
        have y1 := (hI.cell (p := ⟨w.heap.size, 1, none⟩) lt0).trans k1
        refine opok_gen fun N hN => ?_
        clear hd ht
        go_simp
        exact hN.out _ _ ⟨hI, Below.refl _ _, rfl⟩
      · intro ev wt ht hc hg hf hI hd
        have e2 : ev (.tmp 2) = .int .i64 q := ht 2 (by decide)
        exact opok_move _ rfl ⟨hI, Below.refl _ _, e2⟩
      · intro ev wt ht hc hg hf hI hd
        have e18 : ev (.tmp 18) = _ := hd 2 18 rfl rfl
        have e19 : ev (.tmp 19) = _ := hd 3 19 rfl rfl
        refine opok_gen fun N hN => ?_
        clear hd ht
        go_simp
        refine (l05Cycle_any _ _ _ _ _ _ net q _ (h.later (below_step t1 hI)) ok hq).mono ?_
        rintro e wz ⟨Ay, rfl, oy, fy, bz_⟩
        obtain ⟨gy, rfl, hgy⟩ := oy.pos (by omega)
        have hfy : wt.heap.size ≤ gy := fy _ rfl
        have hIs := hI.size
        exact ⟨_, rfl, hN.out _ _ ⟨below_step hI bz_, bz_, ⟨gy, rfl, oy, by omega⟩⟩⟩
    case hst =>
      refine fun j v w w' _ h1 h2 => StbL.nth (S := Grw) ?_ j v w w' h1 h2
      exact ⟨stb_eqv _, stb_eqv _, stb_eqv _, stb_eqv _, stb_row, trivial⟩
    case hI => exact (Below.refl _ _).drew
    case hl =>
      rintro wt hI _ rfl _ rfl _ rfl _ rfl _ ⟨gy, rfl, oy, hfy⟩
      simp only [Lasts, List.length_cons, List.length_nil, Nat.reduceAdd, List.drop_succ_cons, List.drop_zero, Act.put, List.setIfInBounds_toArray, List.set_cons_succ, List.set_cons_zero]
      have t2 := below_step t1 hI
      clear k0 k1
      go_wp2_with fail
      refine (l10Bound_any _ _ _ _ _ _ net _ _ _ zs _ _ _ _ _ (h.later t2) (hz.later t2) oy.ints hv hf (cycL_cyc ok hq)).mono ?_
      rintro e w3 ⟨rfl, b3⟩
      have t3 := below_step t2 b3
      go_wp2_with fail
      go_ret2
      exact ⟨by rw [HR.out]; rfl, t3⟩
  · obtain ⟨k, hk⟩ : ∃ k, codeC net zs x = k := ⟨_, rfl⟩
    rw [hk] at h0
    have hne : (k != 0) = true := by simp [h0]
    have hne2 : (k == 0) = false := by simp [h0]
    have HR : Hid (rResidualBound net zs x = (0, k)) := Lib.hid (by unfold rResidualBound; rw [hk, if_neg h0])
    go_enter Tryz.func16, Tryz.ntmps16
    go_wp2_with fail
    refine (l10Code_is _ _ _ _ _ _ net _ _ _ zs _ _ _ (h.later HB.out) (hz.later HB.out) hk).mono ?_
    rintro e w1 ⟨rfl, b1⟩
    have t1 := below_step HB.out b1
    have s1 := b1
    obtain ⟨k0, k1⟩ := box_cells s1
    go_wp2_with fail
    go_ret2
    exact ⟨by rw [HR.out]; rfl, t1⟩

end Go.Proofs.YtllblmndoigdlaaGreat
