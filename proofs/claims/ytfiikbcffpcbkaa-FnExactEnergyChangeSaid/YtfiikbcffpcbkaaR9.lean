/- energyChange; residuals of one chord -/
import Derived.Test.YtfiikbcffpcbkaaR5
import Derived.Test.YtfiikbcffpcbkaaR8
import Derived.Test.YtfiikbcffpcbkaaF6
namespace Go.Proofs.Ytfiikbcffpcbkaa
open Go.RowKit

theorem w64_id {z : Int} (h : I64 z) : wrap64 z = z := by unfold I64 at h; unfold wrap64; omega

set_option maxRecDepth 100000 in
set_option maxHeartbeats 4000000 in
theorem energyChange_any (A : Option Addr) (n c : Nat) (B : Option Addr) (m d : Nat) (net : Net) (C : Option Addr) (l e : Nat) (zs : List Int) (C2 : Option Addr) (l2 e2 : Nat) (cs : List Int) (a : Int) (w : World) (h : NetAt w A n c B m d net) (hz : Ints w C l e zs) (hz2 : Ints w C2 l2 e2 cs) (hv : netB net = true) (hf : flowB net zs = true) (hc : Cyc net cs) (ha : -100000 ≤ a ∧ a ≤ 100000) :
    Calls Try.prog 90 #[.agg #[.slice A n c, .slice B m d], .slice C l e, .slice C2 l2 e2, .int .i64 a] w fun e w' => e = .returned (.tuple #[.int .i64 (chgR net zs cs a).1, .bool (chgR net zs cs a).2]) ∧ Below w.heap.size w w' := by
  have HB := Lib.hid (bel1 w (.cells #[.slice A n c, .slice B m d] 27))
  have hlm : l = m := by have := flowB_len hf; have := h.pipes.len; have := hz.len; omega
  have hl2m : l2 = m := by have := hc.len; have := h.pipes.len; have := hz2.len; omega
  subst hlm
  subst hl2m
  have hm40 : l2 ≤ 40 := by have := (netB_sizes hv).2.2; have := h.pipes.len; omega
  have HM := Lib.hid h.pipes.len
  have HS := Lib.hid hf
  have HV := Lib.hid hv
  have HC := Lib.hid hc
  have hple := h.pipes.le
  have hpcap := h.pipes.cap
  have hzle := hz.le
  have hzcap := hz.cap
  clear hf hv hc
  have bx0 : BX (w.alloc (.cells #[.slice A n c, .slice B l2 d] 27)) w.heap.size A n c B l2 d := ⟨heap_alloc_new w _⟩
  obtain ⟨W, hW⟩ : ∃ W, W = w.alloc (.cells #[.slice A n c, .slice B l2 d] 27) := ⟨_, rfl⟩
  have hWs : W.heap.size = w.heap.size + 1 := by rw [hW]; simp
  go_enter Try.func90, Try.ntmps90
  go_wp2_with fail
  rw [← hW] at bx0 HB ⊢
  clear hW
  go_loopw [10, 16] (fun s i wr => ∃ k : Nat, k ≤ l2 ∧ s = .int .i64 (chg net zs cs a k) ∧ i = .int .i64 k ∧ okK zs cs a k = true ∧ Below W.heap.size W wr) (fun _ i _ => l2 - (intOf i).toNat)
  case atStart => exact ⟨0, by omega, rfl, rfl, rfl, Below.refl _ _⟩
  case round =>
    obtain ⟨k, hk, rfl, rfl, hok, hb⟩ := hrel
    have hbw := below_step HB.out hb
    by_cases hlt : k < l2
    · obtain ⟨b2, off2, rfl, hbl2, hc2⟩ := (hz2.later hbw).cells (by omega)
      have hck2 := hc2 k hlt
      clear hc2
      have HT := Lib.hid (chg_succ net zs cs a k)
      have HO := Lib.hid (okK_succ zs cs a k)
      by_cases h0 : ig cs k = 0
      · have g0 : (ig cs k == 0) = true := by simp [h0]
        have HT2 : Hid (chg net zs cs a (k + 1) = chg net zs cs a k) := Lib.hid (by rw [HT.out]; unfold chT; rw [if_pos h0]; omega)
        have HO2 : Hid (okK zs cs a (k + 1) = true) := Lib.hid (by rw [HO.out, hok, h0]; rfl)
        rw [h0] at hck2
        clear h0 g0 hok HT HO
        go_wp2_with fail
        go_roundw
        case rel => exact ⟨k + 1, by omega, by rw [HT2.out], by go_num, HO2.out, hb⟩
        case measure => simp [intOf]; omega
      · have g0 : (ig cs k == 0) = false := by simp [h0]
        obtain ⟨bz, offz, rfl, hblz, hcz⟩ := (hz.later hbw).cells (by omega)
        have hckz := hcz k hlt
        obtain ⟨bp, offp, rfl, hblp, hcp⟩ := (h.pipes.later hbw).cells (by omega)
        obtain ⟨c0, c1, c2, c3, c4⟩ := hcp k hlt
        clear hcz hcp
        have hu := HC.out.bnd k
        have hq := flowB_all HS.out k
        have hp : -100000 ≤ ig cs k * a ∧ ig cs k * a ≤ 100000 := by
          rcases HC.out.u k with h | h | h <;> rw [h] <;> omega
        have hk1 := netB_pipe_at HV.out (j := k) (by rw [HM.out]; omega)
        have hb1 := chg_bnd HV.out HS.out (k := k) (a := a) (cs := cs) (by rw [HM.out]; omega) hok
        have hbs := hb.size
        by_cases hin : -30000 ≤ ig zs k + ig cs k * a ∧ ig zs k + ig cs k * a ≤ 30000
        · have hinB : inB (ig zs k + ig cs k * a) (-30000) 30000 = true := inB_iff'.2 hin
          have HO2 : Hid (okK zs cs a (k + 1) = true) := Lib.hid (by rw [HO.out, hok, hinB]; simp)
          have hb2 := chg_bnd HV.out HS.out (k := k + 1) (a := a) (cs := cs) (by rw [HM.out]; omega) HO2.out
          have ht := chT_bnd HV.out HS.out (m := k + 1) (by rw [HM.out]; omega) HO2.out (j := k) (by omega)
          have HT2 : Hid (chg net zs cs a (k + 1) = chg net zs cs a k + (enr (pp net.pipes k).k (ig zs k + ig cs k * a) - enr (pp net.pipes k).k (ig zs k))) := Lib.hid (by rw [HT.out]; unfold chT; rw [if_neg h0])
          have he1 := enr_bnd (k := (pp net.pipes k).k) (q := ig zs k + ig cs k * a) (by omega) (by omega) hin.1 hin.2
          have he2 := enr_bnd (k := (pp net.pipes k).k) (q := ig zs k) (by omega) (by omega) hq.1 hq.2
          rw [HT2.out] at hb2
          clear hok ht HT HO h0
          generalize ig cs k = Z at *
          generalize ig zs k = Q at *
          generalize chg net zs cs a k = G at *
          have kx := bx0.step hb
          have k0 := kx.c0
          have k1 := kx.c1
          have KX := Lib.hid kx
          go_wp2_with fail
          refine (within_is _ _ _ true _ hinB).mono ?_
          rintro e w' ⟨rfl, rfl⟩
          go_wp2_with fail
          apply wp_region_track [34, 35, 36, 37, 38, 39, 40, 41, 42, 43, 44, 45, 46, 47, 48, 49, 50, 51, 52] [eqv _, eqv _, eqv _, eqv _, eqv _, eqv _, eqv _, eqv _, eqv _, eqv _, eqv _, eqv _, eqv _, eqv _, eqv _, eqv _, eqv _, eqv _, eqv _]
            (fun w' => Below wr.heap.size wr w') Grw (by kernel_rfl) (by kernel_rfl) rfl (by kernel_rfl)
          case hs =>
            refine ⟨?_, ?_, ?_, ?_, ?_, ?_, ?_, ?_, ?_, ?_, ?_, ?_, ?_, ?_, ?_, ?_, ?_, ?_, ?_, trivial⟩
            · intro ev wt ht hc hg hf hI hd
              have e10 : ev (.tmp 10) = .int .i64 G := ht 10 (by decide)
              exact opok_move _ rfl ⟨hI, Below.refl _ _, e10⟩
            · intro ev wt ht hc hg hf hI hd
              have e4 : ev (.tmp 4) = .pointer (some ⟨w.heap.size, 0, none⟩) := ht 4 (by decide)
              refine opok_gen fun N hN => ?_
              clear hd ht
              go_simp
              exact hN.out _ _ ⟨hI, Below.refl _ _, rfl⟩
            · intro ev wt ht hc hg hf hI hd
              have e35 : ev (.tmp 35) = _ := hd 1 35 rfl rfl
              have y0 := (KX.out.step hI).c0
              have y1 := (KX.out.step hI).c1
              have yz := (hI.cell (p := ⟨bz, offz + k, none⟩) hblz).trans hckz
              have x0 := (hI.cell (p := ⟨bp, offp + k * 5, none⟩) hblp).trans c0
              have x1 := (hI.cell (p := ⟨bp, offp + k * 5 + 1, none⟩) hblp).trans c1
              have x2 := (hI.cell (p := ⟨bp, offp + k * 5 + 2, none⟩) hblp).trans c2
              have x3 := (hI.cell (p := ⟨bp, offp + k * 5 + 3, none⟩) hblp).trans c3
              have x4 := (hI.cell (p := ⟨bp, offp + k * 5 + 4, none⟩) hblp).trans c4
              refine opok_gen fun N hN => ?_
              clear hd ht
              go_simp
              exact hN.out _ _ ⟨hI, Below.refl _ _, rfl⟩
            · intro ev wt ht hc hg hf hI hd
              have e11 : ev (.tmp 11) = .int .i64 k := ht 11 (by decide)
              exact opok_move _ rfl ⟨hI, Below.refl _ _, e11⟩
            · intro ev wt ht hc hg hf hI hd
              have e36 : ev (.tmp 36) = _ := hd 2 36 rfl rfl
              have e37 : ev (.tmp 37) = _ := hd 3 37 rfl rfl
              refine opok_gen fun N hN => ?_
              clear hd ht
              go_simp
              exact hN.out _ _ ⟨hI, Below.refl _ _, rfl⟩
            · intro ev wt ht hc hg hf hI hd
              have e38 : ev (.tmp 38) = _ := hd 4 38 rfl rfl
              have y0 := (KX.out.step hI).c0
              have y1 := (KX.out.step hI).c1
              have yz := (hI.cell (p := ⟨bz, offz + k, none⟩) hblz).trans hckz
              have x0 := (hI.cell (p := ⟨bp, offp + k * 5, none⟩) hblp).trans c0
              have x1 := (hI.cell (p := ⟨bp, offp + k * 5 + 1, none⟩) hblp).trans c1
              have x2 := (hI.cell (p := ⟨bp, offp + k * 5 + 2, none⟩) hblp).trans c2
              have x3 := (hI.cell (p := ⟨bp, offp + k * 5 + 3, none⟩) hblp).trans c3
              have x4 := (hI.cell (p := ⟨bp, offp + k * 5 + 4, none⟩) hblp).trans c4
              refine opok_gen fun N hN => ?_
              clear hd ht
              go_simp
              exact hN.out _ _ ⟨hI, Below.refl _ _, rfl⟩
            · intro ev wt ht hc hg hf hI hd
              have e13 : ev (.tmp 13) = .int .i64 (Q + Z * a) := ht 13 (by decide)
              exact opok_move _ rfl ⟨hI, Below.refl _ _, e13⟩
            · intro ev wt ht hc hg hf hI hd
              have e39 : ev (.tmp 39) = _ := hd 5 39 rfl rfl
              have e40 : ev (.tmp 40) = _ := hd 6 40 rfl rfl
              refine opok_gen fun N hN => ?_
              clear hd ht
              go_simp
              refine (energyOf_any _ _ _ _ _ _ _ (by omega) (by omega)).mono ?_
              rintro e wz ⟨rfl, bz_⟩
              exact ⟨_, rfl, hN.out _ _ ⟨below_step hI bz_, bz_, rfl⟩⟩
            · intro ev wt ht hc hg hf hI hd
              have e4 : ev (.tmp 4) = .pointer (some ⟨w.heap.size, 0, none⟩) := ht 4 (by decide)
              refine opok_gen fun N hN => ?_
              clear hd ht
              go_simp
              exact hN.out _ _ ⟨hI, Below.refl _ _, rfl⟩
            · intro ev wt ht hc hg hf hI hd
              have e42 : ev (.tmp 42) = _ := hd 8 42 rfl rfl
              have y0 := (KX.out.step hI).c0
              have y1 := (KX.out.step hI).c1
              have yz := (hI.cell (p := ⟨bz, offz + k, none⟩) hblz).trans hckz
              have x0 := (hI.cell (p := ⟨bp, offp + k * 5, none⟩) hblp).trans c0
              have x1 := (hI.cell (p := ⟨bp, offp + k * 5 + 1, none⟩) hblp).trans c1
              have x2 := (hI.cell (p := ⟨bp, offp + k * 5 + 2, none⟩) hblp).trans c2
              have x3 := (hI.cell (p := ⟨bp, offp + k * 5 + 3, none⟩) hblp).trans c3
              have x4 := (hI.cell (p := ⟨bp, offp + k * 5 + 4, none⟩) hblp).trans c4
              refine opok_gen fun N hN => ?_
              clear hd ht
              go_simp
              exact hN.out _ _ ⟨hI, Below.refl _ _, rfl⟩
            · intro ev wt ht hc hg hf hI hd
              have e11 : ev (.tmp 11) = .int .i64 k := ht 11 (by decide)
              exact opok_move _ rfl ⟨hI, Below.refl _ _, e11⟩
            · intro ev wt ht hc hg hf hI hd
              have e43 : ev (.tmp 43) = _ := hd 9 43 rfl rfl
              have e44 : ev (.tmp 44) = _ := hd 10 44 rfl rfl
              refine opok_gen fun N hN => ?_
              clear hd ht
              go_simp
              exact hN.out _ _ ⟨hI, Below.refl _ _, rfl⟩
            · intro ev wt ht hc hg hf hI hd
              have e45 : ev (.tmp 45) = _ := hd 11 45 rfl rfl
              have y0 := (KX.out.step hI).c0
              have y1 := (KX.out.step hI).c1
              have yz := (hI.cell (p := ⟨bz, offz + k, none⟩) hblz).trans hckz
              have x0 := (hI.cell (p := ⟨bp, offp + k * 5, none⟩) hblp).trans c0
              have x1 := (hI.cell (p := ⟨bp, offp + k * 5 + 1, none⟩) hblp).trans c1
              have x2 := (hI.cell (p := ⟨bp, offp + k * 5 + 2, none⟩) hblp).trans c2
              have x3 := (hI.cell (p := ⟨bp, offp + k * 5 + 3, none⟩) hblp).trans c3
              have x4 := (hI.cell (p := ⟨bp, offp + k * 5 + 4, none⟩) hblp).trans c4
              refine opok_gen fun N hN => ?_
              clear hd ht
              go_simp
              exact hN.out _ _ ⟨hI, Below.refl _ _, rfl⟩
            · intro ev wt ht hc hg hf hI hd
              have e1 : ev (.tmp 1) = .slice (some ⟨bz, offz, none⟩) l2 e := ht 1 (by decide)
              exact opok_move _ rfl ⟨hI, Below.refl _ _, e1⟩
            · intro ev wt ht hc hg hf hI hd
              have e11 : ev (.tmp 11) = .int .i64 k := ht 11 (by decide)
              exact opok_move _ rfl ⟨hI, Below.refl _ _, e11⟩
            · intro ev wt ht hc hg hf hI hd
              have e47 : ev (.tmp 47) = _ := hd 13 47 rfl rfl
              have e48 : ev (.tmp 48) = _ := hd 14 48 rfl rfl
              refine opok_gen fun N hN => ?_
              clear hd ht
              go_simp
              exact hN.out _ _ ⟨hI, Below.refl _ _, rfl⟩
            · intro ev wt ht hc hg hf hI hd
              have e49 : ev (.tmp 49) = _ := hd 15 49 rfl rfl
              have y0 := (KX.out.step hI).c0
              have y1 := (KX.out.step hI).c1
              have yz := (hI.cell (p := ⟨bz, offz + k, none⟩) hblz).trans hckz
              have x0 := (hI.cell (p := ⟨bp, offp + k * 5, none⟩) hblp).trans c0
              have x1 := (hI.cell (p := ⟨bp, offp + k * 5 + 1, none⟩) hblp).trans c1
              have x2 := (hI.cell (p := ⟨bp, offp + k * 5 + 2, none⟩) hblp).trans c2
              have x3 := (hI.cell (p := ⟨bp, offp + k * 5 + 3, none⟩) hblp).trans c3
              have x4 := (hI.cell (p := ⟨bp, offp + k * 5 + 4, none⟩) hblp).trans c4
              refine opok_gen fun N hN => ?_
              clear hd ht
              go_simp
              exact hN.out _ _ ⟨hI, Below.refl _ _, rfl⟩
            · intro ev wt ht hc hg hf hI hd
              have e46 : ev (.tmp 46) = _ := hd 12 46 rfl rfl
              have e50 : ev (.tmp 50) = _ := hd 16 50 rfl rfl
              refine opok_gen fun N hN => ?_
              clear hd ht
              go_simp
              refine (energyOf_any _ _ _ _ _ _ _ (by omega) (by omega)).mono ?_
              rintro e wz ⟨rfl, bz_⟩
              exact ⟨_, rfl, hN.out _ _ ⟨below_step hI bz_, bz_, rfl⟩⟩
            · intro ev wt ht hc hg hf hI hd
              have e41 : ev (.tmp 41) = _ := hd 7 41 rfl rfl
              have e51 : ev (.tmp 51) = _ := hd 17 51 rfl rfl
              refine opok_gen fun N hN => ?_
              clear hd ht
              go_simp
              exact hN.out _ _ ⟨hI, Below.refl _ _, rfl⟩
          case hst =>
            refine fun j v w w' _ h1 h2 => StbL.nth (S := Grw) ?_ j v w w' h1 h2
            exact ⟨stb_eqv _, stb_eqv _, stb_eqv _, stb_eqv _, stb_eqv _, stb_eqv _, stb_eqv _, stb_eqv _, stb_eqv _, stb_eqv _, stb_eqv _, stb_eqv _, stb_eqv _, stb_eqv _, stb_eqv _, stb_eqv _, stb_eqv _, stb_eqv _, stb_eqv _, trivial⟩
          case hI => exact (Below.refl _ _).drew
          case hl =>
            rintro wt hI _ rfl _ rfl _ rfl _ rfl _ rfl _ rfl _ rfl _ rfl _ rfl _ rfl _ rfl _ rfl _ rfl _ rfl _ rfl _ rfl _ rfl _ rfl _ rfl
            simp only [Lasts, List.length_cons, List.length_nil, Nat.reduceAdd, List.drop_succ_cons, List.drop_zero, Act.put, List.setIfInBounds_toArray, List.set_cons_succ, List.set_cons_zero]
            clear c0 c1 c2 c3 c4 hckz
            have hb3 := below_step hb hI
            go_wp2_with fail
            go_roundw
            case rel => exact ⟨k + 1, by omega, by rw [HT2.out], by go_num, HO2.out, hb3⟩
            case measure => simp [intOf]; omega
        · have hinB : inB (ig zs k + ig cs k * a) (-30000) 30000 = false := by
            cases hx : inB (ig zs k + ig cs k * a) (-30000) 30000
            · rfl
            · exact absurd (inB_iff'.1 hx) hin
          have HR : Hid (chgR net zs cs a = (0, false)) := Lib.hid (by unfold chgR; rw [okK_no (by rw [HM.out]; exact hlt) h0 hinB]; rfl)
          clear hok HT HO h0 hin
          generalize ig cs k = Z at *
          generalize ig zs k = Q at *
          generalize chg net zs cs a k = G at *
          go_wp2_with fail
          refine (within_is _ _ _ false _ hinB).mono ?_
          rintro e w' ⟨rfl, rfl⟩
          go_wp2_with fail
          go_ret2
          exact ⟨by rw [HR.out]; rfl, hbw⟩
    · have hkl : l2 = k := by omega
      have HR : Hid (chgR net zs cs a = (chg net zs cs a k, true)) := Lib.hid (by unfold chgR; rw [HM.out, hkl, hok]; rfl)
      clear hkl hok
      generalize chg net zs cs a k = G at *
      go_wp2_with fail
      go_ret2
      exact ⟨by rw [HR.out]; rfl, hbw⟩

set_option maxRecDepth 100000 in
set_option maxHeartbeats 4000000 in
theorem residualOf_any (A : Option Addr) (n c : Nat) (B : Option Addr) (m d : Nat) (net : Net) (C : Option Addr) (l e : Nat) (zs : List Int) (q : Nat) (w : World) (h : NetAt w A n c B m d net) (hz : Ints w C l e zs) (hv : netB net = true) (hf : flowB net zs = true) (hq : q ∈ (netG net).chords) :
    Calls Try.prog 114 #[.agg #[.slice A n c, .slice B m d], .slice C l e, .int .i64 (q : Int)] w fun e w' => e = .returned (.int .i64 (res net zs (cycL net q) net.pipes.length)) ∧ Below w.heap.size w w' := by
  have HB := Lib.hid (bel1 w (.cells #[.slice A n c, .slice B m d] 27))
  have ok := NetOK.of hv
  have hlm : l = m := by have := flowB_len hf; have := h.pipes.len; have := hz.len; omega
  subst hlm
  have hm40 : l ≤ 40 := by have := (netB_sizes hv).2.2; have := h.pipes.len; omega
  have HM := Lib.hid h.pipes.len
  have HS := Lib.hid hf
  have HV := Lib.hid hv
  have HQ := Lib.hid hq
  have HC := Lib.hid (cycL_cyc ok hq)
  have hple := h.pipes.le
  have hpcap := h.pipes.cap
  have hzle := hz.le
  have hzcap := hz.cap
  clear hf hv hq
  have bx0 : BX (w.alloc (.cells #[.slice A n c, .slice B l d] 27)) w.heap.size A n c B l d := ⟨heap_alloc_new w _⟩
  obtain ⟨W, hW⟩ : ∃ W, W = w.alloc (.cells #[.slice A n c, .slice B l d] 27) := ⟨_, rfl⟩
  go_enter Try.func114, Try.ntmps114
  go_wp2_with fail
  rw [← hW] at bx0 HB ⊢
  clear hW
  refine (cycleOf_any _ _ _ _ _ _ net q _ (h.later HB.out) ok HQ.out).mono ?_
  rintro e w1 ⟨Ac, rfl, oc, fc, b1⟩
  have bx1 := bx0.step b1
  have T1 := Lib.hid (below_step HB.out b1)
  clear bx0 b1 fc
  obtain ⟨cs, hcs⟩ : ∃ cs, cycL net q = cs := ⟨_, rfl⟩
  rw [hcs] at oc HC
  have HCS := Lib.hid hcs
  clear hcs
  go_wp2_with fail
  go_loopw [7, 14] (fun s i wr => ∃ k : Nat, k ≤ l ∧ s = .int .i64 (res net zs cs k) ∧ i = .int .i64 k ∧ Below w1.heap.size w1 wr) (fun _ i _ => l - (intOf i).toNat)
  case atStart => exact ⟨0, by omega, rfl, rfl, Below.refl _ _⟩
  case round =>
    obtain ⟨k, hk, rfl, rfl, hb⟩ := hrel
    have hbw := below_step T1.out hb
    by_cases hlt : k < l
    · have oc1 := oc.later hb
      obtain ⟨gc, rfl, hgc⟩ := oc1.pos (by omega)
      have cc := oc1.cell hlt
      obtain ⟨bz, offz, rfl, hblz, hcz⟩ := (hz.later hbw).cells (by omega)
      have hckz := hcz k hlt
      obtain ⟨bp, offp, rfl, hblp, hcp⟩ := (h.pipes.later hbw).cells (by omega)
      obtain ⟨c0, c1, c2, c3, c4⟩ := hcp k hlt
      clear hcz hcp oc1
      have hq1 := flowB_all HS.out k
      have hk1 := netB_pipe_at HV.out (j := k) (by rw [HM.out]; omega)
      have ht : -900000000000 ≤ ig cs k * drp (pp net.pipes k).k (ig zs k) ∧ ig cs k * drp (pp net.pipes k).k (ig zs k) ≤ 900000000000 := resT_bnd HV.out HS.out HC.out k
      have hr1 := res_bnd HV.out HS.out HC.out k (by omega)
      have HT := Lib.hid (res_succ net zs cs k)
      have hdF : drp (pp net.pipes k).k (ig zs k) = drF net zs k := rfl
      have hdb := drF_bnd HV.out HS.out k
      have kx := bx1.step hb
      have k0 := kx.c0
      have k1 := kx.c1
      have hub := HC.out.bnd k
      have KX := Lib.hid kx
      generalize ig cs k = Z at *
      generalize res net zs cs k = G at *
      go_wp2_with fail
      apply wp_region_track [19, 20, 21, 22, 23, 24, 25, 26, 27, 28, 29, 30, 31] [eqv _, eqv _, eqv _, eqv _, eqv _, eqv _, eqv _, eqv _, eqv _, eqv _, eqv _, eqv _, eqv _]
        (fun w' => Below wr.heap.size wr w') Grw (by kernel_rfl) (by kernel_rfl) rfl (by kernel_rfl)
      case hs =>
        refine ⟨?_, ?_, ?_, ?_, ?_, ?_, ?_, ?_, ?_, ?_, ?_, ?_, ?_, trivial⟩
        · intro ev wt ht hc hg hf hI hd
          have e7 : ev (.tmp 7) = .int .i64 G := ht 7 (by decide)
          exact opok_move _ rfl ⟨hI, Below.refl _ _, e7⟩
        · intro ev wt ht hc hg hf hI hd
          have e9 : ev (.tmp 9) = .int .i64 Z := ht 9 (by decide)
          exact opok_move _ rfl ⟨hI, Below.refl _ _, e9⟩
        · intro ev wt ht hc hg hf hI hd
          have e3 : ev (.tmp 3) = .pointer (some ⟨w.heap.size, 0, none⟩) := ht 3 (by decide)
          refine opok_gen fun N hN => ?_
          clear hd ht
          go_simp
          exact hN.out _ _ ⟨hI, Below.refl _ _, rfl⟩
        · intro ev wt ht hc hg hf hI hd
          have e21 : ev (.tmp 21) = _ := hd 2 21 rfl rfl
          have y0 := (KX.out.step hI).c0
          have y1 := (KX.out.step hI).c1
          have yz := (hI.cell (p := ⟨bz, offz + k, none⟩) hblz).trans hckz
          have x0 := (hI.cell (p := ⟨bp, offp + k * 5, none⟩) hblp).trans c0
          have x1 := (hI.cell (p := ⟨bp, offp + k * 5 + 1, none⟩) hblp).trans c1
          have x2 := (hI.cell (p := ⟨bp, offp + k * 5 + 2, none⟩) hblp).trans c2
          have x3 := (hI.cell (p := ⟨bp, offp + k * 5 + 3, none⟩) hblp).trans c3
          have x4 := (hI.cell (p := ⟨bp, offp + k * 5 + 4, none⟩) hblp).trans c4
          refine opok_gen fun N hN => ?_
          clear hd ht
          go_simp
          exact hN.out _ _ ⟨hI, Below.refl _ _, rfl⟩
        · intro ev wt ht hc hg hf hI hd
          have e8 : ev (.tmp 8) = .int .i64 k := ht 8 (by decide)
          exact opok_move _ rfl ⟨hI, Below.refl _ _, e8⟩
        · intro ev wt ht hc hg hf hI hd
          have e22 : ev (.tmp 22) = _ := hd 3 22 rfl rfl
          have e23 : ev (.tmp 23) = _ := hd 4 23 rfl rfl
          refine opok_gen fun N hN => ?_
          clear hd ht
          go_simp
          exact hN.out _ _ ⟨hI, Below.refl _ _, rfl⟩
        · intro ev wt ht hc hg hf hI hd
          have e24 : ev (.tmp 24) = _ := hd 5 24 rfl rfl
          have y0 := (KX.out.step hI).c0
          have y1 := (KX.out.step hI).c1
          have yz := (hI.cell (p := ⟨bz, offz + k, none⟩) hblz).trans hckz
          have x0 := (hI.cell (p := ⟨bp, offp + k * 5, none⟩) hblp).trans c0
          have x1 := (hI.cell (p := ⟨bp, offp + k * 5 + 1, none⟩) hblp).trans c1
          have x2 := (hI.cell (p := ⟨bp, offp + k * 5 + 2, none⟩) hblp).trans c2
          have x3 := (hI.cell (p := ⟨bp, offp + k * 5 + 3, none⟩) hblp).trans c3
          have x4 := (hI.cell (p := ⟨bp, offp + k * 5 + 4, none⟩) hblp).trans c4
          refine opok_gen fun N hN => ?_
          clear hd ht
          go_simp
          exact hN.out _ _ ⟨hI, Below.refl _ _, rfl⟩
        · intro ev wt ht hc hg hf hI hd
          have e1 : ev (.tmp 1) = .slice (some ⟨bz, offz, none⟩) l e := ht 1 (by decide)
          exact opok_move _ rfl ⟨hI, Below.refl _ _, e1⟩
        · intro ev wt ht hc hg hf hI hd
          have e8 : ev (.tmp 8) = .int .i64 k := ht 8 (by decide)
          exact opok_move _ rfl ⟨hI, Below.refl _ _, e8⟩
        · intro ev wt ht hc hg hf hI hd
          have e26 : ev (.tmp 26) = _ := hd 7 26 rfl rfl
          have e27 : ev (.tmp 27) = _ := hd 8 27 rfl rfl
          refine opok_gen fun N hN => ?_
          clear hd ht
          go_simp
          exact hN.out _ _ ⟨hI, Below.refl _ _, rfl⟩
        · intro ev wt ht hc hg hf hI hd
          have e28 : ev (.tmp 28) = _ := hd 9 28 rfl rfl
          have y0 := (KX.out.step hI).c0
          have y1 := (KX.out.step hI).c1
          have yz := (hI.cell (p := ⟨bz, offz + k, none⟩) hblz).trans hckz
          have x0 := (hI.cell (p := ⟨bp, offp + k * 5, none⟩) hblp).trans c0
          have x1 := (hI.cell (p := ⟨bp, offp + k * 5 + 1, none⟩) hblp).trans c1
          have x2 := (hI.cell (p := ⟨bp, offp + k * 5 + 2, none⟩) hblp).trans c2
          have x3 := (hI.cell (p := ⟨bp, offp + k * 5 + 3, none⟩) hblp).trans c3
          have x4 := (hI.cell (p := ⟨bp, offp + k * 5 + 4, none⟩) hblp).trans c4
          refine opok_gen fun N hN => ?_
          clear hd ht
          go_simp
          exact hN.out _ _ ⟨hI, Below.refl _ _, rfl⟩
        · intro ev wt ht hc hg hf hI hd
          have e25 : ev (.tmp 25) = _ := hd 6 25 rfl rfl
          have e29 : ev (.tmp 29) = _ := hd 10 29 rfl rfl
          refine opok_gen fun N hN => ?_
          clear hd ht
          go_simp
          refine (dropOf_any _ _ _ _ _ _ _ (by omega) (by omega)).mono ?_
          rintro e wz ⟨rfl, bz_⟩
          exact ⟨_, rfl, hN.out _ _ ⟨below_step hI bz_, bz_, rfl⟩⟩
        · intro ev wt ht hc hg hf hI hd
          have e20 : ev (.tmp 20) = _ := hd 1 20 rfl rfl
          have e30 : ev (.tmp 30) = _ := hd 11 30 rfl rfl
          refine opok_gen fun N hN => ?_
          clear hd ht
          go_simp
          exact hN.out _ _ ⟨hI, Below.refl _ _, rfl⟩
      case hst =>
        refine fun j v w w' _ h1 h2 => StbL.nth (S := Grw) ?_ j v w w' h1 h2
        exact ⟨stb_eqv _, stb_eqv _, stb_eqv _, stb_eqv _, stb_eqv _, stb_eqv _, stb_eqv _, stb_eqv _, stb_eqv _, stb_eqv _, stb_eqv _, stb_eqv _, stb_eqv _, trivial⟩
      case hI => exact (Below.refl _ _).drew
      case hl =>
        rintro wt hI _ rfl _ rfl _ rfl _ rfl _ rfl _ rfl _ rfl _ rfl _ rfl _ rfl _ rfl _ rfl _ rfl
        simp only [Lasts, List.length_cons, List.length_nil, Nat.reduceAdd, List.drop_succ_cons, List.drop_zero, Act.put, List.setIfInBounds_toArray, List.set_cons_succ, List.set_cons_zero]
        clear c0 c1 c2 c3 c4 hckz
        have hb3 := below_step hb hI
        rw [hdF] at ht ⊢
        generalize drF net zs k = D at *
        have hw1 := w64_id (z := Z * D) ⟨by omega, by omega⟩
        have hw2 := w64_id (z := G + Z * D) ⟨by omega, by omega⟩
        have HT3 : Hid (res net zs cs (k + 1) = G + Z * D) := HT
        clear HT
        go_wp2_with fail
        go_roundw
        case rel => exact ⟨k + 1, by omega, by rw [HT3.out], by go_num, hb3⟩
        case measure => simp [intOf]; omega
    · have hkl : l = k := by omega
      have HR : Hid (res net zs cs net.pipes.length = res net zs cs k) := Lib.hid (by rw [HM.out, hkl])
      clear hkl
      go_wp2_with fail
      go_ret
      exact ⟨ret_int (by rw [HCS.out, HR.out]), hbw⟩

end Go.Proofs.Ytfiikbcffpcbkaa
