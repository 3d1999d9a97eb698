/- l10Code, l10Residual, ResidualOf, EnergyChange, AddCycle -/
import Derived.Test.YtfiikbcffpcbkaaR9
import Derived.Test.YtfiikbcffpcbkaaTrc
import Derived.Test.YtfiikbcffpcbkaaJ4
namespace Go.Proofs.Ytfiikbcffpcbkaa
open Go.RowKit

theorem l02Has_is (A : Option Addr) (n c : Nat) (zs : List Int) (x : Int) (b : Bool) (w : World) (h : Ints w A n c zs) (hb : decide (x ∈ zs) = b) :
    Calls Try.prog 115 #[.slice A n c, .int .i64 x] w fun e w' => e = .returned (.bool b) ∧ w = w' := by
  rw [← hb]; exact l02Has_any A n c zs x w h

set_option maxRecDepth 100000 in
set_option maxHeartbeats 2000000 in
theorem l10Code_is (A : Option Addr) (n c : Nat) (B : Option Addr) (m d : Nat) (net : Net) (C : Option Addr) (l e : Nat) (zs : List Int) (x r : Int) (w : World) (h : NetAt w A n c B m d net) (hz : Ints w C l e zs) (hr : codeC net zs x = r) :
    Calls Try.prog 81 #[.agg #[.slice A n c, .slice B m d], .slice C l e, .int .i64 x] w fun e w' => e = .returned (.int .i64 r) ∧ Below w.heap.size w w' := by
  have HB := Lib.hid (bel1 w (.cells #[.slice A n c, .slice B m d] 27))
  by_cases h0 : codeF net zs = 0
  · obtain ⟨hv, hs⟩ := codeF_zero h0
    have ok := NetOK.of hv
    have HR : Hid ((if chdB net x then 0 else 4) = r) := Lib.hid (by rw [← hr]; unfold codeC; rw [if_pos h0])
    clear hr
    rcases hb : chdB net x with _ | _
    · rw [hb] at HR
      have HR2 : Hid (4 = r) := Lib.hid HR.out
      clear HR
      go_enter Try.func81, Try.ntmps81
      go_wp2_with fail
      refine (l05Code_is _ _ _ _ _ _ _ _ _ net zs _ _ (h.later HB.out) (hz.later HB.out) h0).mono ?_
      rintro e w1 ⟨rfl, b1⟩
      have t1 := below_step HB.out b1
      have s1 := b1
      obtain ⟨k0, k1⟩ := box_cells s1
      go_wp2_with fail
      refine (l05Chords_any _ _ _ _ _ _ net _ (h.later t1) ok).mono ?_
      rintro e w2 ⟨Ac, cc, rfl, oc, fc, b2⟩
      clear k0 k1
      have t2 := below_step t1 b2
      have s2 := below_step s1 b2
      obtain ⟨k0, k1⟩ := box_cells s2
      go_wp2_with fail
      refine (l02Has_is _ _ _ _ _ _ _ oc.ints hb).mono ?_
      rintro e w' ⟨rfl, rfl⟩
      clear k0 k1
      obtain ⟨k0, k1⟩ := box_cells s2
      go_wp2_with fail
      go_ret
      exact ⟨ret_int HR2.out, t2⟩
    · rw [hb] at HR
      have HR2 : Hid (0 = r) := Lib.hid HR.out
      clear HR
      go_enter Try.func81, Try.ntmps81
      go_wp2_with fail
      refine (l05Code_is _ _ _ _ _ _ _ _ _ net zs _ _ (h.later HB.out) (hz.later HB.out) h0).mono ?_
      rintro e w1 ⟨rfl, b1⟩
      have t1 := below_step HB.out b1
      have s1 := b1
      obtain ⟨k0, k1⟩ := box_cells s1
      go_wp2_with fail
      refine (l05Chords_any _ _ _ _ _ _ net _ (h.later t1) ok).mono ?_
      rintro e w2 ⟨Ac, cc, rfl, oc, fc, b2⟩
      clear k0 k1
      have t2 := below_step t1 b2
      have s2 := below_step s1 b2
      obtain ⟨k0, k1⟩ := box_cells s2
      go_wp2_with fail
      refine (l02Has_is _ _ _ _ _ _ _ oc.ints hb).mono ?_
      rintro e w' ⟨rfl, rfl⟩
      clear k0 k1
      obtain ⟨k0, k1⟩ := box_cells s2
      go_wp2_with fail
      go_ret
      exact ⟨ret_int HR2.out, t2⟩
  · obtain ⟨k, hk⟩ : ∃ k, codeF net zs = k := ⟨_, rfl⟩
    have HR : Hid (k = r) := Lib.hid (by rw [← hr, ← hk]; unfold codeC; rw [if_neg h0])
    rw [hk] at h0
    clear hr
    have hne : (k == 0) = false := by simp [h0]
    go_enter Try.func81, Try.ntmps81
    go_wp2_with fail
    refine (l05Code_is _ _ _ _ _ _ _ _ _ net zs _ _ (h.later HB.out) (hz.later HB.out) hk).mono ?_
    rintro e w1 ⟨rfl, b1⟩
    have t1 := below_step HB.out b1
    have s1 := b1
    obtain ⟨k0, k1⟩ := box_cells s1
    go_wp2_with fail
    go_ret
    exact ⟨ret_int HR.out, t1⟩

set_option maxRecDepth 100000 in
set_option maxHeartbeats 4000000 in
theorem l10Residual_any (A : Option Addr) (n c : Nat) (B : Option Addr) (m d : Nat) (net : Net) (C : Option Addr) (l e : Nat) (zs : List Int) (C2 : Option Addr) (l2 e2 : Nat) (cs : List Int) (w : World) (h : NetAt w A n c B m d net) (hz : Ints w C l e zs) (hz2 : Ints w C2 l2 e2 cs) (hv : netB net = true) (hf : flowB net zs = true) (hc : Cyc net cs) :
    Calls Try.prog 116 #[.agg #[.slice A n c, .slice B m d], .slice C l e, .slice C2 l2 e2] w fun e w' => e = .returned (.int .i64 (res net zs cs net.pipes.length)) ∧ Below w.heap.size w w' := by
  have HB := Lib.hid (bel1 w (.cells #[.slice A n c, .slice B m d] 27))
  have hlm : l = m := by have := flowB_len hf; have := h.pipes.len; have := hz.len; omega
  have hl2m : l2 = m := by have := hc.len; have := h.pipes.len; have := hz2.len; omega
  subst hlm
  subst hl2m
  have hm40 : l2 ≤ 40 := by have := (netB_sizes hv).2.2; have := h.pipes.len; omega
  have HM := Lib.hid h.pipes.len
  have HS := Lib.hid hf
  have HV := Lib.hid hv
  have HC := Lib.hid hc
  have hzle := hz.le
  have hzcap := hz.cap
  clear hf hv hc
  have bx0 : BX (w.alloc (.cells #[.slice A n c, .slice B l2 d] 27)) w.heap.size A n c B l2 d := ⟨heap_alloc_new w _⟩
  obtain ⟨W, hW⟩ : ∃ W, W = w.alloc (.cells #[.slice A n c, .slice B l2 d] 27) := ⟨_, rfl⟩
  go_enter Try.func116, Try.ntmps116
  go_wp2_with fail
  rw [← hW] at bx0 HB ⊢
  clear hW
  go_loopw [7, 8] (fun s i wr => ∃ k : Nat, k ≤ l2 ∧ s = .int .i64 (res net zs cs k) ∧ i = .int .i64 k ∧ Below W.heap.size W wr) (fun _ i _ => l2 - (intOf i).toNat)
  case atStart => exact ⟨0, by omega, rfl, rfl, Below.refl _ _⟩
  case round =>
    obtain ⟨k, hk, rfl, rfl, hb⟩ := hrel
    have hbw := below_step HB.out hb
    by_cases hlt : k < l2
    · obtain ⟨bz, offz, rfl, hblz, hcz⟩ := (hz.later hbw).cells (by omega)
      have hckz := hcz k hlt
      obtain ⟨bc, offc, rfl, hblc, hcc⟩ := (hz2.later hbw).cells (by omega)
      have hckc := hcc k hlt
      clear hcz hcc
      have hki : (k : Int) < (l2 : Int) := by omega
      have hq1 := flowB_all HS.out k
      have hkq : 1 ≤ (pp net.pipes k).k ∧ (pp net.pipes k).k ≤ 1000 := by have := netB_pipe_at HV.out (j := k) (by rw [HM.out]; omega); omega
      have ht := resT_bnd HV.out HS.out HC.out k
      have hr1 := res_bnd HV.out HS.out HC.out k (by omega)
      have HT := Lib.hid (res_succ net zs cs k)
      have hdF : drp (pp net.pipes ((k : Int).toNat)).k (ig zs k) = drF net zs k := by rw [Int.toNat_natCast]; rfl
      have hdb := drF_bnd HV.out HS.out k
      have kx := bx0.step hb
      have k0 := kx.c0
      have k1 := kx.c1
      have lt0 := kx.lt
      have hub := HC.out.bnd k
      generalize ig cs k = Z at *
      generalize res net zs cs k = G at *
      have hw1 := w64_id (z := Z * drF net zs k) ⟨by omega, by omega⟩
      have hw2 := w64_id (z := G + Z * drF net zs k) ⟨by omega, by omega⟩
      go_wp2_with fail
      apply wp_region_track [15, 16, 17, 18, 19, 20, 21, 22, 23, 24, 25, 26, 27] [eqv _, eqv _, eqv _, eqv _, eqv _, eqv _, eqv _, eqv _, eqv _, eqv _, eqv _, eqv _, eqv _]
        (fun w' => Below wr.heap.size wr w') Grw (by kernel_rfl) (by kernel_rfl) rfl (by kernel_rfl)
      case hs =>
        refine ⟨?_, ?_, ?_, ?_, ?_, ?_, ?_, ?_, ?_, ?_, ?_, ?_, ?_, trivial⟩
        · intro ev wt ht hc hg hf hI hd
          have e7 : ev (.tmp 7) = .int .i64 G := ht 7 (by decide)
          exact opok_move _ rfl ⟨hI, Below.refl _ _, e7⟩
        · intro ev wt ht hc hg hf hI hd
          have e2 : ev (.tmp 2) = .slice (some ⟨bc, offc, none⟩) l2 e2 := ht 2 (by decide)
          exact opok_move _ rfl ⟨hI, Below.refl _ _, e2⟩
        · intro ev wt ht hc hg hf hI hd
          have e8 : ev (.tmp 8) = .int .i64 k := ht 8 (by decide)
          exact opok_move _ rfl ⟨hI, Below.refl _ _, e8⟩
        · intro ev wt ht hc hg hf hI hd
          have e16 : ev (.tmp 16) = _ := hd 1 16 rfl rfl
          have e17 : ev (.tmp 17) = _ := hd 2 17 rfl rfl
          refine opok_gen fun N hN => ?_
          clear hd ht
          go_simp
          exact hN.out _ _ ⟨hI, Below.refl _ _, rfl⟩
        · intro ev wt ht hc hg hf hI hd
          have e18 : ev (.tmp 18) = _ := hd 3 18 rfl rfl
          have y0 := (hI.cell (p := ⟨w.heap.size, 0, none⟩) lt0).trans k0
          have y1 := (hI.cell (p := ⟨w.heap.size, 1, none⟩) lt0).trans k1
          have yz := (hI.cell (p := ⟨bz, offz + k, none⟩) hblz).trans hckz
          have yc := (hI.cell (p := ⟨bc, offc + k, none⟩) hblc).trans hckc
          refine opok_gen fun N hN => ?_
          clear hd ht
          go_simp
          exact hN.out _ _ ⟨hI, Below.refl _ _, rfl⟩
        · intro ev wt ht hc hg hf hI hd
          have e3 : ev (.tmp 3) = .pointer (some ⟨w.heap.size, 0, none⟩) := ht 3 (by decide)
          have y0 := (hI.cell (p := ⟨w.heap.size, 0, none⟩) lt0).trans k0
          have y1 := (hI.cell (p := ⟨w.heap.size, 1, none⟩) lt0).trans k1
          have yz := (hI.cell (p := ⟨bz, offz + k, none⟩) hblz).trans hckz
          have yc := (hI.cell (p := ⟨bc, offc + k, none⟩) hblc).trans hckc
          refine opok_gen fun N hN => ?_
          clear hd ht
          go_simp
          exact hN.out _ _ ⟨hI, Below.refl _ _, rfl⟩
        · intro ev wt ht hc hg hf hI hd
          have e8 : ev (.tmp 8) = .int .i64 k := ht 8 (by decide)
          exact opok_move _ rfl ⟨hI, Below.refl _ _, e8⟩
        · intro ev wt ht hc hg hf hI hd
          have e1 : ev (.tmp 1) = .slice (some ⟨bz, offz, none⟩) l2 e := ht 1 (by decide)
          exact opok_move _ rfl ⟨hI, Below.refl _ _, e1⟩
        · intro ev wt ht hc hg hf hI hd
          have e8 : ev (.tmp 8) = .int .i64 k := ht 8 (by decide)
          exact opok_move _ rfl ⟨hI, Below.refl _ _, e8⟩
        · intro ev wt ht hc hg hf hI hd
          have e22 : ev (.tmp 22) = _ := hd 7 22 rfl rfl
          have e23 : ev (.tmp 23) = _ := hd 8 23 rfl rfl
          refine opok_gen fun N hN => ?_
          clear hd ht
          go_simp
          exact hN.out _ _ ⟨hI, Below.refl _ _, rfl⟩
        · intro ev wt ht hc hg hf hI hd
          have e24 : ev (.tmp 24) = _ := hd 9 24 rfl rfl
          have y0 := (hI.cell (p := ⟨w.heap.size, 0, none⟩) lt0).trans k0
          have y1 := (hI.cell (p := ⟨w.heap.size, 1, none⟩) lt0).trans k1
          have yz := (hI.cell (p := ⟨bz, offz + k, none⟩) hblz).trans hckz
          have yc := (hI.cell (p := ⟨bc, offc + k, none⟩) hblc).trans hckc
          refine opok_gen fun N hN => ?_
          clear hd ht
          go_simp
          exact hN.out _ _ ⟨hI, Below.refl _ _, rfl⟩
        · intro ev wt ht hc hg hf hI hd
          have e20 : ev (.tmp 20) = _ := hd 5 20 rfl rfl
          have e21 : ev (.tmp 21) = _ := hd 6 21 rfl rfl
          have e25 : ev (.tmp 25) = _ := hd 10 25 rfl rfl
          refine opok_gen fun N hN => ?_
          clear hd ht
          go_simp
          refine (l07Drop_any _ _ _ _ _ _ net _ _ _ (h.later (below_step hbw hI)) (by omega) (by simpa using hkq) hq1).mono ?_
          rintro e wz ⟨rfl, bz_⟩
          rw [hdF]
          exact ⟨_, rfl, hN.out _ _ ⟨below_step hI bz_, bz_, rfl⟩⟩
        · intro ev wt ht hc hg hf hI hd
          have e19 : ev (.tmp 19) = _ := hd 4 19 rfl rfl
          have e26 : ev (.tmp 26) = _ := hd 11 26 rfl rfl
          refine opok_gen fun N hN => ?_
          clear hd ht
          go_simp
          exact hN.out _ _ ⟨hI, Below.refl _ _, rfl⟩
      case hst =>
        refine fun j v w w' _ h1 h2 => StbL.nth (S := Grw) ?_ j v w w' h1 h2
        exact ⟨stb_eqv _, stb_eqv _, stb_eqv _, stb_eqv _, stb_eqv _, stb_eqv _, stb_eqv _, stb_eqv _, stb_eqv _, stb_eqv _, stb_eqv _, stb_eqv _, stb_eqv _, trivial⟩
      case hI => exact (Below.refl _ _).drew
      case hl =>
        rintro wt hI _ rfl _ rfl _ rfl _ rfl _ rfl _ rfl _ rfl _ rfl _ rfl _ rfl _ rfl _ rfl _ rfl
        simp only [Lasts, List.length_cons, List.length_nil, Nat.reduceAdd, List.drop_succ_cons, List.drop_zero, Act.put, List.setIfInBounds_toArray, List.set_cons_succ, List.set_cons_zero]
        have hb3 := below_step hb hI

        go_wp2_with fail
        go_roundw
        case rel => exact ⟨k + 1, by omega, by rw [HT.out], by go_num, hb3⟩
        case measure => simp [intOf]; omega
    · have hkl : l2 = k := by omega
      have HR : Hid (res net zs cs net.pipes.length = res net zs cs k) := Lib.hid (by rw [HM.out, hkl])
      clear hkl
      have hki : ¬ (k : Int) < (l2 : Int) := by omega
      go_wp2_with fail
      go_ret
      exact ⟨ret_int (by rw [HR.out]), hbw⟩

set_option maxRecDepth 100000 in
set_option maxHeartbeats 2000000 in
theorem implResidualOf_any (A : Option Addr) (n c : Nat) (B : Option Addr) (m d : Nat) (net : Net) (C : Option Addr) (l e : Nat) (zs : List Int) (x : Int) (w : World) (h : NetAt w A n c B m d net) (hz : Ints w C l e zs) (_hx : I64 x) :
    Calls Try.prog 47 #[.agg #[.slice A n c, .slice B m d], .slice C l e, .int .i64 x] w fun e w' => e = .returned (.tuple #[.int .i64 (rResidualOf net zs x).1, .int .i64 (rResidualOf net zs x).2]) ∧ Below w.heap.size w w' := by
  have HB := Lib.hid (bel1 w (.cells #[.slice A n c, .slice B m d] 27))
  by_cases h0 : codeC net zs x = 0
  · obtain ⟨hv, hf, q, rfl, hq, hqm⟩ := codeC_zero h0
    have ok := NetOK.of hv
    have hm40 : m ≤ 40 := by have := ok.m40; have := h.pipes.len; omega
    have hqm2 : q < m := by have := h.pipes.len; omega
    have hpos : 0 < m := by omega
    have HR : Hid (rResidualOf net zs q = (res net zs (cycL net q) net.pipes.length, 0)) := Lib.hid (by unfold rResidualOf; rw [if_pos h0, Int.toNat_natCast])
    go_enter Try.func47, Try.ntmps47
    go_wp2_with fail
    refine (checkChord_is _ _ _ _ _ _ net _ _ _ zs _ _ _ (h.later HB.out) (hz.later HB.out) h0).mono ?_
    rintro e w1 ⟨rfl, b1⟩
    have t1 := below_step HB.out b1
    have s1 := b1
    obtain ⟨k0, k1⟩ := box_cells s1
    go_wp2_with fail
    refine (residualOf_any _ _ _ _ _ _ net _ _ _ zs q _ (h.later t1) (hz.later t1) hv hf hq).mono ?_
    rintro e w2 ⟨rfl, b2⟩
    clear k0 k1
    have t2 := below_step t1 b2
    have s2 := below_step s1 b2
    obtain ⟨k0, k1⟩ := box_cells s2
    go_wp2_with fail
    go_ret2
    exact ⟨by rw [HR.out]; rfl, t2⟩
  · obtain ⟨k, hk⟩ : ∃ k, codeC net zs x = k := ⟨_, rfl⟩
    rw [hk] at h0
    have hne : (k != 0) = true := by simp [h0]
    have hne2 : (k == 0) = false := by simp [h0]
    have HR : Hid (rResidualOf net zs x = (0, k)) := Lib.hid (by unfold rResidualOf; rw [hk, if_neg h0])
    go_enter Try.func47, Try.ntmps47
    go_wp2_with fail
    refine (checkChord_is _ _ _ _ _ _ net _ _ _ zs _ _ _ (h.later HB.out) (hz.later HB.out) hk).mono ?_
    rintro e w1 ⟨rfl, b1⟩
    have t1 := below_step HB.out b1
    have s1 := b1
    obtain ⟨k0, k1⟩ := box_cells s1
    go_wp2_with fail
    go_ret2
    exact ⟨by rw [HR.out]; rfl, t1⟩

set_option maxRecDepth 100000 in
set_option maxHeartbeats 4000000 in
theorem implEnergyChange_any (A : Option Addr) (n c : Nat) (B : Option Addr) (m d : Nat) (net : Net) (C : Option Addr) (l e : Nat) (zs : List Int) (x : Int) (a : Int) (w : World) (h : NetAt w A n c B m d net) (hz : Ints w C l e zs) (_hx : I64 x) (_ha : I64 a) :
    Calls Try.prog 25 #[.agg #[.slice A n c, .slice B m d], .slice C l e, .int .i64 x, .int .i64 a] w fun e w' => e = .returned (.tuple #[.int .i64 (rEnergyChange net zs x a).1, .int .i64 (rEnergyChange net zs x a).2]) ∧ Below w.heap.size w w' := by
  have HB := Lib.hid (bel1 w (.cells #[.slice A n c, .slice B m d] 27))
  by_cases h0 : codeC net zs x = 0
  · obtain ⟨hv, hf, q, rfl, hq, hqm⟩ := codeC_zero h0
    have ok := NetOK.of hv
    have hm40 : m ≤ 40 := by have := ok.m40; have := h.pipes.len; omega
    have hqm2 : q < m := by have := h.pipes.len; omega
    have hpos : 0 < m := by omega
    rcases hA : inB a (-30000) 30000 with _ | _
    · have HR : Hid (rEnergyChange net zs q a = (0, 2)) := Lib.hid (by unfold rEnergyChange; rw [if_pos h0, Int.toNat_natCast, hA]; rfl)
      go_enter Try.func25, Try.ntmps25
      go_wp2_with fail
      refine (checkChord_is _ _ _ _ _ _ net _ _ _ zs _ _ _ (h.later HB.out) (hz.later HB.out) h0).mono ?_
      rintro e w1 ⟨rfl, b1⟩
      have t1 := below_step HB.out b1
      have s1 := b1
      obtain ⟨k0, k1⟩ := box_cells s1
      go_wp2_with fail
      refine (within_is _ _ _ false _ hA).mono ?_
      rintro e w' ⟨rfl, rfl⟩
      clear k0 k1
      obtain ⟨k0, k1⟩ := box_cells s1
      go_wp2_with fail
      go_ret2
      exact ⟨by rw [HR.out]; rfl, t1⟩
    · have hab : -100000 ≤ a ∧ a ≤ 100000 := by have := inB_iff'.1 hA; omega
      rcases hO : okK zs (cycL net q) a net.pipes.length with _ | _
      · have HX : Hid (chgR net zs (cycL net q) a = (0, false)) := Lib.hid (by unfold chgR; rw [hO]; rfl)
        have HR : Hid (rEnergyChange net zs q a = (0, 5)) := Lib.hid (by unfold rEnergyChange; rw [if_pos h0, Int.toNat_natCast, hA, hO]; rfl)
        have HF := Lib.hid hf
        go_enter Try.func25, Try.ntmps25
        go_wp2_with fail
        refine (checkChord_is _ _ _ _ _ _ net _ _ _ zs _ _ _ (h.later HB.out) (hz.later HB.out) h0).mono ?_
        rintro e w1 ⟨rfl, b1⟩
        have t1 := below_step HB.out b1
        have s1 := b1
        obtain ⟨k0, k1⟩ := box_cells s1
        go_wp2_with fail
        refine (within_is _ _ _ true _ hA).mono ?_
        rintro e w' ⟨rfl, rfl⟩
        clear k0 k1
        obtain ⟨k0, k1⟩ := box_cells s1
        go_wp2_with fail
        have lt0 := World.block_lt_of_cell? _ _ k0
        simp only at lt0
        apply wp_region_trackC [24, 25, 26, 27, 28, 29, 30, 23, 31, 32, 11, 12] [eqv _, eqv _, eqv _, eqv _, isRow w1.heap.size m m (cycL net q), eqv _, eqv _, eqv _, eqv _, eqv _, eqv _, eqv _]
          (fun w' => Below w1.heap.size w1 w') Grw (by kernel_rfl) (by kernel_rfl) rfl (by kernel_rfl)
        case hs =>
          refine ⟨?_, ?_, ?_, ?_, ?_, ?_, ?_, ?_, ?_, ?_, ?_, ?_, trivial⟩
          · intro ev wt ht hc hg hf hI hd
            have e4 : ev (.tmp 4) = .pointer (some ⟨w.heap.size, 0, none⟩) := ht 4 (by decide)
            have y0 := (hI.cell (p := ⟨w.heap.size, 0, none⟩) lt0).trans k0
            have y1 := (hI.cell (p := ⟨w.heap.size, 1, none⟩) lt0).trans k1
            refine opok_gen fun N hN => ?_
            clear hd ht
            go_simp
            exact hN.out _ _ ⟨hI, Below.refl _ _, rfl⟩
          · intro ev wt ht hc hg hf hI hd
            have e1 : ev (.tmp 1) = .slice C l e := ht 1 (by decide)
            exact opok_move _ rfl ⟨hI, Below.refl _ _, e1⟩
          · intro ev wt ht hc hg hf hI hd
            have e4 : ev (.tmp 4) = .pointer (some ⟨w.heap.size, 0, none⟩) := ht 4 (by decide)
            have y0 := (hI.cell (p := ⟨w.heap.size, 0, none⟩) lt0).trans k0
            have y1 := (hI.cell (p := ⟨w.heap.size, 1, none⟩) lt0).trans k1
            refine opok_gen fun N hN => ?_
            clear hd ht
            go_simp
            exact hN.out _ _ ⟨hI, Below.refl _ _, rfl⟩
          · intro ev wt ht hc hg hf hI hd
            have e2 : ev (.tmp 2) = .int .i64 q := ht 2 (by decide)
            exact opok_move _ rfl ⟨hI, Below.refl _ _, e2⟩
          · intro ev wt ht hc hg hf hI hd
            have e26 : ev (.tmp 26) = _ := hd 2 26 rfl rfl
            have e27 : ev (.tmp 27) = _ := hd 3 27 rfl rfl
            refine opok_gen fun N hN => ?_
            clear hd ht
            go_simp
            refine (cycleOf_any _ _ _ _ _ _ net q _ (h.later (below_step t1 hI)) ok hq).mono ?_
            rintro e wz ⟨Ay, rfl, oy, fy, bz_⟩
            obtain ⟨gy, rfl, hgy⟩ := oy.pos (by omega)
            have hfy : wt.heap.size ≤ gy := fy _ rfl
            have hIs := hI.size
            exact ⟨_, rfl, hN.out _ _ ⟨below_step hI bz_, bz_, ⟨gy, rfl, oy, by omega⟩⟩⟩
          · intro ev wt ht hc hg hf hI hd
            have e3 : ev (.tmp 3) = .int .i64 a := ht 3 (by decide)
            exact opok_move _ rfl ⟨hI, Below.refl _ _, e3⟩
          · intro ev wt ht hc hg hf hI hd
            have e24 : ev (.tmp 24) = _ := hd 0 24 rfl rfl
            have e25 : ev (.tmp 25) = _ := hd 1 25 rfl rfl
            have e28 := hd 4 28 rfl rfl
            have e29 : ev (.tmp 29) = _ := hd 5 29 rfl rfl
            obtain ⟨gy, e28, oy, hfy⟩ := e28
            refine opok_gen fun N hN => ?_
            clear hd ht
            go_simp
            refine (energyChange_any _ _ _ _ _ _ net _ _ _ zs _ _ _ _ a _ (h.later (below_step t1 hI)) (hz.later (below_step t1 hI)) oy.ints hv HF.out (cycL_cyc ok hq) hab).mono ?_
            rintro e wz ⟨rfl, bz_⟩
            rw [HX.out]
            exact ⟨_, rfl, hN.out _ _ ⟨below_step hI bz_, bz_, rfl⟩⟩
          · intro ev wt ht hc hg hf hI hd
            have e30 : ev (.tmp 30) = _ := hd 6 30 rfl rfl
            exact opok_move _ rfl ⟨hI, Below.refl _ _, e30⟩
          · intro ev wt ht hc hg hf hI hd
            have e23 : ev (.tmp 23) = _ := hd 7 23 rfl rfl
            refine opok_gen fun N hN => ?_
            clear hd ht
            go_simp
            exact hN.out _ _ ⟨hI, Below.refl _ _, rfl⟩
          · intro ev wt ht hc hg hf hI hd
            have e23 : ev (.tmp 23) = _ := hd 7 23 rfl rfl
            refine opok_gen fun N hN => ?_
            clear hd ht
            go_simp
            exact hN.out _ _ ⟨hI, Below.refl _ _, rfl⟩
          · intro ev wt ht hc hg hf hI hd
            have e31 : ev (.tmp 31) = _ := hd 8 31 rfl rfl
            exact opok_assign _ rfl ⟨hI, Below.refl _ _, e31⟩
          · intro ev wt ht hc hg hf hI hd
            have e32 : ev (.tmp 32) = _ := hd 9 32 rfl rfl
            exact opok_assign _ rfl ⟨hI, Below.refl _ _, e32⟩
        case hst =>
          refine fun j v w w' _ h1 h2 => StbL.nth (S := Grw) ?_ j v w w' h1 h2
          exact ⟨stb_eqv _, stb_eqv _, stb_eqv _, stb_eqv _, stb_row, stb_eqv _, stb_eqv _, stb_eqv _, stb_eqv _, stb_eqv _, stb_eqv _, stb_eqv _, trivial⟩
        case hI => exact (Below.refl _ _).drew
        case hl =>
          rintro wt hI _ rfl _ rfl _ rfl _ rfl _ ⟨gy, rfl, oy, hfy⟩ _ rfl _ rfl _ rfl _ rfl _ rfl _ rfl _ rfl
          simp only [Lasts, List.length_cons, List.length_nil, Nat.reduceAdd, List.drop_succ_cons, List.drop_zero, Act.put, List.setIfInBounds_toArray, List.set_cons_succ, List.set_cons_zero]
          rw [wpList_none]
          have t2 := below_step t1 hI
          clear k0 k1
          go_wp2_with fail
          go_ret2
          exact ⟨by rw [HR.out]; rfl, t2⟩
      · have HX : Hid (chgR net zs (cycL net q) a = (chg net zs (cycL net q) a net.pipes.length, true)) := Lib.hid (by unfold chgR; rw [hO]; rfl)
        have HR : Hid (rEnergyChange net zs q a = (chg net zs (cycL net q) a net.pipes.length, 0)) := Lib.hid (by unfold rEnergyChange; rw [if_pos h0, Int.toNat_natCast, hA, hO]; rfl)
        clear hO
        generalize chg net zs (cycL net q) a net.pipes.length = GG at *
        have HF := Lib.hid hf
        go_enter Try.func25, Try.ntmps25
        go_wp2_with fail
        refine (checkChord_is _ _ _ _ _ _ net _ _ _ zs _ _ _ (h.later HB.out) (hz.later HB.out) h0).mono ?_
        rintro e w1 ⟨rfl, b1⟩
        have t1 := below_step HB.out b1
        have s1 := b1
        obtain ⟨k0, k1⟩ := box_cells s1
        go_wp2_with fail
        refine (within_is _ _ _ true _ hA).mono ?_
        rintro e w' ⟨rfl, rfl⟩
        clear k0 k1
        obtain ⟨k0, k1⟩ := box_cells s1
        go_wp2_with fail
        have lt0 := World.block_lt_of_cell? _ _ k0
        simp only at lt0
        apply wp_region_trackC [24, 25, 26, 27, 28, 29, 30, 23, 31, 32, 11, 12] [eqv _, eqv _, eqv _, eqv _, isRow w1.heap.size m m (cycL net q), eqv _, eqv _, eqv _, eqv _, eqv _, eqv _, eqv _]
          (fun w' => Below w1.heap.size w1 w') Grw (by kernel_rfl) (by kernel_rfl) rfl (by kernel_rfl)
        case hs =>
          refine ⟨?_, ?_, ?_, ?_, ?_, ?_, ?_, ?_, ?_, ?_, ?_, ?_, trivial⟩
          · intro ev wt ht hc hg hf hI hd
            have e4 : ev (.tmp 4) = .pointer (some ⟨w.heap.size, 0, none⟩) := ht 4 (by decide)
            have y0 := (hI.cell (p := ⟨w.heap.size, 0, none⟩) lt0).trans k0
            have y1 := (hI.cell (p := ⟨w.heap.size, 1, none⟩) lt0).trans k1
            refine opok_gen fun N hN => ?_
            clear hd ht
            go_simp
            exact hN.out _ _ ⟨hI, Below.refl _ _, rfl⟩
          · intro ev wt ht hc hg hf hI hd
            have e1 : ev (.tmp 1) = .slice C l e := ht 1 (by decide)
            exact opok_move _ rfl ⟨hI, Below.refl _ _, e1⟩
          · intro ev wt ht hc hg hf hI hd
            have e4 : ev (.tmp 4) = .pointer (some ⟨w.heap.size, 0, none⟩) := ht 4 (by decide)
            have y0 := (hI.cell (p := ⟨w.heap.size, 0, none⟩) lt0).trans k0
            have y1 := (hI.cell (p := ⟨w.heap.size, 1, none⟩) lt0).trans k1
            refine opok_gen fun N hN => ?_
            clear hd ht
            go_simp
            exact hN.out _ _ ⟨hI, Below.refl _ _, rfl⟩
          · intro ev wt ht hc hg hf hI hd
            have e2 : ev (.tmp 2) = .int .i64 q := ht 2 (by decide)
            exact opok_move _ rfl ⟨hI, Below.refl _ _, e2⟩
          · intro ev wt ht hc hg hf hI hd
            have e26 : ev (.tmp 26) = _ := hd 2 26 rfl rfl
            have e27 : ev (.tmp 27) = _ := hd 3 27 rfl rfl
            refine opok_gen fun N hN => ?_
            clear hd ht
            go_simp
            refine (cycleOf_any _ _ _ _ _ _ net q _ (h.later (below_step t1 hI)) ok hq).mono ?_
            rintro e wz ⟨Ay, rfl, oy, fy, bz_⟩
            obtain ⟨gy, rfl, hgy⟩ := oy.pos (by omega)
            have hfy : wt.heap.size ≤ gy := fy _ rfl
            have hIs := hI.size
            exact ⟨_, rfl, hN.out _ _ ⟨below_step hI bz_, bz_, ⟨gy, rfl, oy, by omega⟩⟩⟩
          · intro ev wt ht hc hg hf hI hd
            have e3 : ev (.tmp 3) = .int .i64 a := ht 3 (by decide)
            exact opok_move _ rfl ⟨hI, Below.refl _ _, e3⟩
          · intro ev wt ht hc hg hf hI hd
            have e24 : ev (.tmp 24) = _ := hd 0 24 rfl rfl
            have e25 : ev (.tmp 25) = _ := hd 1 25 rfl rfl
            have e28 := hd 4 28 rfl rfl
            have e29 : ev (.tmp 29) = _ := hd 5 29 rfl rfl
            obtain ⟨gy, e28, oy, hfy⟩ := e28
            refine opok_gen fun N hN => ?_
            clear hd ht
            go_simp
            refine (energyChange_any _ _ _ _ _ _ net _ _ _ zs _ _ _ _ a _ (h.later (below_step t1 hI)) (hz.later (below_step t1 hI)) oy.ints hv HF.out (cycL_cyc ok hq) hab).mono ?_
            rintro e wz ⟨rfl, bz_⟩
            rw [HX.out]
            exact ⟨_, rfl, hN.out _ _ ⟨below_step hI bz_, bz_, rfl⟩⟩
          · intro ev wt ht hc hg hf hI hd
            have e30 : ev (.tmp 30) = _ := hd 6 30 rfl rfl
            exact opok_move _ rfl ⟨hI, Below.refl _ _, e30⟩
          · intro ev wt ht hc hg hf hI hd
            have e23 : ev (.tmp 23) = _ := hd 7 23 rfl rfl
            refine opok_gen fun N hN => ?_
            clear hd ht
            go_simp
            exact hN.out _ _ ⟨hI, Below.refl _ _, rfl⟩
          · intro ev wt ht hc hg hf hI hd
            have e23 : ev (.tmp 23) = _ := hd 7 23 rfl rfl
            refine opok_gen fun N hN => ?_
            clear hd ht
            go_simp
            exact hN.out _ _ ⟨hI, Below.refl _ _, rfl⟩
          · intro ev wt ht hc hg hf hI hd
            have e31 : ev (.tmp 31) = _ := hd 8 31 rfl rfl
            exact opok_assign _ rfl ⟨hI, Below.refl _ _, e31⟩
          · intro ev wt ht hc hg hf hI hd
            have e32 : ev (.tmp 32) = _ := hd 9 32 rfl rfl
            exact opok_assign _ rfl ⟨hI, Below.refl _ _, e32⟩
        case hst =>
          refine fun j v w w' _ h1 h2 => StbL.nth (S := Grw) ?_ j v w w' h1 h2
          exact ⟨stb_eqv _, stb_eqv _, stb_eqv _, stb_eqv _, stb_row, stb_eqv _, stb_eqv _, stb_eqv _, stb_eqv _, stb_eqv _, stb_eqv _, stb_eqv _, trivial⟩
        case hI => exact (Below.refl _ _).drew
        case hl =>
          rintro wt hI _ rfl _ rfl _ rfl _ rfl _ ⟨gy, rfl, oy, hfy⟩ _ rfl _ rfl _ rfl _ rfl _ rfl _ rfl _ rfl
          simp only [Lasts, List.length_cons, List.length_nil, Nat.reduceAdd, List.drop_succ_cons, List.drop_zero, Act.put, List.setIfInBounds_toArray, List.set_cons_succ, List.set_cons_zero]
          rw [wpList_none]
          have t2 := below_step t1 hI
          clear k0 k1
          go_wp2_with fail
          go_ret2
          exact ⟨by rw [HR.out]; rfl, t2⟩
  · obtain ⟨k, hk⟩ : ∃ k, codeC net zs x = k := ⟨_, rfl⟩
    rw [hk] at h0
    have hne : (k != 0) = true := by simp [h0]
    have hne2 : (k == 0) = false := by simp [h0]
    have HR : Hid (rEnergyChange net zs x a = (0, k)) := Lib.hid (by unfold rEnergyChange; rw [hk, if_neg h0])
    go_enter Try.func25, Try.ntmps25
    go_wp2_with fail
    refine (checkChord_is _ _ _ _ _ _ net _ _ _ zs _ _ _ (h.later HB.out) (hz.later HB.out) hk).mono ?_
    rintro e w1 ⟨rfl, b1⟩
    have t1 := below_step HB.out b1
    have s1 := b1
    obtain ⟨k0, k1⟩ := box_cells s1
    go_wp2_with fail
    go_ret2
    exact ⟨by rw [HR.out]; rfl, t1⟩

set_option maxRecDepth 100000 in
set_option maxHeartbeats 4000000 in
theorem specEnergyChange_any (A : Option Addr) (n c : Nat) (B : Option Addr) (m d : Nat) (net : Net) (C : Option Addr) (l e : Nat) (zs : List Int) (x : Int) (a : Int) (w : World) (h : NetAt w A n c B m d net) (hz : Ints w C l e zs) (_hx : I64 x) (_ha : I64 a) :
    Calls Try.prog 22 #[.agg #[.slice A n c, .slice B m d], .slice C l e, .int .i64 x, .int .i64 a] w fun e w' => e = .returned (.tuple #[.int .i64 (rEnergyChange net zs x a).1, .int .i64 (rEnergyChange net zs x a).2]) ∧ Below w.heap.size w w' := by
  have HB := Lib.hid (bel1 w (.cells #[.slice A n c, .slice B m d] 27))
  by_cases h0 : codeC net zs x = 0
  · obtain ⟨hv, hf, q, rfl, hq, hqm⟩ := codeC_zero h0
    have ok := NetOK.of hv
    have hm40 : m ≤ 40 := by have := ok.m40; have := h.pipes.len; omega
    have hqm2 : q < m := by have := h.pipes.len; omega
    have hpos : 0 < m := by omega
    have HLM : Hid (l = m) := Lib.hid (by have := flowB_len hf; have := h.pipes.len; have := hz.len; omega)
    have HF := Lib.hid hf
    have HCY := Lib.hid (cycL_cyc ok hq)
    rcases hA : inB a (-30000) 30000 with _ | _
    · have HR : Hid (rEnergyChange net zs q a = (0, 2)) := Lib.hid (by unfold rEnergyChange; rw [if_pos h0, Int.toNat_natCast, hA]; rfl)
      go_enter Try.func22, Try.ntmps22
      go_wp2_with fail
      refine (l10Code_is _ _ _ _ _ _ net _ _ _ zs _ _ _ (h.later HB.out) (hz.later HB.out) h0).mono ?_
      rintro e w1 ⟨rfl, b1⟩
      have t1 := below_step HB.out b1
      have s1 := b1
      obtain ⟨k0, k1⟩ := box_cells s1
      go_wp2_with fail
      refine (l05Flow_is _ false _ hA).mono ?_
      rintro e w' ⟨rfl, rfl⟩
      clear k0 k1
      obtain ⟨k0, k1⟩ := box_cells s1
      go_wp2_with fail
      go_ret2
      exact ⟨by rw [HR.out]; rfl, t1⟩
    · have hab : -30000 ≤ a ∧ a ≤ 30000 := inB_iff'.1 hA
      rcases hO : okK zs (cycL net q) a net.pipes.length with _ | _
      · have hO2 : flowB net (addL zs (cycL net q) a) = false := by rw [flow_okK hf HCY.out.len, hO]
        have HR : Hid (rEnergyChange net zs q a = (0, 5)) := Lib.hid (by unfold rEnergyChange; rw [if_pos h0, Int.toNat_natCast, hA, hO]; rfl)
        clear hO
        go_enter Try.func22, Try.ntmps22
        go_wp2_with fail
        refine (l10Code_is _ _ _ _ _ _ net _ _ _ zs _ _ _ (h.later HB.out) (hz.later HB.out) h0).mono ?_
        rintro e w1 ⟨rfl, b1⟩
        have t1 := below_step HB.out b1
        have s1 := b1
        obtain ⟨k0, k1⟩ := box_cells s1
        go_wp2_with fail
        refine (l05Flow_is _ true _ hA).mono ?_
        rintro e w' ⟨rfl, rfl⟩
        clear k0 k1
        obtain ⟨k0, k1⟩ := box_cells s1
        go_wp2_with fail
        refine (l05Cycle_any _ _ _ _ _ _ net q _ (h.later t1) ok hq).mono ?_
        rintro e w3 ⟨Ay, rfl, oy, fy, b3⟩
        clear k0 k1
        have t3 := below_step t1 b3
        have s3 := below_step s1 b3
        obtain ⟨k0, k1⟩ := box_cells s3
        go_wp2_with fail
        refine (l05Add_any _ _ _ zs _ _ _ _ a _ (hz.later t3) oy.ints (by have := HLM.out; omega) (by have := HLM.out; omega) (fun j => by have := flowB_all HF.out j; omega) (fun j => by have := HCY.out.bnd j; omega) (by omega)).mono ?_
        rintro e w4 ⟨Aa, ca, rfl, oa, fa, b4⟩
        clear k0 k1
        have t4 := below_step t3 b4
        have s4 := below_step s3 b4
        obtain ⟨k0, k1⟩ := box_cells s4
        go_wp2_with fail
        refine (l05List_is _ _ _ _ _ _ _ _ _ net _ _ _ (h.later t4) oa.ints hO2).mono ?_
        rintro e w5 ⟨rfl, b5⟩
        clear k0 k1
        have t5 := below_step t4 b5
        have s5 := below_step s4 b5
        obtain ⟨k0, k1⟩ := box_cells s5
        go_wp2_with fail
        go_ret2
        exact ⟨by rw [HR.out]; rfl, t5⟩
      · have hO2 : flowB net (addL zs (cycL net q) a) = true := by rw [flow_okK hf HCY.out.len, hO]
        have HEE : Hid (chg net zs (cycL net q) a net.pipes.length = eng net.pipes (addL zs (cycL net q) a) l - eng net.pipes zs l) := Lib.hid (by rw [chg_eng (by rw [HCY.out.len, flowB_len hf]), HLM.out, h.pipes.len])
        obtain ⟨E1, hE1⟩ : ∃ E1, eng net.pipes (addL zs (cycL net q) a) l = E1 := ⟨_, rfl⟩
        obtain ⟨E2, hE2⟩ : ∃ E2, eng net.pipes zs l = E2 := ⟨_, rfl⟩
        have be1 := eng_bnd hv hO2 l (by have := HLM.out; have := h.pipes.len; omega)
        have be2 := eng_bnd hv hf l (by have := HLM.out; have := h.pipes.len; omega)
        rw [hE1] at be1
        rw [hE2] at be2
        have HE1 := Lib.hid hE1
        have HE2 := Lib.hid hE2
        rw [hE1, hE2] at HEE
        have HR : Hid (rEnergyChange net zs q a = (E1 - E2, 0)) := Lib.hid (by unfold rEnergyChange; rw [if_pos h0, Int.toNat_natCast, hA, hO, HEE.out]; rfl)
        clear hO HEE hE1 hE2
        go_enter Try.func22, Try.ntmps22
        go_wp2_with fail
        refine (l10Code_is _ _ _ _ _ _ net _ _ _ zs _ _ _ (h.later HB.out) (hz.later HB.out) h0).mono ?_
        rintro e w1 ⟨rfl, b1⟩
        have t1 := below_step HB.out b1
        have s1 := b1
        obtain ⟨k0, k1⟩ := box_cells s1
        go_wp2_with fail
        refine (l05Flow_is _ true _ hA).mono ?_
        rintro e w' ⟨rfl, rfl⟩
        clear k0 k1
        obtain ⟨k0, k1⟩ := box_cells s1
        go_wp2_with fail
        refine (l05Cycle_any _ _ _ _ _ _ net q _ (h.later t1) ok hq).mono ?_
        rintro e w3 ⟨Ay, rfl, oy, fy, b3⟩
        clear k0 k1
        have t3 := below_step t1 b3
        have s3 := below_step s1 b3
        obtain ⟨k0, k1⟩ := box_cells s3
        go_wp2_with fail
        refine (l05Add_any _ _ _ zs _ _ _ _ a _ (hz.later t3) oy.ints (by have := HLM.out; omega) (by have := HLM.out; omega) (fun j => by have := flowB_all HF.out j; omega) (fun j => by have := HCY.out.bnd j; omega) (by omega)).mono ?_
        rintro e w4 ⟨Aa, ca, rfl, oa, fa, b4⟩
        clear k0 k1
        have t4 := below_step t3 b4
        have s4 := below_step s3 b4
        obtain ⟨k0, k1⟩ := box_cells s4
        go_wp2_with fail
        refine (l05List_is _ _ _ _ _ _ _ _ _ net _ _ _ (h.later t4) oa.ints hO2).mono ?_
        rintro e w5 ⟨rfl, b5⟩
        clear k0 k1
        have t5 := below_step t4 b5
        have s5 := below_step s4 b5
        obtain ⟨k0, k1⟩ := box_cells s5
        go_wp2_with fail
        have lt0 := World.block_lt_of_cell? _ _ k0
        simp only at lt0
        apply wp_region_track [36, 37, 38, 39, 40, 41, 42] [eqv _, eqv _, eqv _, eqv _, eqv _, eqv _, eqv _]
          (fun w' => Below w5.heap.size w5 w') Grw (by kernel_rfl) (by kernel_rfl) rfl (by kernel_rfl)
        case hs =>
          refine ⟨?_, ?_, ?_, ?_, ?_, ?_, ?_, trivial⟩
          · intro ev wt ht hc hg hf hI hd
            have e4 : ev (.tmp 4) = .pointer (some ⟨w.heap.size, 0, none⟩) := ht 4 (by decide)
            have y0 := (hI.cell (p := ⟨w.heap.size, 0, none⟩) lt0).trans k0
            have y1 := (hI.cell (p := ⟨w.heap.size, 1, none⟩) lt0).trans k1
            refine opok_gen fun N hN => ?_
            clear hd ht
            go_simp
            exact hN.out _ _ ⟨hI, Below.refl _ _, rfl⟩
          · intro ev wt ht hc hg hf hI hd
            have e11 : ev (.tmp 11) = .slice Aa l ca := ht 11 (by decide)
            exact opok_move _ rfl ⟨hI, Below.refl _ _, e11⟩
          · intro ev wt ht hc hg hf hI hd
            have e36 : ev (.tmp 36) = _ := hd 0 36 rfl rfl
            have e37 : ev (.tmp 37) = _ := hd 1 37 rfl rfl
            refine opok_gen fun N hN => ?_
            clear hd ht
            go_simp
            refine (l10Energy_any _ _ _ _ _ _ net _ _ _ (addL zs (cycL net q) a) _ (h.later (below_step t5 hI)) ((oa.later b5).later hI).ints hv hO2).mono ?_
            rintro e wz ⟨rfl, bz_⟩
            rw [HE1.out]
            exact ⟨_, rfl, hN.out _ _ ⟨below_step hI bz_, bz_, rfl⟩⟩
          · intro ev wt ht hc hg hf hI hd
            have e4 : ev (.tmp 4) = .pointer (some ⟨w.heap.size, 0, none⟩) := ht 4 (by decide)
            have y0 := (hI.cell (p := ⟨w.heap.size, 0, none⟩) lt0).trans k0
            have y1 := (hI.cell (p := ⟨w.heap.size, 1, none⟩) lt0).trans k1
            refine opok_gen fun N hN => ?_
            clear hd ht
            go_simp
            exact hN.out _ _ ⟨hI, Below.refl _ _, rfl⟩
          · intro ev wt ht hc hg hf hI hd
            have e1 : ev (.tmp 1) = .slice C l e := ht 1 (by decide)
            exact opok_move _ rfl ⟨hI, Below.refl _ _, e1⟩
          · intro ev wt ht hc hg hf hI hd
            have e39 : ev (.tmp 39) = _ := hd 3 39 rfl rfl
            have e40 : ev (.tmp 40) = _ := hd 4 40 rfl rfl
            refine opok_gen fun N hN => ?_
            clear hd ht
            go_simp
            refine (l10Energy_any _ _ _ _ _ _ net _ _ _ zs _ (h.later (below_step t5 hI)) (hz.later (below_step t5 hI)) hv HF.out).mono ?_
            rintro e wz ⟨rfl, bz_⟩
            rw [HE2.out]
            exact ⟨_, rfl, hN.out _ _ ⟨below_step hI bz_, bz_, rfl⟩⟩
          · intro ev wt ht hc hg hf hI hd
            have e38 : ev (.tmp 38) = _ := hd 2 38 rfl rfl
            have e41 : ev (.tmp 41) = _ := hd 5 41 rfl rfl
            refine opok_gen fun N hN => ?_
            clear hd ht
            go_simp
            exact hN.out _ _ ⟨hI, Below.refl _ _, rfl⟩
        case hst =>
          refine fun j v w w' _ h1 h2 => StbL.nth (S := Grw) ?_ j v w w' h1 h2
          exact ⟨stb_eqv _, stb_eqv _, stb_eqv _, stb_eqv _, stb_eqv _, stb_eqv _, stb_eqv _, trivial⟩
        case hI => exact (Below.refl _ _).drew
        case hl =>
          rintro wt hI _ rfl _ rfl _ rfl _ rfl _ rfl _ rfl _ rfl
          simp only [Lasts, List.length_cons, List.length_nil, Nat.reduceAdd, List.drop_succ_cons, List.drop_zero, Act.put, List.setIfInBounds_toArray, List.set_cons_succ, List.set_cons_zero]
          have t6 := below_step t5 hI
          clear k0 k1
          go_wp2_with fail
          go_ret2
          exact ⟨by rw [HR.out]; show Ending.returned (.tuple #[.int .i64 (IntKind.i64.wrap (E1 - E2)), .int .i64 0]) = _; rw [wrap_id ⟨by omega, by omega⟩], t6⟩
  · obtain ⟨k, hk⟩ : ∃ k, codeC net zs x = k := ⟨_, rfl⟩
    rw [hk] at h0
    have hne : (k != 0) = true := by simp [h0]
    have hne2 : (k == 0) = false := by simp [h0]
    have HR : Hid (rEnergyChange net zs x a = (0, k)) := Lib.hid (by unfold rEnergyChange; rw [hk, if_neg h0])
    go_enter Try.func22, Try.ntmps22
    go_wp2_with fail
    refine (l10Code_is _ _ _ _ _ _ net _ _ _ zs _ _ _ (h.later HB.out) (hz.later HB.out) hk).mono ?_
    rintro e w1 ⟨rfl, b1⟩
    have t1 := below_step HB.out b1
    have s1 := b1
    obtain ⟨k0, k1⟩ := box_cells s1
    go_wp2_with fail
    go_ret2
    exact ⟨by rw [HR.out]; rfl, t1⟩

def addM (zs cs : List Int) (a : Int) (k : Nat) : List Int := mapTo zs.length (fun i => if i < k then ig zs i + a * ig cs i else ig cs i)
theorem addM_zero {zs cs : List Int} {a : Int} (h : cs.length = zs.length) : cs = addM zs cs a 0 := ext_ig (by rw [addM, mapTo_len, h]) fun j hj => by
  rw [addM, mapTo_ig (by omega)]; simp
theorem addM_set {zs cs : List Int} {a : Int} {k : Nat} : (addM zs cs a k).set k (ig zs k + a * ig cs k) = addM zs cs a (k + 1) := mapTo_set fun v _ => by
  by_cases e : k = v
  · subst e; rw [if_pos rfl, if_pos (by omega)]
  · rw [if_neg e]
    by_cases h : v < k
    · rw [if_pos h, if_pos (by omega)]
    · rw [if_neg h, if_neg (by omega)]
theorem addM_end {zs cs : List Int} {a : Int} {k : Nat} (h : zs.length ≤ k) : addM zs cs a k = addL zs cs a := List.map_congr_left fun v hv => by
  have := List.mem_range.1 hv
  rw [if_pos (by omega)]
theorem addM_at {zs cs : List Int} {a : Int} {k : Nat} (h : k < zs.length) : ig (addM zs cs a k) k = ig cs k := by rw [addM, mapTo_ig h, if_neg (by omega)]
theorem addM_len (zs cs : List Int) (a : Int) (k : Nat) : (addM zs cs a k).length = zs.length := mapTo_len _ _

set_option maxRecDepth 100000 in
set_option maxHeartbeats 4000000 in
theorem implAddCycle_any (A : Option Addr) (n c : Nat) (B : Option Addr) (m d : Nat) (net : Net) (C : Option Addr) (l e : Nat) (zs : List Int) (x : Int) (a : Int) (w : World) (h : NetAt w A n c B m d net) (hz : Ints w C l e zs) (_hx : I64 x) (_ha : I64 a) :
    Calls Try.prog 40 #[.agg #[.slice A n c, .slice B m d], .slice C l e, .int .i64 x, .int .i64 a] w fun e w' => RetLI w (rAddCycle net zs x a) e w' := by
  have HB := Lib.hid (bel1 w (.cells #[.slice A n c, .slice B m d] 27))
  by_cases h0 : codeF net zs = 0
  · obtain ⟨hv, hs⟩ := codeF_zero h0
    have ok := NetOK.of hv
    rcases hC : chdB net x with _ | _
    · have HR : Hid (rAddCycle net zs x a = ([], 4)) := Lib.hid (by unfold rAddCycle codeC; rw [if_pos h0, hC]; rfl)
      go_enter Try.func40, Try.ntmps40
      go_wp2_with fail
      refine (checkFlows_is _ _ _ _ _ _ _ _ _ net zs _ _ (h.later HB.out) (hz.later HB.out) h0).mono ?_
      rintro e w1 ⟨rfl, b1⟩
      have t1 := below_step HB.out b1
      have s1 := b1
      obtain ⟨k0, k1⟩ := box_cells s1
      go_wp2_with fail
      refine (chordsOf_any _ _ _ _ _ _ net _ (h.later t1) ok).mono ?_
      rintro e w2 ⟨Ac, cc, rfl, oc, fc, b2⟩
      clear k0 k1
      have t2 := below_step t1 b2
      have s2 := below_step s1 b2
      obtain ⟨k0, k1⟩ := box_cells s2
      go_wp2_with fail
      refine (slicesContains_any _ _ _ _ _ _ _ oc.ints hC).mono ?_
      rintro e w' ⟨rfl, rfl⟩
      clear k0 k1
      obtain ⟨k0, k1⟩ := box_cells s2
      go_wp2_with fail
      go_ret2
      exact retLI_nil rfl HR.out t2
    · obtain ⟨q, rfl, hq, hqm⟩ := chdB_nat hC
      have hm40 : m ≤ 40 := by have := ok.m40; have := h.pipes.len; omega
      have hqm2 : q < m := by have := h.pipes.len; omega
      have hpos : 0 < m := by omega
      have HLM : Hid (l = m) := Lib.hid (by have := flowB_len hs; have := h.pipes.len; have := hz.len; omega)
      have HF := Lib.hid hs
      have HCY := Lib.hid (cycL_cyc ok hq)
      rcases hA : inB a (-30000) 30000 with _ | _
      · have HR : Hid (rAddCycle net zs q a = ([], 2)) := Lib.hid (by unfold rAddCycle; rw [if_pos (codeC_of h0 hq), hA]; rfl)
        go_enter Try.func40, Try.ntmps40
        go_wp2_with fail
        refine (checkFlows_is _ _ _ _ _ _ _ _ _ net zs _ _ (h.later HB.out) (hz.later HB.out) h0).mono ?_
        rintro e w1 ⟨rfl, b1⟩
        have t1 := below_step HB.out b1
        have s1 := b1
        obtain ⟨k0, k1⟩ := box_cells s1
        go_wp2_with fail
        refine (chordsOf_any _ _ _ _ _ _ net _ (h.later t1) ok).mono ?_
        rintro e w2 ⟨Ac, cc, rfl, oc, fc, b2⟩
        clear k0 k1
        have t2 := below_step t1 b2
        have s2 := below_step s1 b2
        obtain ⟨k0, k1⟩ := box_cells s2
        go_wp2_with fail
        refine (slicesContains_any _ _ _ _ _ _ _ oc.ints hC).mono ?_
        rintro e w' ⟨rfl, rfl⟩
        clear k0 k1
        obtain ⟨k0, k1⟩ := box_cells s2
        go_wp2_with fail
        refine (within_is _ _ _ _ _ hA).mono ?_
        rintro e w' ⟨rfl, rfl⟩
        clear k0 k1
        obtain ⟨k0, k1⟩ := box_cells s2
        go_wp2_with fail
        go_ret2
        exact retLI_nil rfl HR.out t2
      · have hab : -30000 ≤ a ∧ a ≤ 30000 := inB_iff'.1 hA
        rcases hS : allB (addL zs (cycL net q) a) (-30000) 30000 with _ | _
        · have HR : Hid (rAddCycle net zs q a = ([], 2)) := Lib.hid (by unfold rAddCycle; rw [if_pos (codeC_of h0 hq), hA, if_pos rfl, Int.toNat_natCast, hS]; rfl)
          go_enter Try.func40, Try.ntmps40
          go_wp2_with fail
          refine (checkFlows_is _ _ _ _ _ _ _ _ _ net zs _ _ (h.later HB.out) (hz.later HB.out) h0).mono ?_
          rintro e w1 ⟨rfl, b1⟩
          have t1 := below_step HB.out b1
          have s1 := b1
          obtain ⟨k0, k1⟩ := box_cells s1
          go_wp2_with fail
          refine (chordsOf_any _ _ _ _ _ _ net _ (h.later t1) ok).mono ?_
          rintro e w2 ⟨Ac, cc, rfl, oc, fc, b2⟩
          clear k0 k1
          have t2 := below_step t1 b2
          have s2 := below_step s1 b2
          obtain ⟨k0, k1⟩ := box_cells s2
          go_wp2_with fail
          refine (slicesContains_any _ _ _ _ _ _ _ oc.ints hC).mono ?_
          rintro e w' ⟨rfl, rfl⟩
          clear k0 k1
          obtain ⟨k0, k1⟩ := box_cells s2
          go_wp2_with fail
          refine (within_is _ _ _ _ _ hA).mono ?_
          rintro e w' ⟨rfl, rfl⟩
          clear k0 k1
          obtain ⟨k0, k1⟩ := box_cells s2
          go_wp2_with fail
          refine (cycleOf_any _ _ _ _ _ _ net q _ (h.later t2) ok hq).mono ?_
          rintro e w5 ⟨Ay, rfl, oy, fy, b5⟩
          clear k0 k1
          have t5 := below_step t2 b5
          have s5 := below_step s2 b5
          obtain ⟨k0, k1⟩ := box_cells s5
          obtain ⟨gy, rfl, hgy⟩ := oy.pos (by omega)
          have hgyw : w.heap.size ≤ gy := by have := fy _ rfl; simp only at this; have := t2.size; omega
          obtain ⟨cs, hcs⟩ : ∃ cs, cycL net q = cs := ⟨_, rfl⟩
          rw [hcs] at oy HCY hS
          try rw [hcs] at HR
          have HSS := Lib.hid hS
          clear hcs k0 k1 hS fy
          have hzlen := hz.len
          have hcl : cs.length = zs.length := by rw [HCY.out.len, flowB_len HF.out]
          have oy0 : Own w5 (some ⟨gy, 0, none⟩) m m (addM zs cs a 0) := by rw [← addM_zero hcl]; exact oy
          clear oy hcl
          have hzle := hz.le
          have hzcap := hz.cap
          go_wp2_with fail
          go_loopw [33] (fun i wr => ∃ k : Nat, k ≤ l ∧ i = .int .i64 k ∧ Own wr (some ⟨gy, 0, none⟩) m m (addM zs cs a k) ∧ Below w.heap.size w wr) (fun i _ => l - (intOf i).toNat)
          case atStart => exact ⟨0, by omega, rfl, oy0, t5⟩
          case round =>
            obtain ⟨k, hk, rfl, ow, hb⟩ := hrel
            clear oy0
            by_cases hlt : k < l
            · obtain ⟨bz, offz, rfl, hblz, hcz⟩ := (hz.later hb).cells (by omega)
              have hckz := hcz k hlt
              clear hcz
              have hkm : k < m := by have := HLM.out; omega
              have cw := ow.cell hkm
              rw [addM_at (by omega)] at cw
              have uw := ow.unfrozen k
              have hq1 := flowB_all HF.out k
              have hu := HCY.out.bnd k
              have hp : -30000 ≤ a * ig cs k ∧ a * ig cs k ≤ 30000 := by
                rcases HCY.out.u k with h | h | h <;> rw [h] <;> omega
              have os := ow.store k (z := ig zs k + a * ig cs k) ⟨by omega, by omega⟩
              rw [addM_set] at os
              have hb2 := hb.setCell (p := ⟨gy, k, none⟩) hgyw (.int .i64 (ig zs k + a * ig cs k))
              have OS := Lib.hid os
              have HB2 := Lib.hid hb2
              clear os hb2 ow
              generalize ig cs k = Z at *
              generalize ig zs k = Q at *
              go_wp2_with fail
              go_roundw
              case rel => exact ⟨k + 1, by omega, by go_num, OS.out, HB2.out⟩
              case measure => simp [intOf]; omega
            · have hkl : zs.length ≤ k := by omega
              rw [addM_end hkl] at ow
              clear hkl
              go_wp2_with fail
              refine (checkedFlows_is _ _ _ _ _ _ ow.ints HSS.out).mono ?_
              rintro e w' ⟨rfl, rfl⟩
              go_wp2_with fail
              go_ret2
              exact retLI_nil rfl HR.out hb
        · have HR : Hid (rAddCycle net zs q a = (addL zs (cycL net q) a, 0)) := Lib.hid (by unfold rAddCycle; rw [if_pos (codeC_of h0 hq), hA, if_pos rfl, Int.toNat_natCast, hS, if_pos rfl])
          go_enter Try.func40, Try.ntmps40
          go_wp2_with fail
          refine (checkFlows_is _ _ _ _ _ _ _ _ _ net zs _ _ (h.later HB.out) (hz.later HB.out) h0).mono ?_
          rintro e w1 ⟨rfl, b1⟩
          have t1 := below_step HB.out b1
          have s1 := b1
          obtain ⟨k0, k1⟩ := box_cells s1
          go_wp2_with fail
          refine (chordsOf_any _ _ _ _ _ _ net _ (h.later t1) ok).mono ?_
          rintro e w2 ⟨Ac, cc, rfl, oc, fc, b2⟩
          clear k0 k1
          have t2 := below_step t1 b2
          have s2 := below_step s1 b2
          obtain ⟨k0, k1⟩ := box_cells s2
          go_wp2_with fail
          refine (slicesContains_any _ _ _ _ _ _ _ oc.ints hC).mono ?_
          rintro e w' ⟨rfl, rfl⟩
          clear k0 k1
          obtain ⟨k0, k1⟩ := box_cells s2
          go_wp2_with fail
          refine (within_is _ _ _ _ _ hA).mono ?_
          rintro e w' ⟨rfl, rfl⟩
          clear k0 k1
          obtain ⟨k0, k1⟩ := box_cells s2
          go_wp2_with fail
          refine (cycleOf_any _ _ _ _ _ _ net q _ (h.later t2) ok hq).mono ?_
          rintro e w5 ⟨Ay, rfl, oy, fy, b5⟩
          clear k0 k1
          have t5 := below_step t2 b5
          have s5 := below_step s2 b5
          obtain ⟨k0, k1⟩ := box_cells s5
          obtain ⟨gy, rfl, hgy⟩ := oy.pos (by omega)
          have hgyw : w.heap.size ≤ gy := by have := fy _ rfl; simp only at this; have := t2.size; omega
          obtain ⟨cs, hcs⟩ : ∃ cs, cycL net q = cs := ⟨_, rfl⟩
          rw [hcs] at oy HCY hS
          try rw [hcs] at HR
          have HSS := Lib.hid hS
          clear hcs k0 k1 hS fy
          have hzlen := hz.len
          have hcl : cs.length = zs.length := by rw [HCY.out.len, flowB_len HF.out]
          have oy0 : Own w5 (some ⟨gy, 0, none⟩) m m (addM zs cs a 0) := by rw [← addM_zero hcl]; exact oy
          clear oy hcl
          have hzle := hz.le
          have hzcap := hz.cap
          go_wp2_with fail
          go_loopw [33] (fun i wr => ∃ k : Nat, k ≤ l ∧ i = .int .i64 k ∧ Own wr (some ⟨gy, 0, none⟩) m m (addM zs cs a k) ∧ Below w.heap.size w wr) (fun i _ => l - (intOf i).toNat)
          case atStart => exact ⟨0, by omega, rfl, oy0, t5⟩
          case round =>
            obtain ⟨k, hk, rfl, ow, hb⟩ := hrel
            clear oy0
            by_cases hlt : k < l
            · obtain ⟨bz, offz, rfl, hblz, hcz⟩ := (hz.later hb).cells (by omega)
              have hckz := hcz k hlt
              clear hcz
              have hkm : k < m := by have := HLM.out; omega
              have cw := ow.cell hkm
              rw [addM_at (by omega)] at cw
              have uw := ow.unfrozen k
              have hq1 := flowB_all HF.out k
              have hu := HCY.out.bnd k
              have hp : -30000 ≤ a * ig cs k ∧ a * ig cs k ≤ 30000 := by
                rcases HCY.out.u k with h | h | h <;> rw [h] <;> omega
              have os := ow.store k (z := ig zs k + a * ig cs k) ⟨by omega, by omega⟩
              rw [addM_set] at os
              have hb2 := hb.setCell (p := ⟨gy, k, none⟩) hgyw (.int .i64 (ig zs k + a * ig cs k))
              have OS := Lib.hid os
              have HB2 := Lib.hid hb2
              clear os hb2 ow
              generalize ig cs k = Z at *
              generalize ig zs k = Q at *
              go_wp2_with fail
              go_roundw
              case rel => exact ⟨k + 1, by omega, by go_num, OS.out, HB2.out⟩
              case measure => simp [intOf]; omega
            · have hkl : zs.length ≤ k := by omega
              rw [addM_end hkl] at ow
              clear hkl
              go_wp2_with fail
              refine (checkedFlows_is _ _ _ _ _ _ ow.ints HSS.out).mono ?_
              rintro e w' ⟨rfl, rfl⟩
              go_wp2_with fail
              go_ret2
              exact retLI_own rfl HR.out ow (fun a ha => by injection ha with ha; subst ha; exact hgyw) hb
  · obtain ⟨k, hk⟩ : ∃ k, codeF net zs = k := ⟨_, rfl⟩
    rw [hk] at h0
    have hne : (k != 0) = true := by simp [h0]
    have hne2 : (k == 0) = false := by simp [h0]
    have HR : Hid (rAddCycle net zs x a = ([], k)) := Lib.hid (by unfold rAddCycle codeC; rw [hk, if_neg h0, if_neg h0])
    go_enter Try.func40, Try.ntmps40
    go_wp2_with fail
    refine (checkFlows_is _ _ _ _ _ _ _ _ _ net zs _ _ (h.later HB.out) (hz.later HB.out) hk).mono ?_
    rintro e w1 ⟨rfl, b1⟩
    have t1 := below_step HB.out b1
    have s1 := b1
    obtain ⟨k0, k1⟩ := box_cells s1
    go_wp2_with fail
    go_ret2
    exact retLI_nil rfl HR.out t1

set_option maxRecDepth 100000 in
set_option maxHeartbeats 4000000 in
theorem specAddCycle_any (A : Option Addr) (n c : Nat) (B : Option Addr) (m d : Nat) (net : Net) (C : Option Addr) (l e : Nat) (zs : List Int) (x : Int) (a : Int) (w : World) (h : NetAt w A n c B m d net) (hz : Ints w C l e zs) (_hx : I64 x) (_ha : I64 a) :
    Calls Try.prog 49 #[.agg #[.slice A n c, .slice B m d], .slice C l e, .int .i64 x, .int .i64 a] w fun e w' => RetLI w (rAddCycle net zs x a) e w' := by
  have HB := Lib.hid (bel1 w (.cells #[.slice A n c, .slice B m d] 27))
  by_cases h0 : codeF net zs = 0
  · obtain ⟨hv, hs⟩ := codeF_zero h0
    have ok := NetOK.of hv
    rcases hC : chdB net x with _ | _
    · have HR : Hid (rAddCycle net zs x a = ([], 4)) := Lib.hid (by unfold rAddCycle codeC; rw [if_pos h0, hC]; rfl)
      go_enter Try.func49, Try.ntmps49
      go_wp2_with fail
      refine (l05Code_is _ _ _ _ _ _ _ _ _ net zs _ _ (h.later HB.out) (hz.later HB.out) h0).mono ?_
      rintro e w1 ⟨rfl, b1⟩
      have t1 := below_step HB.out b1
      have s1 := b1
      obtain ⟨k0, k1⟩ := box_cells s1
      go_wp2_with fail
      refine (l05Chords_any _ _ _ _ _ _ net _ (h.later t1) ok).mono ?_
      rintro e w2 ⟨Ac, cc, rfl, oc, fc, b2⟩
      clear k0 k1
      have t2 := below_step t1 b2
      have s2 := below_step s1 b2
      obtain ⟨k0, k1⟩ := box_cells s2
      go_wp2_with fail
      refine (l02Has_is _ _ _ _ _ _ _ oc.ints hC).mono ?_
      rintro e w' ⟨rfl, rfl⟩
      clear k0 k1
      obtain ⟨k0, k1⟩ := box_cells s2
      go_wp2_with fail
      go_ret2
      exact retLI_nil rfl HR.out t2
    · obtain ⟨q, rfl, hq, hqm⟩ := chdB_nat hC
      have hm40 : m ≤ 40 := by have := ok.m40; have := h.pipes.len; omega
      have hqm2 : q < m := by have := h.pipes.len; omega
      have hpos : 0 < m := by omega
      have HLM : Hid (l = m) := Lib.hid (by have := flowB_len hs; have := h.pipes.len; have := hz.len; omega)
      have HF := Lib.hid hs
      have HCY := Lib.hid (cycL_cyc ok hq)
      rcases hA : inB a (-30000) 30000 with _ | _
      · have HR : Hid (rAddCycle net zs q a = ([], 2)) := Lib.hid (by unfold rAddCycle; rw [if_pos (codeC_of h0 hq), hA]; rfl)
        go_enter Try.func49, Try.ntmps49
        go_wp2_with fail
        refine (l05Code_is _ _ _ _ _ _ _ _ _ net zs _ _ (h.later HB.out) (hz.later HB.out) h0).mono ?_
        rintro e w1 ⟨rfl, b1⟩
        have t1 := below_step HB.out b1
        have s1 := b1
        obtain ⟨k0, k1⟩ := box_cells s1
        go_wp2_with fail
        refine (l05Chords_any _ _ _ _ _ _ net _ (h.later t1) ok).mono ?_
        rintro e w2 ⟨Ac, cc, rfl, oc, fc, b2⟩
        clear k0 k1
        have t2 := below_step t1 b2
        have s2 := below_step s1 b2
        obtain ⟨k0, k1⟩ := box_cells s2
        go_wp2_with fail
        refine (l02Has_is _ _ _ _ _ _ _ oc.ints hC).mono ?_
        rintro e w' ⟨rfl, rfl⟩
        clear k0 k1
        obtain ⟨k0, k1⟩ := box_cells s2
        go_wp2_with fail
        refine (l05Flow_is _ _ _ hA).mono ?_
        rintro e w' ⟨rfl, rfl⟩
        clear k0 k1
        obtain ⟨k0, k1⟩ := box_cells s2
        go_wp2_with fail
        go_ret2
        exact retLI_nil rfl HR.out t2
      · have hab : -30000 ≤ a ∧ a ≤ 30000 := inB_iff'.1 hA
        rcases hS : allB (addL zs (cycL net q) a) (-30000) 30000 with _ | _
        · have HR : Hid (rAddCycle net zs q a = ([], 2)) := Lib.hid (by unfold rAddCycle; rw [if_pos (codeC_of h0 hq), hA, if_pos rfl, Int.toNat_natCast, hS]; rfl)
          have hO2 : flowB net (addL zs (cycL net q) a) = false := by unfold flowB; rw [hS]; simp
          clear hS
          go_enter Try.func49, Try.ntmps49
          go_wp2_with fail
          refine (l05Code_is _ _ _ _ _ _ _ _ _ net zs _ _ (h.later HB.out) (hz.later HB.out) h0).mono ?_
          rintro e w1 ⟨rfl, b1⟩
          have t1 := below_step HB.out b1
          have s1 := b1
          obtain ⟨k0, k1⟩ := box_cells s1
          go_wp2_with fail
          refine (l05Chords_any _ _ _ _ _ _ net _ (h.later t1) ok).mono ?_
          rintro e w2 ⟨Ac, cc, rfl, oc, fc, b2⟩
          clear k0 k1
          have t2 := below_step t1 b2
          have s2 := below_step s1 b2
          obtain ⟨k0, k1⟩ := box_cells s2
          go_wp2_with fail
          refine (l02Has_is _ _ _ _ _ _ _ oc.ints hC).mono ?_
          rintro e w' ⟨rfl, rfl⟩
          clear k0 k1
          obtain ⟨k0, k1⟩ := box_cells s2
          go_wp2_with fail
          refine (l05Flow_is _ _ _ hA).mono ?_
          rintro e w' ⟨rfl, rfl⟩
          clear k0 k1
          obtain ⟨k0, k1⟩ := box_cells s2
          go_wp2_with fail
          refine (l05Cycle_any _ _ _ _ _ _ net q _ (h.later t2) ok hq).mono ?_
          rintro e w5 ⟨Ay, rfl, oy, fy, b5⟩
          clear k0 k1
          have t5 := below_step t2 b5
          have s5 := below_step s2 b5
          obtain ⟨k0, k1⟩ := box_cells s5
          go_wp2_with fail
          refine (l05Add_any _ _ _ zs _ _ _ _ a _ (hz.later t5) oy.ints (by have := HLM.out; omega) (by have := HLM.out; omega) (fun j => by have := flowB_all HF.out j; omega) (fun j => by have := HCY.out.bnd j; omega) (by omega)).mono ?_
          rintro e w6 ⟨Aa, ca, rfl, oa, fa, b6⟩
          clear k0 k1
          have t6 := below_step t5 b6
          have s6 := below_step s5 b6
          obtain ⟨k0, k1⟩ := box_cells s6
          go_wp2_with fail
          refine (l05List_is _ _ _ _ _ _ _ _ _ net _ _ _ (h.later t6) oa.ints hO2).mono ?_
          rintro e w7 ⟨rfl, b7⟩
          clear k0 k1
          have t7 := below_step t6 b7
          have s7 := below_step s6 b7
          obtain ⟨k0, k1⟩ := box_cells s7
          go_wp2_with fail
          go_ret2
          exact retLI_nil rfl HR.out t7
        · have HR : Hid (rAddCycle net zs q a = (addL zs (cycL net q) a, 0)) := Lib.hid (by unfold rAddCycle; rw [if_pos (codeC_of h0 hq), hA, if_pos rfl, Int.toNat_natCast, hS, if_pos rfl])
          have hO2 : flowB net (addL zs (cycL net q) a) = true := by unfold flowB; rw [hS, addL_len, flowB_len hs]; simp
          clear hS
          go_enter Try.func49, Try.ntmps49
          go_wp2_with fail
          refine (l05Code_is _ _ _ _ _ _ _ _ _ net zs _ _ (h.later HB.out) (hz.later HB.out) h0).mono ?_
          rintro e w1 ⟨rfl, b1⟩
          have t1 := below_step HB.out b1
          have s1 := b1
          obtain ⟨k0, k1⟩ := box_cells s1
          go_wp2_with fail
          refine (l05Chords_any _ _ _ _ _ _ net _ (h.later t1) ok).mono ?_
          rintro e w2 ⟨Ac, cc, rfl, oc, fc, b2⟩
          clear k0 k1
          have t2 := below_step t1 b2
          have s2 := below_step s1 b2
          obtain ⟨k0, k1⟩ := box_cells s2
          go_wp2_with fail
          refine (l02Has_is _ _ _ _ _ _ _ oc.ints hC).mono ?_
          rintro e w' ⟨rfl, rfl⟩
          clear k0 k1
          obtain ⟨k0, k1⟩ := box_cells s2
          go_wp2_with fail
          refine (l05Flow_is _ _ _ hA).mono ?_
          rintro e w' ⟨rfl, rfl⟩
          clear k0 k1
          obtain ⟨k0, k1⟩ := box_cells s2
          go_wp2_with fail
          refine (l05Cycle_any _ _ _ _ _ _ net q _ (h.later t2) ok hq).mono ?_
          rintro e w5 ⟨Ay, rfl, oy, fy, b5⟩
          clear k0 k1
          have t5 := below_step t2 b5
          have s5 := below_step s2 b5
          obtain ⟨k0, k1⟩ := box_cells s5
          go_wp2_with fail
          refine (l05Add_any _ _ _ zs _ _ _ _ a _ (hz.later t5) oy.ints (by have := HLM.out; omega) (by have := HLM.out; omega) (fun j => by have := flowB_all HF.out j; omega) (fun j => by have := HCY.out.bnd j; omega) (by omega)).mono ?_
          rintro e w6 ⟨Aa, ca, rfl, oa, fa, b6⟩
          clear k0 k1
          have t6 := below_step t5 b6
          have s6 := below_step s5 b6
          obtain ⟨k0, k1⟩ := box_cells s6
          go_wp2_with fail
          refine (l05List_is _ _ _ _ _ _ _ _ _ net _ _ _ (h.later t6) oa.ints hO2).mono ?_
          rintro e w7 ⟨rfl, b7⟩
          clear k0 k1
          have t7 := below_step t6 b7
          have s7 := below_step s6 b7
          obtain ⟨k0, k1⟩ := box_cells s7
          go_wp2_with fail
          go_ret2
          exact retLI_own rfl HR.out (oa.later b7) (fresh_up fa t5.size) t7
  · obtain ⟨k, hk⟩ : ∃ k, codeF net zs = k := ⟨_, rfl⟩
    rw [hk] at h0
    have hne : (k != 0) = true := by simp [h0]
    have hne2 : (k == 0) = false := by simp [h0]
    have HR : Hid (rAddCycle net zs x a = ([], k)) := Lib.hid (by unfold rAddCycle codeC; rw [hk, if_neg h0, if_neg h0])
    go_enter Try.func49, Try.ntmps49
    go_wp2_with fail
    refine (l05Code_is _ _ _ _ _ _ _ _ _ net zs _ _ (h.later HB.out) (hz.later HB.out) hk).mono ?_
    rintro e w1 ⟨rfl, b1⟩
    have t1 := below_step HB.out b1
    have s1 := b1
    obtain ⟨k0, k1⟩ := box_cells s1
    go_wp2_with fail
    go_ret2
    exact retLI_nil rfl HR.out t1

end Go.Proofs.Ytfiikbcffpcbkaa
