/- the law FnForestLevels -/
import Derived.Test.YtioiebjgjimeiaaDb
import Derived.Test.YtioiebjgjimeiaaVu
import Derived.Test.YtioiebjgjimeiaaJ3
import Derived.Test.YtioiebjgjimeiaaJ4
import Derived.Test.YtioiebjgjimeiaaRl
import Derived.Test.YtioiebjgjimeiaaDy
namespace Go.Proofs.Ytioiebjgjimeiaa
open Go.RowKit

set_option maxRecDepth 100000 in
set_option maxHeartbeats 1000000 in
theorem hasInt_any (A : Option Addr) (n c : Nat) (zs : List Int) (x : Int) (w : World) (h : Ints w A n c zs) :
    Calls Try.prog 56 #[.slice A n c, .int .i64 x] w fun e w' => e = .returned (.bool (decide (x ∈ zs))) ∧ w = w' := by
  have hlen := h.len
  have hle := h.le
  have hcap := h.cap
  go_enter Try.func56, Try.ntmps56
  go_wp2_with fail
  go_loopw [5] (fun i wr => ∃ k : Nat, k ≤ n ∧ i = .int .i64 k ∧ Hid (∀ j, j < k → ig zs j ≠ x) ∧ w = wr) (fun i _ => n - (intOf i).toNat)
  case atStart => exact ⟨0, by omega, rfl, Lib.hid fun j hj => absurd hj (by omega), rfl⟩
  case round =>
    obtain ⟨k, hk, rfl, hno, rfl⟩ := hrel
    by_cases hlt : k < n
    · obtain ⟨b, off, rfl, hbl, hc⟩ := h.cells (by omega)
      have hck := hc k hlt
      clear hc
      have hki : (k : Int) < (n : Int) := by omega
      by_cases he : ig zs k = x
      · have hb : (ig zs k == x) = true := by simp [he]
        have hin : x ∈ zs := by rw [← he, ig_lt (by omega)]; exact List.getElem_mem _
        have HD : Hid (decide (x ∈ zs) = true) := Lib.hid (by simp [hin])
        clear he
        go_wp2_with fail
        go_ret
        exact ⟨by rw [HD.out]; rfl, rfl⟩
      · have hb : (ig zs k == x) = false := by simp [he]
        have HN : Hid (∀ j, j < k + 1 → ig zs j ≠ x) := Lib.hid fun j hj => by
          rcases Nat.lt_or_ge j k with h | h
          · exact hno.out j h
          · have : j = k := by omega
            subst this; exact he
        clear he
        go_wp2_with fail
        go_roundw
        case rel => exact ⟨k + 1, by omega, by go_num, HN, by trivial⟩
        case measure => simp [intOf]; omega
    · have HD : Hid (decide (x ∈ zs) = false) := Lib.hid (by
        simp only [decide_eq_false_iff_not]
        intro hin
        obtain ⟨j, hj, rfl⟩ := List.mem_iff_getElem.1 hin
        exact hno.out j (by omega) (ig_lt hj))
      have hki : ¬ (k : Int) < (n : Int) := by omega
      go_wp2_with fail
      go_ret
      exact ⟨by rw [HD.out]; rfl, rfl⟩

set_option maxRecDepth 100000 in
set_option maxHeartbeats 8000000 in
theorem lawForestLevels_any (A : Option Addr) (n c : Nat) (bs : List Int) (w : World) (h : Bytes w A n c bs) :
    Calls Try.prog 8 #[.slice A n c] w fun e w' => e = .returned (.bool true) ∧ Below w.heap.size w w' := by
  by_cases hbig : 4096 < n
  · have hb' : decide (4096 < n) = true := by simp [hbig]
    go_enter Try.func8, Try.ntmps8
    go_wp2_with fail
    refine (big_any _ _ _ _).mono ?_
    rintro e w' ⟨rfl, rfl⟩
    rw [hb']
    go_wp2_with fail
    go_ret
    exact ⟨rfl, Below.refl _ _⟩
  · have hb' : decide (4096 < n) = false := by simp [hbig]
    go_enter Try.func8, Try.ntmps8
    go_wp2_with fail
    refine (big_any _ _ _ _).mono ?_
    rintro e w' ⟨rfl, rfl⟩
    rw [hb']
    go_wp2_with fail
    refine (DrawForestLevels_any _ _ _ _ _ h).mono ?_
    rintro e w1 ⟨An, k, cn, Ap, m, cp, ns, ps, Al, L, cl, zs, x, y, rfl, hd, hz, _, hk, hm, hL, hx, hy, b1⟩
    have bx1 : BX (w1.alloc (.cells #[.slice An k cn, .slice Ap m cp] 27)) w1.heap.size An k cn Ap m cp := ⟨heap_alloc_new w1 _⟩
    have hn1 : NetAt (w1.alloc (.cells #[.slice An k cn, .slice Ap m cp] 27)) An k cn Ap m cp ⟨ns, ps⟩ := hd.net.later (bel1 w1 (.cells #[.slice An k cn, .slice Ap m cp] 27))
    have oz1 := hz.later (bel1 w1 (.cells #[.slice An k cn, .slice Ap m cp] 27))
    have t1 := below_step b1 (bel1 w1 (.cells #[.slice An k cn, .slice Ap m cp] 27))
    obtain ⟨net, hnet⟩ : ∃ net : Net, (⟨ns, ps⟩ : Net) = net := ⟨_, rfl⟩
    rw [hnet] at hn1
    clear hd hz b1 hnet
    by_cases hK : (rForestLevels net zs x y).2 = 0
    · obtain ⟨L1, Z, D, r, hxr, hrn, l1, l2, l3, l4, l5, l6, l7, l8, l9, l10, l11, l12, l13, l14⟩ := forestlev_law hK
      clear hK
      subst hxr
      obtain ⟨FO, hFO⟩ : ∃ FO, nl (netG net).forest = FO := ⟨_, rfl⟩
      have hFOl : FO.length ≤ 40 := by rw [← hFO, nl_len]; exact l10
      rw [hFO] at l4 l14
      have hL24 : L1.length ≤ 24 := by rw [l5]; exact (netB_sizes l9).2.1
      clear hFO l10 l9
      have h00 : I64 0 := ⟨by decide, by decide⟩
      have cHT := fun A n c B m d C l e w h0 h1 => implForestLevels_any A n c B m d net C l e zs r y w h0 h1 hx hy
      simp only [RetLI, l1] at cHT
      have HT := Lib.hid cHT
      clear cHT
      have cHS := fun A n c B m d C l e w h0 h1 => specForestLevels_any' A n c B m d net C l e zs r y w h0 h1 hx hy
      simp only [RetLI, l1] at cHS
      have HS := Lib.hid cHS
      clear cHS
      have cHZ := fun A n c B m d C l e w h0 h1 => implForestLevels_any A n c B m d net C l e zs r 0 w h0 h1 hx h00
      simp only [RetLI, l2] at cHZ
      have HZ := Lib.hid cHZ
      clear cHZ
      have cHY := fun A n c B m d C l e w h0 h1 => specForestLevels_any' A n c B m d net C l e zs r 0 w h0 h1 hx h00
      simp only [RetLI, l2] at cHY
      have HY := Lib.hid cHY
      clear cHY
      have cHD := fun A n c B m d C l e w h0 h1 => implDropsOf_any A n c B m d net C l e zs w h0 h1
      simp only [RetLI, l3] at cHD
      have HD := Lib.hid cHD
      clear cHD
      have cHE := fun A n c B m d C l e w h0 h1 => specDropsOf_any A n c B m d net C l e zs w h0 h1
      simp only [RetLI, l3] at cHE
      have HE := Lib.hid cHE
      clear cHE
      have cHF := fun A n c B m d  w h0 => implSpanningForest_any A n c B m d net  w h0
      simp only [RetLI, l4] at cHF
      have HF := Lib.hid cHF
      clear cHF
      have eL := eqL_self L1
      have eZ := eqL_self Z
      have eD := eqL_self D
      have HL := Lib.hid l5
      have HZL := Lib.hid l6
      have HDL := Lib.hid l7
      have H8 := Lib.hid l8
      have H11 := Lib.hid l11
      have H12 := Lib.hid l12
      have H13 := Lib.hid l13
      have H14 := Lib.hid l14
      have HR := Lib.hid hrn
      clear l1 l2 l3 l4 l5 l6 l7 l8 l11 l12 l13 l14 hrn
      go_wp2_with fail
      refine (HT.out _ _ _ _ _ _ _ _ _ _ hn1 oz1.ints).mono ?_
      rintro e w2 ⟨AoL, coL, rfl, oL2, foL2, b2⟩
      have hn2 := hn1.later b2
      have t2 := below_step t1 b2
      have bx2 := bx1.step b2
      have oz2 := oz1.later b2
      clear hn1 t1 b2 bx1 oz1
      have k0 := bx2.c0
      have k1 := bx2.c1
      go_wp2_with fail
      refine (HS.out _ _ _ _ _ _ _ _ _ _ hn2 oz2.ints).mono ?_
      rintro e w3 ⟨AoM, coM, rfl, oM3, foM3, b3⟩
      have hn3 := hn2.later b3
      have t3 := below_step t2 b3
      have bx3 := bx2.step b3
      have oz3 := oz2.later b3
      have oL3 := oL2.later b3
      clear hn2 t2 b3 bx2 oz2 oL2 k0 k1
      have k0 := bx3.c0
      have k1 := bx3.c1
      go_wp2_with fail
      refine (likeInts_any _ _ _ _ _ _ _ _ _ oL3.ints oM3.ints).mono ?_
      rintro e w4 ⟨rfl, q, rfl⟩
      rw [eL]
      have b4 := below_drew (Below.refl w3.heap.size w3) q
      generalize w3.drewN q = w4 at *
      have hn4 := hn3.later b4
      have t4 := below_step t3 b4
      have bx4 := bx3.step b4
      have oz4 := oz3.later b4
      have oL4 := oL3.later b4
      have oM4 := oM3.later b4
      clear hn3 t3 b4 bx3 oz3 oL3 oM3 k0 k1
      have k0 := bx4.c0
      have k1 := bx4.c1
      clear oM4
      go_wp2_with fail
      refine (HF.out _ _ _ _ _ _ _ hn4).mono ?_
      rintro e w5 ⟨AoF, coF, rfl, oF5, foF5, b5⟩
      have hn5 := hn4.later b5
      have t5 := below_step t4 b5
      have bx5 := bx4.step b5
      have oz5 := oz4.later b5
      have oL5 := oL4.later b5
      clear hn4 t4 b5 bx4 oz4 oL4 k0 k1
      have k0 := bx5.c0
      have k1 := bx5.c1
      go_wp2_with fail
      refine (HD.out _ _ _ _ _ _ _ _ _ _ hn5 oz5.ints).mono ?_
      rintro e w6 ⟨AoD, coD, rfl, oD6, foD6, b6⟩
      have hn6 := hn5.later b6
      have t6 := below_step t5 b6
      have bx6 := bx5.step b6
      have oz6 := oz5.later b6
      have oL6 := oL5.later b6
      have oF6 := oF5.later b6
      clear hn5 t5 b6 bx5 oz5 oL5 oF5 k0 k1
      have k0 := bx6.c0
      have k1 := bx6.c1
      go_wp2_with fail
      refine (HE.out _ _ _ _ _ _ _ _ _ _ hn6 oz6.ints).mono ?_
      rintro e w7 ⟨AoE, coE, rfl, oE7, foE7, b7⟩
      have hn7 := hn6.later b7
      have t7 := below_step t6 b7
      have bx7 := bx6.step b7
      have oz7 := oz6.later b7
      have oL7 := oL6.later b7
      have oF7 := oF6.later b7
      have oD7 := oD6.later b7
      clear hn6 t6 b7 bx6 oz6 oL6 oF6 oD6 k0 k1
      have k0 := bx7.c0
      have k1 := bx7.c1
      go_wp2_with fail
      refine (likeInts_any _ _ _ _ _ _ _ _ _ oD7.ints oE7.ints).mono ?_
      rintro e w8 ⟨rfl, q, rfl⟩
      rw [eD]
      have b8 := below_drew (Below.refl w7.heap.size w7) q
      generalize w7.drewN q = w8 at *
      have hn8 := hn7.later b8
      have t8 := below_step t7 b8
      have bx8 := bx7.step b8
      have oz8 := oz7.later b8
      have oL8 := oL7.later b8
      have oF8 := oF7.later b8
      have oD8 := oD7.later b8
      have oE8 := oE7.later b8
      clear hn7 t7 b8 bx7 oz7 oL7 oF7 oD7 oE7 k0 k1
      have k0 := bx8.c0
      have k1 := bx8.c1
      clear oE8
      go_wp2_with fail
      refine (HZ.out _ _ _ _ _ _ _ _ _ _ hn8 oz8.ints).mono ?_
      rintro e w9 ⟨AoZ, coZ, rfl, oZ9, foZ9, b9⟩
      have hn9 := hn8.later b9
      have t9 := below_step t8 b9
      have bx9 := bx8.step b9
      have oz9 := oz8.later b9
      have oL9 := oL8.later b9
      have oF9 := oF8.later b9
      have oD9 := oD8.later b9
      clear hn8 t8 b9 bx8 oz8 oL8 oF8 oD8 k0 k1
      have k0 := bx9.c0
      have k1 := bx9.c1
      go_wp2_with fail
      refine (HY.out _ _ _ _ _ _ _ _ _ _ hn9 oz9.ints).mono ?_
      rintro e w10 ⟨AoY, coY, rfl, oY10, foY10, b10⟩
      have hn10 := hn9.later b10
      have t10 := below_step t9 b10
      have bx10 := bx9.step b10
      have oz10 := oz9.later b10
      have oL10 := oL9.later b10
      have oF10 := oF9.later b10
      have oD10 := oD9.later b10
      have oZ10 := oZ9.later b10
      clear hn9 t9 b10 bx9 oz9 oL9 oF9 oD9 oZ9 k0 k1
      have k0 := bx10.c0
      have k1 := bx10.c1
      go_wp2_with fail
      refine (likeInts_any _ _ _ _ _ _ _ _ _ oZ10.ints oY10.ints).mono ?_
      rintro e w11 ⟨rfl, q, rfl⟩
      rw [eZ]
      have b11 := below_drew (Below.refl w10.heap.size w10) q
      generalize w10.drewN q = w11 at *
      have hn11 := hn10.later b11
      have t11 := below_step t10 b11
      have bx11 := bx10.step b11
      have oz11 := oz10.later b11
      have oL11 := oL10.later b11
      have oF11 := oF10.later b11
      have oD11 := oD10.later b11
      have oZ11 := oZ10.later b11
      have oY11 := oY10.later b11
      clear hn10 t10 b11 bx10 oz10 oL10 oF10 oD10 oZ10 oY10 k0 k1
      have k0 := bx11.c0
      have k1 := bx11.c1
      clear oY11
      have HPL := Lib.hid hn11.pipes.len
      have HNL := Lib.hid hn11.nodes.len
      have HMC := Lib.hid (⟨hn11.pipes.le, hn11.pipes.cap⟩ : _ ∧ _)
      have hmm2 : ((D.length : Int) != (m : Int)) = false := by have := HDL.out; have := HPL.out; simp; omega
      have hll2 : ((Z.length : Int) != (L1.length : Int)) = false := by have := HZL.out; have := HL.out; simp; omega
      obtain ⟨bl, offl, rfl, hbll, hcl⟩ := oL11.ints.cells (by have := HL.out; have := HR.out; omega)
      have q0 := hcl r (by have := HL.out; have := HR.out; omega)
      rw [H8.out] at q0
      have hrl : (r : Int) < (L1.length : Int) := by have := HL.out; have := HR.out; omega
      have hmb : m ≤ 9223372036854775807 := by have := HMC.out; omega
      clear hcl
      go_wp2_with fail
      go_loopw [21, 22] (fun i p wr => ∃ j : Nat, i = .int .i64 (j : Int) ∧ j ≤ m ∧ Below w11.heap.size w11 wr) (fun i _ _ => m - (intOf i).toNat)
      case atStart => exact ⟨0, rfl, by omega, Below.refl _ _⟩
      case round =>
        obtain ⟨j, rfl, hj, hb⟩ := hrel
        have hbs := hb.size
        have bxr := bx11.step hb
        have y0 := bxr.c0
        have y1 := bxr.c1
        clear k0 k1 q0 hrl
        by_cases hjm : j < m
        · have hji : (j : Int) < (m : Int) := by omega
          obtain ⟨f, t, hf, ht, ef, et, hdiff⟩ := H14.out j (by have := HPL.out; omega)
          obtain ⟨bp, offp, rfl, hblp, hcp⟩ := (hn11.later hb).pipes.cells (by omega)
          obtain ⟨p0, p1, p2, p3, p4⟩ := hcp j (by omega)
          have oFr := (oF11.later hb).later (bel1 wr (.cells #[.int .i64 (pp net.pipes j).fr, .int .i64 (pp net.pipes j).to, .int .i64 (pp net.pipes j).k, .int .i64 (pp net.pipes j).vol, .int .i64 (pp net.pipes j).lim] 64))
          have oFD := oFr.later (Below.refl _ _).drew
          have HHI := Lib.hid (fun q => hasInt_any _ _ _ _ (j : Int) _ (oFr.later (below_drew (Below.refl _ _) q)).ints)
          clear hcp oFr oFD
          rw [ef] at p0 HHI
          rw [et] at p1 HHI
          by_cases hin : (j : Int) ∈ FO
          · have hdiff := hdiff hin
            have hdec : decide ((j : Int) ∈ FO) = true := decide_eq_true hin
            rw [hdec] at HHI
            clear hin hdec
            have oLr := oL11.later hb
            have oDr := oD11.later hb
            obtain ⟨bd, offd, rfl, hbld, hcd⟩ := oDr.ints.cells (by have := HDL.out; have := HPL.out; omega)
            obtain ⟨bl2, offl2, el, hbll2, hcl⟩ := oLr.ints.cells (by have := HL.out; omega)
            injection el with el
            injection el with el1 el2
            subst el1
            subst el2
            have q0 := hcl f (by have := HL.out; omega)
            have q1 := hcl t (by have := HL.out; omega)
            have q2 := hcd j (by have := HDL.out; have := HPL.out; omega)
            have hfl : (f : Int) < (L1.length : Int) := by have := HL.out; omega
            have htl : (t : Int) < (L1.length : Int) := by have := HL.out; omega
            have hjd : (j : Int) < (D.length : Int) := by have := HDL.out; have := HPL.out; omega
            have v0 := H11.out f
            have v1 := H11.out t
            clear hcl hcd oLr oDr ef et
            generalize ig L1 f = X at *
            generalize ig L1 t = Y at *
            generalize ig D j = U at *
            subst hdiff
            go_wp2_with fail
            go_quiet ((go_at_call 56; exact quiet_left (HHI.out _)))
            go_wp2_with fail
            go_roundw
            case rel => exact ⟨j + 1, by go_num, by omega, below_drew (hb.alloc hbs _) _⟩
            case measure => simp [intOf]; omega
          · have hdec : decide ((j : Int) ∈ FO) = false := decide_eq_false hin
            rw [hdec] at HHI
            clear hin hdec hdiff
            go_wp2_with fail
            go_quiet ((go_at_call 56; exact quiet_left (HHI.out _)))
            go_wp2_with fail
            go_roundw
            case rel => exact ⟨j + 1, by go_num, by omega, below_drew (hb.alloc hbs _) _⟩
            case measure => simp [intOf]; omega
        · have hji : ¬ (j : Int) < (m : Int) := by omega
          have b12 := hb
          obtain ⟨w12, hw⟩ : ∃ w12, w12 = wr := ⟨_, rfl⟩
          subst hw
          clear y0 y1 bxr
          have hn12 := hn11.later b12
          have t12 := below_step t11 b12
          have bx12 := bx11.step b12
          have oz12 := oz11.later b12
          have oL12 := oL11.later b12
          have oF12 := oF11.later b12
          have oD12 := oD11.later b12
          have oZ12 := oZ11.later b12
          clear hn11 t11 b12 bx11 oz11 oL11 oF11 oD11 oZ11
          have k0 := bx12.c0
          have k1 := bx12.c1
          go_wp2_with fail
          go_loopw [23] (fun i wr => ∃ j : Nat, i = .int .i64 (j : Int) ∧ j ≤ L1.length ∧ Below w12.heap.size w12 wr) (fun i _ => L1.length - (intOf i).toNat)
          case atStart => exact ⟨0, rfl, by omega, Below.refl _ _⟩
          case round =>
            obtain ⟨j, rfl, hj, hb⟩ := hrel
            have hbs := hb.size
            by_cases hjl : j < L1.length
            · have hji2 : (j : Int) < (L1.length : Int) := by omega
              have hjz : (j : Int) < (Z.length : Int) := by have := HZL.out; have := HL.out; omega
              have hsh := H13.out j (by have := HL.out; omega)
              obtain ⟨bz, offz, rfl, hblz, hcz⟩ := (oZ12.later hb).ints.cells (by have := HZL.out; have := HL.out; omega)
              obtain ⟨bl2, offl2, el, hbll2, hcl⟩ := (oL12.later hb).ints.cells (by omega)
              injection el with el
              injection el with el1 el2
              subst el1
              subst el2
              have q0 := hcl j hjl
              have q1 := hcz j (by have := HZL.out; have := HL.out; omega)
              have v0 := H11.out j
              have v1 := H12.out j
              clear hcl hcz
              generalize ig L1 j = X at *
              generalize ig Z j = Y at *
              subst hsh
              go_wp2_with fail
              go_quiet (fail)
              go_wp2_with fail
              go_roundw
              case rel => exact ⟨j + 1, by go_num, by omega, below_drew hb _⟩
              case measure => simp [intOf]; omega
            · have hji2 : ¬ (j : Int) < (L1.length : Int) := by omega
              go_wp2_with fail
              go_ret
              exact ⟨rfl, below_step t12 hb⟩
    · obtain ⟨R, K, hR⟩ : ∃ R K, rForestLevels net zs x y = (R, K) := ⟨_, _, rfl⟩
      rw [hR] at hK
      simp only at hK
      have cHT := fun A n c B m d C l e w h0 h1 => implForestLevels_any A n c B m d net C l e zs x y w h0 h1 hx hy
      simp only [RetLI, hR] at cHT
      have HT := Lib.hid cHT
      clear cHT
      have cHS := fun A n c B m d C l e w h0 h1 => specForestLevels_any' A n c B m d net C l e zs x y w h0 h1 hx hy
      simp only [RetLI, hR] at cHS
      have HS := Lib.hid cHS
      clear cHS
      have hK' : (K != 0) = true := by simp [hK]
      have eR := eqL_self R
      clear hK hR
      go_wp2_with fail
      refine (HT.out _ _ _ _ _ _ _ _ _ _ hn1 oz1.ints).mono ?_
      rintro e w2 ⟨AoL, coL, rfl, oL2, foL2, b2⟩
      have hn2 := hn1.later b2
      have t2 := below_step t1 b2
      have bx2 := bx1.step b2
      have oz2 := oz1.later b2
      clear hn1 t1 b2 bx1 oz1
      have k0 := bx2.c0
      have k1 := bx2.c1
      go_wp2_with fail
      refine (HS.out _ _ _ _ _ _ _ _ _ _ hn2 oz2.ints).mono ?_
      rintro e w3 ⟨AoM, coM, rfl, oM3, foM3, b3⟩
      have hn3 := hn2.later b3
      have t3 := below_step t2 b3
      have bx3 := bx2.step b3
      have oz3 := oz2.later b3
      have oL3 := oL2.later b3
      clear hn2 t2 b3 bx2 oz2 oL2 k0 k1
      have k0 := bx3.c0
      have k1 := bx3.c1
      go_wp2_with fail
      refine (likeInts_any _ _ _ _ _ _ _ _ _ oL3.ints oM3.ints).mono ?_
      rintro e w4 ⟨rfl, q, rfl⟩
      rw [eR]
      have b4 := below_drew (Below.refl w3.heap.size w3) q
      generalize w3.drewN q = w4 at *
      have hn4 := hn3.later b4
      have t4 := below_step t3 b4
      have bx4 := bx3.step b4
      have oz4 := oz3.later b4
      have oL4 := oL3.later b4
      have oM4 := oM3.later b4
      clear hn3 t3 b4 bx3 oz3 oL3 oM3 k0 k1
      have k0 := bx4.c0
      have k1 := bx4.c1
      go_wp2_with fail
      go_ret
      exact ⟨rfl, t4⟩

end Go.Proofs.Ytioiebjgjimeiaa
