/- the law FnResiduals -/
import Derived.Test.YtllblmndoigdlaaGreatDl
import Derived.Test.YtllblmndoigdlaaGreatVs
import Derived.Test.YtllblmndoigdlaaGreatRx
import Derived.Test.YtllblmndoigdlaaGreatRd
import Derived.Test.YtllblmndoigdlaaGreatRb
import Derived.Test.YtllblmndoigdlaaGreatRa
import Derived.Test.YtllblmndoigdlaaGreatRf
import Derived.Test.YtllblmndoigdlaaGreatRi
import Derived.Test.YtllblmndoigdlaaGreatSz
import Derived.Test.YtllblmndoigdlaaGreatDy
namespace Go.Proofs.YtllblmndoigdlaaGreat
open Go.RowKit

set_option maxRecDepth 100000 in
set_option maxHeartbeats 8000000 in
theorem lawResiduals_any (A : Option Addr) (n c : Nat) (bs : List Int) (w : World) (h : Bytes w A n c bs) :
    Calls Tryz.prog 3 #[.slice A n c] w fun e w' => e = .returned (.bool true) ∧ Below w.heap.size w w' := by
  by_cases hbig : 4096 < n
  · have hb' : decide (4096 < n) = true := by simp [hbig]
    go_enter Tryz.func3, Tryz.ntmps3
    go_wp2_with fail
    refine (big_any _ _ _ _).mono ?_
    rintro e w' ⟨rfl, rfl⟩
    rw [hb']
    go_wp2_with fail
    go_ret
    exact ⟨rfl, Below.refl _ _⟩
  · have hb' : decide (4096 < n) = false := by simp [hbig]
    go_enter Tryz.func3, Tryz.ntmps3
    go_wp2_with fail
    refine (big_any _ _ _ _).mono ?_
    rintro e w' ⟨rfl, rfl⟩
    rw [hb']
    go_wp2_with fail
    refine (DrawIsRelaxed_any _ _ _ _ _ h).mono ?_
    rintro e w1 ⟨An, k, cn, Ap, m, cp, ns, ps, Al, L, cl, zs, _, _, rfl, hd, hz, _, hk, hm, hL, _, _, b1⟩
    have bx1 : BX (w1.alloc (.cells #[.slice An k cn, .slice Ap m cp] 27)) w1.heap.size An k cn Ap m cp := ⟨heap_alloc_new w1 _⟩
    have hn1 : NetAt (w1.alloc (.cells #[.slice An k cn, .slice Ap m cp] 27)) An k cn Ap m cp ⟨ns, ps⟩ := hd.net.later (bel1 w1 (.cells #[.slice An k cn, .slice Ap m cp] 27))
    have oz1 := hz.later (bel1 w1 (.cells #[.slice An k cn, .slice Ap m cp] 27))
    have t1 := below_step b1 (bel1 w1 (.cells #[.slice An k cn, .slice Ap m cp] 27))
    obtain ⟨net, hnet⟩ : ∃ net : Net, (⟨ns, ps⟩ : Net) = net := ⟨_, rfl⟩
    rw [hnet] at hn1
    clear hd hz b1 hnet
    obtain ⟨G, hG⟩ : ∃ G, rIsRelaxed net zs = G := ⟨_, rfl⟩
    obtain ⟨R, K, hR⟩ : ∃ R K, rResidualsOf net zs = (R, K) := ⟨_, _, rfl⟩
    have cHI := fun A n c B m d C l e w h0 h1 => implIsRelaxed_any A n c B m d net C l e zs w h0 h1
    simp only [hG] at cHI
    have HI := Lib.hid cHI
    clear cHI
    have cHJ := fun A n c B m d C l e w h0 h1 => specIsRelaxed_any A n c B m d net C l e zs w h0 h1
    simp only [hG] at cHJ
    have HJ := Lib.hid cHJ
    clear cHJ
    have cHT := fun A n c B m d C l e w h0 h1 => implResidualsOf_any A n c B m d net C l e zs w h0 h1
    simp only [RetLI, hR] at cHT
    have HT := Lib.hid cHT
    clear cHT
    have cHS := fun A n c B m d C l e w h0 h1 => specResidualsOf_any A n c B m d net C l e zs w h0 h1
    simp only [RetLI, hR] at cHS
    have HS := Lib.hid cHS
    clear cHS
    have eR := eqL_self R
    go_wp2_with fail
    refine (HI.out _ _ _ _ _ _ _ _ _ _ hn1 oz1.ints).mono ?_
    rintro e w2 ⟨rfl, b2⟩
    have hn2 := hn1.later b2
    have t2 := below_step t1 b2
    have bx2 := bx1.step b2
    have oz2 := oz1.later b2
    clear hn1 t1 b2 bx1 oz1
    have k0 := bx2.c0
    have k1 := bx2.c1
    go_wp2_with fail
    refine (HJ.out _ _ _ _ _ _ _ _ _ _ hn2 oz2.ints).mono ?_
    rintro e w3 ⟨rfl, b3⟩
    have hn3 := hn2.later b3
    have t3 := below_step t2 b3
    have bx3 := bx2.step b3
    have oz3 := oz2.later b3
    clear hn2 t2 b3 bx2 oz2 k0 k1
    have k0 := bx3.c0
    have k1 := bx3.c1
    go_wp2_with fail
    refine (HT.out _ _ _ _ _ _ _ _ _ _ hn3 oz3.ints).mono ?_
    rintro e w4 ⟨AoR, coR, rfl, oR4, foR4, b4⟩
    have hn4 := hn3.later b4
    have t4 := below_step t3 b4
    have bx4 := bx3.step b4
    have oz4 := oz3.later b4
    clear hn3 t3 b4 bx3 oz3 k0 k1
    have k0 := bx4.c0
    have k1 := bx4.c1
    go_wp2_with fail
    refine (HS.out _ _ _ _ _ _ _ _ _ _ hn4 oz4.ints).mono ?_
    rintro e w5 ⟨AoS, coS, rfl, oS5, foS5, b5⟩
    have hn5 := hn4.later b5
    have t5 := below_step t4 b5
    have bx5 := bx4.step b5
    have oz5 := oz4.later b5
    have oR5 := oR4.later b5
    clear hn4 t4 b5 bx4 oz4 oR4 k0 k1
    have k0 := bx5.c0
    have k1 := bx5.c1
    go_wp2_with fail
    refine (likeInts_any _ _ _ _ _ _ _ _ _ oR5.ints oS5.ints).mono ?_
    rintro e w6 ⟨rfl, q, rfl⟩
    rw [eR]
    have b6 := below_drew (Below.refl w5.heap.size w5) q
    generalize w5.drewN q = w6 at *
    have hn6 := hn5.later b6
    have t6 := below_step t5 b6
    have bx6 := bx5.step b6
    have oz6 := oz5.later b6
    have oR6 := oR5.later b6
    have oS6 := oS5.later b6
    clear hn5 t5 b6 bx5 oz5 oR5 oS5 k0 k1
    have k0 := bx6.c0
    have k1 := bx6.c1
    clear oS6
    by_cases hK : K = 0
    · subst hK
      obtain ⟨l1, l2, l3, l4, l5, l6⟩ := resid_law (by rw [hR] : (rResidualsOf net zs).2 = 0)
      rw [hR] at l4 l6
      simp only at l4 l6
      have hch : rChordsOf net = (nl (netG net).chords, 0) := by unfold rChordsOf; rw [l1]; rfl
      have hNL := nl_len (netG net).chords
      obtain ⟨Y, hY⟩ : ∃ Y, nl (netG net).chords = Y := ⟨_, rfl⟩
      rw [hY] at hch l6 hNL
      obtain ⟨N, hN⟩ : ∃ N, (netG net).chords.length = N := ⟨_, rfl⟩
      rw [hN] at l4 l5 l6 hNL
      rw [hG] at l6
      clear hN hY hR hG l1
      have cHC := fun A n c B m d  w h0 => implChordsOf_any A n c B m d net  w h0
      simp only [RetLI, hch] at cHC
      have HC := Lib.hid cHC
      clear cHC
      have cHD := fun A n c B m d  w h0 => specChordsOf_li A n c B m d net  w h0
      simp only [RetLI, hch] at cHD
      have HD := Lib.hid cHD
      clear cHD
      have eY := eqL_self Y
      have H3 := Lib.hid l3
      have H4 := Lib.hid l4
      have H6 := Lib.hid l6
      have HYL := Lib.hid hNL
      have hl20 := hL
      have hyr : ((Y.length : Int) != (R.length : Int)) = false := by simp; omega
      have HZL := Lib.hid oz6.len
      clear hch l2 l3 l4 l6 hNL
      go_wp2_with fail
      refine (HC.out _ _ _ _ _ _ _ hn6).mono ?_
      rintro e w7 ⟨AoY, coY, rfl, oY7, foY7, b7⟩
      have hn7 := hn6.later b7
      have t7 := below_step t6 b7
      have bx7 := bx6.step b7
      have oz7 := oz6.later b7
      have oR7 := oR6.later b7
      clear hn6 t6 b7 bx6 oz6 oR6 k0 k1
      have k0 := bx7.c0
      have k1 := bx7.c1
      go_wp2_with fail
      refine (HD.out _ _ _ _ _ _ _ hn7).mono ?_
      rintro e w8 ⟨AoW, coW, rfl, oW8, foW8, b8⟩
      have hn8 := hn7.later b8
      have t8 := below_step t7 b8
      have bx8 := bx7.step b8
      have oz8 := oz7.later b8
      have oR8 := oR7.later b8
      have oY8 := oY7.later b8
      clear hn7 t7 b8 bx7 oz7 oR7 oY7 k0 k1
      have k0 := bx8.c0
      have k1 := bx8.c1
      go_wp2_with fail
      refine (likeInts_any _ _ _ _ _ _ _ _ _ oY8.ints oW8.ints).mono ?_
      rintro e w9 ⟨rfl, q, rfl⟩
      rw [eY]
      have b9 := below_drew (Below.refl w8.heap.size w8) q
      generalize w8.drewN q = w9 at *
      have hn9 := hn8.later b9
      have t9 := below_step t8 b9
      have bx9 := bx8.step b9
      have oz9 := oz8.later b9
      have oR9 := oR8.later b9
      have oY9 := oY8.later b9
      have oW9 := oW8.later b9
      clear hn8 t8 b9 bx8 oz8 oR8 oY8 oW8 k0 k1
      have k0 := bx9.c0
      have k1 := bx9.c1
      clear oW9
      go_wp2_with fail
      go_loopw [14, 15] (fun f i wr => ∃ (j : Nat) (u : Bool), f = .bool u ∧ i = .int .i64 (j : Int) ∧ j ≤ L ∧ Hid (u = false → ∀ i, i < j → ab (ig zs i) < 30000) ∧ Below w9.heap.size w9 wr) (fun _ i _ => L - (intOf i).toNat)
      case atStart => exact ⟨0, false, rfl, rfl, by omega, Lib.hid (fun _ i hi => absurd hi (by omega)), Below.refl _ _⟩
      case round =>
        obtain ⟨j, u, rfl, rfl, hj, hfar, hb⟩ := hrel
        by_cases hjl : j < L
        · have hji : (j : Int) < (L : Int) := by omega
          rcases u with _ | _
          · obtain ⟨bz, offz, el, hblz, hcz⟩ := (oz9.later hb).ints.cells (by omega)
            subst el
            have q0 := hcz j hjl
            have hrj := H3.out j
            clear hcz
            by_cases h3 : ab (ig zs j) < 30000
            · have hf2 : Hid (∀ i, i < j + 1 → ab (ig zs i) < 30000) := Lib.hid (fun i hi => by
                rcases Nat.lt_or_ge i j with h1 | h1
                · first | exact hfar.out rfl i h1 | exact hfar.out trivial i h1 | exact hfar.out i h1
                · have : i = j := by omega
                  subst this; exact h3)
              have hge : decide (ab (ig zs j) ≥ 30000) = false := decide_eq_false (by omega)
              have hge2 : ¬ (30000 ≤ ab (ig zs j)) := by omega
              clear hfar h3
              go_wp2_with fail
              refine (size_any _ _ ⟨by omega, by omega⟩).mono ?_
              rintro e w' ⟨rfl, rfl⟩
              go_wp2_with fail
              go_roundw
              case rel => exact ⟨j + 1, false, by first | rfl | simp [hge2], by go_num, by omega, Lib.hid (fun _ => hf2.out), hb⟩
              case measure => simp [intOf]; omega
            · have hge2 : 30000 ≤ ab (ig zs j) := by omega
              clear hfar h3
              go_wp2_with fail
              refine (size_any _ _ ⟨by omega, by omega⟩).mono ?_
              rintro e w' ⟨rfl, rfl⟩
              go_wp2_with fail
              go_roundw
              case rel => exact ⟨j + 1, true, by first | rfl | simp [hge2], by go_num, by omega, Lib.hid (fun h => by cases h), hb⟩
              case measure => simp [intOf]; omega
          · clear hfar
            go_wp2_with fail
            go_roundw
            case rel => exact ⟨j + 1, true, by rfl, by go_num, by omega, Lib.hid (fun h => by cases h), hb⟩
            case measure => simp [intOf]; omega
        · have hji : ¬ (j : Int) < (L : Int) := by omega
          have hfarL : Hid (u = false → ∀ i, i < zs.length → ab (ig zs i) < 30000) := Lib.hid (fun h i hi => hfar.out h i (by have := HZL.out; omega))
          have b10 := hb
          clear hfar hb
          obtain ⟨w10, hw⟩ : ∃ w10, w10 = wr := ⟨_, rfl⟩
          subst hw
          have hn10 := hn9.later b10
          have t10 := below_step t9 b10
          have bx10 := bx9.step b10
          have oz10 := oz9.later b10
          have oR10 := oR9.later b10
          have oY10 := oY9.later b10
          clear hn9 t9 b10 bx9 oz9 oR9 oY9 k0 k1
          have k0 := bx10.c0
          have k1 := bx10.c1
          go_wp2_with fail
          go_loopw [16, 17, 18, 19, 20, 21, 22] (fun i _ _ _ _ _ _ wr => ∃ j : Nat, i = .int .i64 (j : Int) ∧ j ≤ Y.length ∧ Below w10.heap.size w10 wr) (fun i _ _ _ _ _ _ _ => Y.length - (intOf i).toNat)
          case atStart => exact ⟨0, rfl, by omega, Below.refl _ _⟩
          case round =>
            obtain ⟨j, rfl, hj, hb⟩ := hrel
            by_cases hjl : j < Y.length
            · have hji : (j : Int) < (Y.length : Int) := by omega
              have hjr : (j : Int) < (R.length : Int) := by have := HYL.out; have := H4.out; omega
              have hY40 : Y.length ≤ 40 := by have := HYL.out; omega
              obtain ⟨r, bb, e1, e2, e3, e4, e5, e6⟩ := H6.out j (by have := HYL.out; omega)
              have hcI : I64 (ig Y j) := oY10.i64 j
              have hRes := fun A n c B m d C l e w h0 h1 => implResidualOf_any A n c B m d net C l e zs (ig Y j) w h0 h1 hcI
              have hBnd := fun A n c B m d C l e w h0 h1 => implResidualBound_any A n c B m d net C l e zs (ig Y j) w h0 h1 hcI
              have hBnd2 := fun A n c B m d C l e w h0 h1 => specResidualBound_any A n c B m d net C l e zs (ig Y j) w h0 h1 hcI
              simp only [e1] at hRes
              simp only [e2] at hBnd hBnd2
              have HRes := Lib.hid hRes
              have HBnd := Lib.hid hBnd
              have HBnd2 := Lib.hid hBnd2
              have HE6 := Lib.hid e6
              have HLB := Lib.hid (LB.mk (w0 := w) (bx10.step hb) (hn10.later hb) (oz10.later hb) (oY10.later hb) (below_step t10 hb))
              have HR0 := Lib.hid (oR10.later hb)
              have hbs := hb.size
              have y0 := HLB.out.bx.c0
              have y1 := HLB.out.bx.c1
              obtain ⟨gy, ey, hgy⟩ := HLB.out.ox.pos (by omega)
              subst ey
              obtain ⟨gr, er, hgr⟩ := HR0.out.pos (by have := HYL.out; have := H4.out; omega)
              subst er
              have hjR : j < R.length := by have := HYL.out; have := H4.out; omega
              have q0 := HLB.out.ox.cell hjl
              have HE3 := Lib.hid e3
              clear hRes hBnd hBnd2 e1 e2 e3 e6 k0 k1
              have HA0 := Lib.hid (HLB.out.drewN 1)
              have HA1 := Lib.hid (HR0.out.later (below_drew (Below.refl _ _) 1))
              go_wp2_with fail
              go_region_with (go_at_call 14; refine (HRes.out _ _ _ _ _ _ _ _ _ _ HA0.out.hn HA0.out.oz.ints).mono ?_; rintro e wa ⟨rfl, ba⟩; have HA2 := Lib.hid (HA0.out.step ba); have HA3 := Lib.hid (HA1.out.later ba); have HAB := Lib.hid (below_step (below_drew (Below.refl wr.heap.size wr) 1) ba); have wa0 := HA2.out.bx.c0; have wa1 := HA2.out.bx.c1; have wa2 := HA2.out.ox.cell hjl; clear ba)
              all_goals
                have HB0 := Lib.hid (HA2.out.drewN 1)
                have HB1 := Lib.hid (HA3.out.later (below_drew (Below.refl _ _) 1))
                clear HA0 HA1 HA2 HA3
                go_wp2_with fail
                go_region_with (go_at_call 15; refine (HBnd.out _ _ _ _ _ _ _ _ _ _ HB0.out.hn HB0.out.oz.ints).mono ?_; rintro e wb ⟨rfl, ba⟩; have HB2 := Lib.hid (HB0.out.step ba); have HB3 := Lib.hid (HB1.out.later ba); have HBB := Lib.hid (below_step (below_drew HAB.out 1) ba); have wb0 := HB2.out.bx.c0; have wb1 := HB2.out.bx.c1; have wb2 := HB2.out.ox.cell hjl; clear ba)
                all_goals
                  have HC0 := Lib.hid (HB2.out.drewN 1)
                  have HC1 := Lib.hid (HB3.out.later (below_drew (Below.refl _ _) 1))
                  clear HB0 HB1 HB2 HB3
                  go_wp2_with fail
                  go_region_with (go_at_call 16; refine (HBnd2.out _ _ _ _ _ _ _ _ _ _ HC0.out.hn HC0.out.oz.ints).mono ?_; rintro e wc ⟨rfl, ba⟩; have HC2 := Lib.hid (HC0.out.step ba); have HC3 := Lib.hid (HC1.out.later ba); have HCB := Lib.hid (below_step (below_drew HBB.out 1) ba); have wc0 := HC2.out.bx.c0; have wc1 := HC2.out.bx.c1; have wc2 := HC2.out.ox.cell hjl; clear ba)
                  all_goals
                    have r0 := HC3.out.cell hjR
                    rw [HE3.out] at r0
                    have hbE := Lib.hid (below_step hb HCB.out)
                    rcases G with _ | _
                    · go_wp2_with fail
                      go_roundw
                      case rel => exact ⟨j + 1, by go_num, by omega, hbE.out⟩
                      case measure => simp [intOf]; omega
                    · rcases u with _ | _
                      · have hfa : ∀ i, i < zs.length → ab (ig zs i) < 30000 := by first | exact hfarL.out rfl | exact hfarL.out trivial | exact hfarL.out
                        have hle : 3 * ab r ≤ bb := by first | exact HE6.out rfl hfa | exact HE6.out trivial hfa | exact HE6.out hfa
                        have ha0 := ab_nn r
                        have ha1 := ab_le e4 e5
                        have hgt : decide (3 * ab r > bb) = false := decide_eq_false (by omega)
                        clear hfa
                        go_wp2_with fail
                        refine (size_any _ _ ⟨by omega, by omega⟩).mono ?_
                        rintro e w' ⟨rfl, rfl⟩
                        go_wp2_with fail
                        go_roundw
                        case rel => exact ⟨j + 1, by go_num, by omega, hbE.out⟩
                        case measure => simp [intOf]; omega
                      · go_wp2_with fail
                        go_roundw
                        case rel => exact ⟨j + 1, by go_num, by omega, hbE.out⟩
                        case measure => simp [intOf]; omega
            · have hji : ¬ (j : Int) < (Y.length : Int) := by omega
              go_wp2_with fail
              go_ret
              exact ⟨rfl, below_step t10 hb⟩
    · have hK' : (K != 0) = true := by simp [hK]
      clear hK hR hG
      go_wp2_with fail
      go_ret
      exact ⟨rfl, t6⟩

end Go.Proofs.YtllblmndoigdlaaGreat
