/- the law FnTrees -/
import Derived.Test.YtioiebjgjimeiaaDd
import Derived.Test.YtioiebjgjimeiaaVt
import Derived.Test.YtioiebjgjimeiaaM5
import Derived.Test.YtioiebjgjimeiaaDx
namespace Go.Proofs.Ytioiebjgjimeiaa
open Go.RowKit

set_option maxRecDepth 100000 in
set_option maxHeartbeats 8000000 in
theorem lawTrees_any (A : Option Addr) (n c : Nat) (bs : List Int) (w : World) (h : Bytes w A n c bs) :
    Calls Try.prog 7 #[.slice A n c] w fun e w' => e = .returned (.bool true) ∧ Below w.heap.size w w' := by
  by_cases hbig : 4096 < n
  · have hb' : decide (4096 < n) = true := by simp [hbig]
    go_enter Try.func7, Try.ntmps7
    go_wp2_with fail
    refine (big_any _ _ _ _).mono ?_
    rintro e w' ⟨rfl, rfl⟩
    rw [hb']
    go_wp2_with fail
    go_ret
    exact ⟨rfl, Below.refl _ _⟩
  · have hb' : decide (4096 < n) = false := by simp [hbig]
    go_enter Try.func7, Try.ntmps7
    go_wp2_with fail
    refine (big_any _ _ _ _).mono ?_
    rintro e w' ⟨rfl, rfl⟩
    rw [hb']
    go_wp2_with fail
    refine (DrawTreeLevels_any _ _ _ _ _ h).mono ?_
    rintro e w1 ⟨An, k, cn, Ap, m, cp, ns, ps, Al, L, cl, zs, x, y, rfl, hd, hz, _, hk, hm, hL, hx, hy, b1⟩
    have bx1 : BX (w1.alloc (.cells #[.slice An k cn, .slice Ap m cp] 27)) w1.heap.size An k cn Ap m cp := ⟨heap_alloc_new w1 _⟩
    have hn1 : NetAt (w1.alloc (.cells #[.slice An k cn, .slice Ap m cp] 27)) An k cn Ap m cp ⟨ns, ps⟩ := hd.net.later (bel1 w1 (.cells #[.slice An k cn, .slice Ap m cp] 27))
    have oz1 := hz.later (bel1 w1 (.cells #[.slice An k cn, .slice Ap m cp] 27))
    have t1 := below_step b1 (bel1 w1 (.cells #[.slice An k cn, .slice Ap m cp] 27))
    obtain ⟨net, hnet⟩ : ∃ net : Net, (⟨ns, ps⟩ : Net) = net := ⟨_, rfl⟩
    rw [hnet] at hn1
    clear hd hz b1 hnet
    by_cases hK : (rTreeLevels net zs x y).2 = 0
    · obtain ⟨F, L1, l1, l2, l3, l4, l5, l6, l7, l8⟩ := trees_law hK
      clear hK
      obtain ⟨D, hD⟩ : ∃ D, drL net F net.pipes.length = D := ⟨_, rfl⟩
      have hDl : D.length = net.pipes.length := by rw [← hD, drL_len]
      rw [hD] at l6 l8
      have HDL := Lib.hid hDl
      have HL3 := Lib.hid l3
      clear hDl l3
      have cHT := fun A n c B m d C l e w h0 h1 => implTreeLevels_any A n c B m d net C l e zs x y w h0 h1 hx hy
      simp only [RetLI, l2] at cHT
      have HT := Lib.hid cHT
      clear cHT
      have cHS := fun A n c B m d C l e w h0 h1 => specTreeLevels_any A n c B m d net C l e zs x y w h0 h1 hx hy
      simp only [RetLI, l2] at cHS
      have HS := Lib.hid cHS
      clear cHS
      have cHF := fun A n c B m d C l e w h0 h1 => implTreeFlows_any A n c B m d net C l e zs w h0 h1
      simp only [RetLI, l1] at cHF
      have HF := Lib.hid cHF
      clear cHF
      have cHG := fun A n c B m d C l e w h0 h1 => specTreeFlows_any A n c B m d net C l e zs w h0 h1
      simp only [RetLI, l1] at cHG
      have HG := Lib.hid cHG
      clear cHG
      have cHD := fun A n c B m d C l e w h0 h1 => implDropsOf_any A n c B m d net C l e F w h0 h1
      simp only [RetLI, l6] at cHD
      have HD := Lib.hid cHD
      clear cHD
      have cHE := fun A n c B m d C l e w h0 h1 => specDropsOf_any A n c B m d net C l e F w h0 h1
      simp only [RetLI, l6] at cHE
      have HE := Lib.hid cHE
      clear cHE
      have cHB := fun A n c B m d C l e C2 l2 e2 w h0 h1 h2 => implIsBalanced_any A n c B m d net C l e F C2 l2 e2 zs w h0 h1 h2
      simp only [l7] at cHB
      have HB := Lib.hid cHB
      clear cHB
      have eL := eqL_self L1
      have eF := eqL_self F
      have eD := eqL_self D
      have HL8 := Lib.hid l8
      have HL4 := Lib.hid l4
      clear l1 l2 l6 l7 l8 l4 hD
      go_wp2_with fail
      refine (HT.out _ _ _ _ _ _ _ _ _ _ hn1 oz1.ints).mono ?_
      rintro e w2 ⟨AoL, coL, rfl, oL2, foL2, b2⟩
      have hn2 := hn1.later b2
      have t2 := below_step t1 b2
      have bx2 := bx1.step b2
      have oz2 := oz1.later b2
      clear hn1 t1 b2 bx1 oz1
      have k0 := bx2.c0
      have k1 := bx2.c1
      go_wp2_with fail
      refine (HS.out _ _ _ _ _ _ _ _ _ _ hn2 oz2.ints).mono ?_
      rintro e w3 ⟨AoM, coM, rfl, oM3, foM3, b3⟩
      have hn3 := hn2.later b3
      have t3 := below_step t2 b3
      have bx3 := bx2.step b3
      have oz3 := oz2.later b3
      have oL3 := oL2.later b3
      clear hn2 t2 b3 bx2 oz2 oL2 k0 k1
      have k0 := bx3.c0
      have k1 := bx3.c1
      go_wp2_with fail
      refine (likeInts_any _ _ _ _ _ _ _ _ _ oL3.ints oM3.ints).mono ?_
      rintro e w4 ⟨rfl, q, rfl⟩
      rw [eL]
      have b4 := below_drew (Below.refl w3.heap.size w3) q
      generalize w3.drewN q = w4 at *
      have hn4 := hn3.later b4
      have t4 := below_step t3 b4
      have bx4 := bx3.step b4
      have oz4 := oz3.later b4
      have oL4 := oL3.later b4
      have oM4 := oM3.later b4
      clear hn3 t3 b4 bx3 oz3 oL3 oM3 k0 k1
      have k0 := bx4.c0
      have k1 := bx4.c1
      clear oM4
      go_wp2_with fail
      refine (HF.out _ _ _ _ _ _ _ _ _ _ hn4 oz4.ints).mono ?_
      rintro e w5 ⟨AoF, coF, rfl, oF5, foF5, b5⟩
      have hn5 := hn4.later b5
      have t5 := below_step t4 b5
      have bx5 := bx4.step b5
      have oz5 := oz4.later b5
      have oL5 := oL4.later b5
      clear hn4 t4 b5 bx4 oz4 oL4 k0 k1
      have k0 := bx5.c0
      have k1 := bx5.c1
      go_wp2_with fail
      refine (HG.out _ _ _ _ _ _ _ _ _ _ hn5 oz5.ints).mono ?_
      rintro e w6 ⟨AoG, coG, rfl, oG6, foG6, b6⟩
      have hn6 := hn5.later b6
      have t6 := below_step t5 b6
      have bx6 := bx5.step b6
      have oz6 := oz5.later b6
      have oL6 := oL5.later b6
      have oF6 := oF5.later b6
      clear hn5 t5 b6 bx5 oz5 oL5 oF5 k0 k1
      have k0 := bx6.c0
      have k1 := bx6.c1
      go_wp2_with fail
      refine (HD.out _ _ _ _ _ _ _ _ _ _ hn6 oF6.ints).mono ?_
      rintro e w7 ⟨AoD, coD, rfl, oD7, foD7, b7⟩
      have hn7 := hn6.later b7
      have t7 := below_step t6 b7
      have bx7 := bx6.step b7
      have oz7 := oz6.later b7
      have oL7 := oL6.later b7
      have oF7 := oF6.later b7
      have oG7 := oG6.later b7
      clear hn6 t6 b7 bx6 oz6 oL6 oF6 oG6 k0 k1
      have k0 := bx7.c0
      have k1 := bx7.c1
      go_wp2_with fail
      refine (HE.out _ _ _ _ _ _ _ _ _ _ hn7 oF7.ints).mono ?_
      rintro e w8 ⟨AoE, coE, rfl, oE8, foE8, b8⟩
      have hn8 := hn7.later b8
      have t8 := below_step t7 b8
      have bx8 := bx7.step b8
      have oz8 := oz7.later b8
      have oL8 := oL7.later b8
      have oF8 := oF7.later b8
      have oG8 := oG7.later b8
      have oD8 := oD7.later b8
      clear hn7 t7 b8 bx7 oz7 oL7 oF7 oG7 oD7 k0 k1
      have k0 := bx8.c0
      have k1 := bx8.c1
      go_wp2_with fail
      refine (likeInts_any _ _ _ _ _ _ _ _ _ oD8.ints oE8.ints).mono ?_
      rintro e w9 ⟨rfl, q, rfl⟩
      rw [eD]
      have b9 := below_drew (Below.refl w8.heap.size w8) q
      generalize w8.drewN q = w9 at *
      have hn9 := hn8.later b9
      have t9 := below_step t8 b9
      have bx9 := bx8.step b9
      have oz9 := oz8.later b9
      have oL9 := oL8.later b9
      have oF9 := oF8.later b9
      have oG9 := oG8.later b9
      have oD9 := oD8.later b9
      have oE9 := oE8.later b9
      clear hn8 t8 b9 bx8 oz8 oL8 oF8 oG8 oD8 oE8 k0 k1
      have k0 := bx9.c0
      have k1 := bx9.c1
      clear oE9
      have HPL := Lib.hid hn9.pipes.len
      have HNL := Lib.hid hn9.nodes.len
      have hmm2 : ((D.length : Int) != (m : Int)) = false := by have := HDL.out; have := HPL.out; simp; omega
      go_wp2_with fail
      refine (likeInts_any _ _ _ _ _ _ _ _ _ oF9.ints oG9.ints).mono ?_
      rintro e w10 ⟨rfl, q, rfl⟩
      rw [eF]
      have b10 := below_drew (Below.refl w9.heap.size w9) q
      generalize w9.drewN q = w10 at *
      have hn10 := hn9.later b10
      have t10 := below_step t9 b10
      have bx10 := bx9.step b10
      have oz10 := oz9.later b10
      have oL10 := oL9.later b10
      have oF10 := oF9.later b10
      have oG10 := oG9.later b10
      have oD10 := oD9.later b10
      clear hn9 t9 b10 bx9 oz9 oL9 oF9 oG9 oD9 k0 k1
      have k0 := bx10.c0
      have k1 := bx10.c1
      clear oG10
      go_wp2_with fail
      go_loopw [19] (fun i wr => ∃ j : Nat, i = .int .i64 (j : Int) ∧ j ≤ m ∧ Below w10.heap.size w10 wr) (fun i _ => m - (intOf i).toNat)
      case atStart => exact ⟨0, rfl, by omega, Below.refl _ _⟩
      case round =>
        obtain ⟨j, rfl, hj, hb⟩ := hrel
        have hbs := hb.size
        have bxr := bx10.step hb
        have y0 := bxr.c0
        have y1 := bxr.c1
        clear k0 k1
        by_cases hjm : j < m
        · have hji : (j : Int) < (m : Int) := by omega
          obtain ⟨f, t, hf, ht, ef, et, hdiff⟩ := HL8.out j (by have := HPL.out; omega)
          obtain ⟨bp, offp, rfl, hblp, hcp⟩ := (hn10.later hb).pipes.cells (by omega)
          obtain ⟨bl, offl, rfl, hbll, hcl⟩ := (oL10.later hb).ints.cells (by have := HL3.out; omega)
          obtain ⟨bd, offd, rfl, hbld, hcd⟩ := (oD10.later hb).ints.cells (by have := HDL.out; have := HPL.out; omega)
          obtain ⟨p0, p1, p2, p3, p4⟩ := hcp j (by omega)
          rw [ef] at p0
          rw [et] at p1
          have q0 := hcl f (by have := HL3.out; omega)
          have q1 := hcl t (by have := HL3.out; omega)
          have q2 := hcd j (by have := HDL.out; have := HPL.out; omega)
          have hfl : (f : Int) < (L1.length : Int) := by have := HL3.out; omega
          have htl : (t : Int) < (L1.length : Int) := by have := HL3.out; omega
          have hjd : (j : Int) < (D.length : Int) := by have := HDL.out; have := HPL.out; omega
          have v0 := HL4.out f
          have v1 := HL4.out t
          clear hcp hcl hcd p2 p3 p4 ef et
          generalize ig L1 f = X at *
          generalize ig L1 t = Y at *
          generalize ig D j = Z at *
          subst hdiff
          go_wp2_with fail
          go_quiet (fail)
          go_wp2_with fail
          go_roundw
          case rel => exact ⟨j + 1, by go_num, by omega, below_drew hb _⟩
          case measure => simp [intOf]; omega
        · have hji : ¬ (j : Int) < (m : Int) := by omega
          have b11 := hb
          obtain ⟨w11, hw⟩ : ∃ w11, wr = w11 := ⟨_, rfl⟩
          subst hw
          clear y0 y1 bxr
          have hn11 := hn10.later b11
          have t11 := below_step t10 b11
          have bx11 := bx10.step b11
          have oz11 := oz10.later b11
          have oL11 := oL10.later b11
          have oF11 := oF10.later b11
          have oD11 := oD10.later b11
          clear hn10 t10 b11 bx10 oz10 oL10 oF10 oD10
          have k0 := bx11.c0
          have k1 := bx11.c1
          go_wp2_with fail
          refine (HB.out _ _ _ _ _ _ _ _ _ _ _ _ _ hn11 oF11.ints oz11.ints).mono ?_
          rintro e w12 ⟨rfl, b12⟩
          have hn12 := hn11.later b12
          have t12 := below_step t11 b12
          have bx12 := bx11.step b12
          have oz12 := oz11.later b12
          have oL12 := oL11.later b12
          have oF12 := oF11.later b12
          have oD12 := oD11.later b12
          clear hn11 t11 b12 bx11 oz11 oL11 oF11 oD11 k0 k1
          have k0 := bx12.c0
          have k1 := bx12.c1
          go_wp2_with fail
          go_ret
          exact ⟨rfl, t12⟩
    · obtain ⟨R, K, hR⟩ : ∃ R K, rTreeLevels net zs x y = (R, K) := ⟨_, _, rfl⟩
      rw [hR] at hK
      simp only at hK
      have cHT := fun A n c B m d C l e w h0 h1 => implTreeLevels_any A n c B m d net C l e zs x y w h0 h1 hx hy
      simp only [RetLI, hR] at cHT
      have HT := Lib.hid cHT
      clear cHT
      have cHS := fun A n c B m d C l e w h0 h1 => specTreeLevels_any A n c B m d net C l e zs x y w h0 h1 hx hy
      simp only [RetLI, hR] at cHS
      have HS := Lib.hid cHS
      clear cHS
      have hK' : (K != 0) = true := by simp [hK]
      have eR := eqL_self R
      clear hK hR
      go_wp2_with fail
      refine (HT.out _ _ _ _ _ _ _ _ _ _ hn1 oz1.ints).mono ?_
      rintro e w2 ⟨AoL, coL, rfl, oL2, foL2, b2⟩
      have hn2 := hn1.later b2
      have t2 := below_step t1 b2
      have bx2 := bx1.step b2
      have oz2 := oz1.later b2
      clear hn1 t1 b2 bx1 oz1
      have k0 := bx2.c0
      have k1 := bx2.c1
      go_wp2_with fail
      refine (HS.out _ _ _ _ _ _ _ _ _ _ hn2 oz2.ints).mono ?_
      rintro e w3 ⟨AoM, coM, rfl, oM3, foM3, b3⟩
      have hn3 := hn2.later b3
      have t3 := below_step t2 b3
      have bx3 := bx2.step b3
      have oz3 := oz2.later b3
      have oL3 := oL2.later b3
      clear hn2 t2 b3 bx2 oz2 oL2 k0 k1
      have k0 := bx3.c0
      have k1 := bx3.c1
      go_wp2_with fail
      refine (likeInts_any _ _ _ _ _ _ _ _ _ oL3.ints oM3.ints).mono ?_
      rintro e w4 ⟨rfl, q, rfl⟩
      rw [eR]
      have b4 := below_drew (Below.refl w3.heap.size w3) q
      generalize w3.drewN q = w4 at *
      have hn4 := hn3.later b4
      have t4 := below_step t3 b4
      have bx4 := bx3.step b4
      have oz4 := oz3.later b4
      have oL4 := oL3.later b4
      have oM4 := oM3.later b4
      clear hn3 t3 b4 bx3 oz3 oL3 oM3 k0 k1
      have k0 := bx4.c0
      have k1 := bx4.c1
      go_wp2_with fail
      go_ret
      exact ⟨rfl, t4⟩

end Go.Proofs.Ytioiebjgjimeiaa
