/- the law FnForestFlows -/
import Derived.Test.YtllblmndoigdlaaDh
import Derived.Test.YtllblmndoigdlaaDy
import Derived.Test.YtllblmndoigdlaaVp
import Derived.Test.YtllblmndoigdlaaRh
import Derived.Test.YtllblmndoigdlaaM4
import Derived.Test.YtllblmndoigdlaaJ4
namespace Go.Proofs.Ytllblmndoigdlaa
open Go.RowKit

set_option maxRecDepth 100000 in
set_option maxHeartbeats 8000000 in
theorem lawForestFlows_any (A : Option Addr) (n c : Nat) (bs : List Int) (w : World) (h : Bytes w A n c bs) :
    Calls Try.prog 4 #[.slice A n c] w fun e w' => e = .returned (.bool true) ∧ Below w.heap.size w w' := by
  by_cases hbig : 4096 < n
  · have hb' : decide (4096 < n) = true := by simp [hbig]
    go_enter Try.func4, Try.ntmps4
    go_wp2_with fail
    refine (big_any _ _ _ _).mono ?_
    rintro e w' ⟨rfl, rfl⟩
    rw [hb']
    go_wp2_with fail
    go_ret
    exact ⟨rfl, Below.refl _ _⟩
  · have hb' : decide (4096 < n) = false := by simp [hbig]
    go_enter Try.func4, Try.ntmps4
    go_wp2_with fail
    refine (big_any _ _ _ _).mono ?_
    rintro e w' ⟨rfl, rfl⟩
    rw [hb']
    go_wp2_with fail
    refine (DrawForestFlows_any _ _ _ _ _ h).mono ?_
    rintro e w1 ⟨An, k, cn, Ap, m, cp, ns, ps, Al, L, cl, zs, rfl, hd, hz, _, hk, hm, hL, b1⟩
    have bx1 : BX (w1.alloc (.cells #[.slice An k cn, .slice Ap m cp] 27)) w1.heap.size An k cn Ap m cp := ⟨heap_alloc_new w1 _⟩
    have hn1 : NetAt (w1.alloc (.cells #[.slice An k cn, .slice Ap m cp] 27)) An k cn Ap m cp ⟨ns, ps⟩ := hd.net.later (bel1 w1 (.cells #[.slice An k cn, .slice Ap m cp] 27))
    have oz1 := hz.later (bel1 w1 (.cells #[.slice An k cn, .slice Ap m cp] 27))
    have t1 := below_step b1 (bel1 w1 (.cells #[.slice An k cn, .slice Ap m cp] 27))
    obtain ⟨net, hnet⟩ : ∃ net : Net, (⟨ns, ps⟩ : Net) = net := ⟨_, rfl⟩
    rw [hnet] at hn1
    clear hd hz b1 hnet
    obtain ⟨E, hE⟩ : ∃ E, rIsEven net zs = E := ⟨_, rfl⟩
    have cHE := fun A n c B m d C l e w h0 h1 => implIsEven_any A n c B m d net C l e zs w h0 h1
    simp only [hE] at cHE
    have HE := Lib.hid cHE
    clear cHE
    have cHG := fun A n c B m d C l e w h0 h1 => specIsEven_any A n c B m d net C l e zs w h0 h1
    simp only [hE] at cHG
    have HG := Lib.hid cHG
    clear cHG
    clear hE
    by_cases hK : (rForestFlows net zs).2 = 0
    · obtain ⟨l1, l2, l3, l4⟩ := ffl_law hK
      clear hK
      obtain ⟨X, hX⟩ : ∃ X, ffL net zs = X := ⟨_, rfl⟩
      have h40 : (chF net (ffL net zs)).length ≤ 40 := by rw [chF_len]; have h1 := chords_le net; have h2 := (netB_sizes (bal_facts l4).1).2.2; omega
      rw [hX] at l1 l2 l3 l4 h40
      obtain ⟨Y, hY⟩ : ∃ Y, chF net X = Y := ⟨_, rfl⟩
      rw [hY] at l2 l3 h40
      clear hX hY
      have cHT := fun A n c B m d C l e w h0 h1 => implForestFlows_any A n c B m d net C l e zs w h0 h1
      simp only [RetLI, l1] at cHT
      have HT := Lib.hid cHT
      clear cHT
      have cHS := fun A n c B m d C l e w h0 h1 => specForestFlows_any A n c B m d net C l e zs w h0 h1
      simp only [RetLI, l1] at cHS
      have HS := Lib.hid cHS
      clear cHS
      have cHC := fun A n c B m d C l e w h0 h1 => implChordFlows_any A n c B m d net C l e X w h0 h1
      simp only [RetLI, l2] at cHC
      have HC := Lib.hid cHC
      clear cHC
      have cHD := fun A n c B m d C l e w h0 h1 => specChordFlows_any A n c B m d net C l e X w h0 h1
      simp only [RetLI, l2] at cHD
      have HD := Lib.hid cHD
      clear cHD
      have cHI := fun A n c B m d C l e C2 l2 e2 w h0 h1 h2 => implIsBalanced_any A n c B m d net C l e X C2 l2 e2 zs w h0 h1 h2
      simp only [l4] at cHI
      have HI := Lib.hid cHI
      clear cHI
      have HL3 := Lib.hid l3
      have eX := eqL_self X
      have eY := eqL_self Y
      clear l1 l2 l3 l4
      go_wp2_with fail
      refine (HT.out _ _ _ _ _ _ _ _ _ _ hn1 oz1.ints).mono ?_
      rintro e w2 ⟨AoX, coX, rfl, oX2, foX2, b2⟩
      have hn2 := hn1.later b2
      have t2 := below_step t1 b2
      have bx2 := bx1.step b2
      have oz2 := oz1.later b2
      clear hn1 t1 b2 bx1 oz1
      have k0 := bx2.c0
      have k1 := bx2.c1
      go_wp2_with fail
      refine (HS.out _ _ _ _ _ _ _ _ _ _ hn2 oz2.ints).mono ?_
      rintro e w3 ⟨AoY, coY, rfl, oY3, foY3, b3⟩
      have hn3 := hn2.later b3
      have t3 := below_step t2 b3
      have bx3 := bx2.step b3
      have oz3 := oz2.later b3
      have oX3 := oX2.later b3
      clear hn2 t2 b3 bx2 oz2 oX2 k0 k1
      have k0 := bx3.c0
      have k1 := bx3.c1
      have HB := Lib.hid (LB.mk (w0 := w) bx3 hn3 oz3 oX3 t3)
      have HB0 := Lib.hid (HB.out.drewN 1)
      have HY0 := Lib.hid (oY3.later (below_drew (Below.refl _ _) 1))
      have hmark : Hid (0 < 1) := Lib.hid (by decide)
      clear bx3 hn3 oz3 oX3 t3 oY3
      go_wp2_with fail
      go_region_with (first | (go_at_call 15; refine (likeInts_any _ _ _ _ _ _ _ _ _ HB0.out.ox.ints HY0.out.ints).mono ?_; rintro e wa ⟨rfl, qa, rfl⟩; rw [eX]; have HB1 := Lib.hid (HB0.out.drewN qa); generalize World.drewN _ qa = wa at *; have a0 := HB1.out.bx.c0; have a1 := HB1.out.bx.c1) | (clear hmark; (first | (go_at_call 19; refine (HE.out _ _ _ _ _ _ _ _ _ _ HB1.out.hn HB1.out.oz.ints).mono ?_) | (go_at_call 20; refine (HG.out _ _ _ _ _ _ _ _ _ _ HB1.out.hn HB1.out.oz.ints).mono ?_)); rintro e wb ⟨rfl, bb⟩; have HB2 := Lib.hid (HB1.out.step bb); have e0 := HB2.out.bx.c0; have e1 := HB2.out.bx.c1; clear bb) | ((first | (go_at_call 19; refine (HE.out _ _ _ _ _ _ _ _ _ _ HB2.out.hn HB2.out.oz.ints).mono ?_) | (go_at_call 20; refine (HG.out _ _ _ _ _ _ _ _ _ _ HB2.out.hn HB2.out.oz.ints).mono ?_)); rintro e wc ⟨rfl, bc⟩; have HB3 := Lib.hid (HB2.out.step bc); have i0 := HB3.out.bx.c0; have i1 := HB3.out.bx.c1; clear bc))
      all_goals
        have bx9 := HB3.out.bx
        have hn9 := HB3.out.hn
        have oz9 := HB3.out.oz
        have oX9 := HB3.out.ox
        have t9 := HB3.out.t
        clear HB HB0 HB1 HB2 HB3 HY0 a0 a1 e0 e1 i0 i1
        have k0 := bx9.c0
        have k1 := bx9.c1
        obtain ⟨w9, hw9⟩ : ∃ w9, wc = w9 := ⟨_, rfl⟩
        subst hw9
        go_wp2_with fail
        refine (HC.out _ _ _ _ _ _ _ _ _ _ hn9 oX9.ints).mono ?_
        rintro e w10 ⟨AoC, coC, rfl, oC10, foC10, b10⟩
        have hn10 := hn9.later b10
        have t10 := below_step t9 b10
        have bx10 := bx9.step b10
        have oz10 := oz9.later b10
        have oX10 := oX9.later b10
        clear hn9 t9 b10 bx9 oz9 oX9 k0 k1
        have k0 := bx10.c0
        have k1 := bx10.c1
        go_wp2_with fail
        refine (HD.out _ _ _ _ _ _ _ _ _ _ hn10 oX10.ints).mono ?_
        rintro e w11 ⟨AoD, coD, rfl, oD11, foD11, b11⟩
        have hn11 := hn10.later b11
        have t11 := below_step t10 b11
        have bx11 := bx10.step b11
        have oz11 := oz10.later b11
        have oX11 := oX10.later b11
        have oC11 := oC10.later b11
        clear hn10 t10 b11 bx10 oz10 oX10 oC10 k0 k1
        have k0 := bx11.c0
        have k1 := bx11.c1
        go_wp2_with fail
        refine (likeInts_any _ _ _ _ _ _ _ _ _ oC11.ints oD11.ints).mono ?_
        rintro e w12 ⟨rfl, q, rfl⟩
        rw [eY]
        have b12 := below_drew (Below.refl w11.heap.size w11) q
        generalize w11.drewN q = w12 at *
        have hn12 := hn11.later b12
        have t12 := below_step t11 b12
        have bx12 := bx11.step b12
        have oz12 := oz11.later b12
        have oX12 := oX11.later b12
        have oC12 := oC11.later b12
        have oD12 := oD11.later b12
        clear hn11 t11 b12 bx11 oz11 oX11 oC11 oD11 k0 k1
        have k0 := bx12.c0
        have k1 := bx12.c1
        clear oD12
        go_wp2_with fail
        go_loopw [13] (fun i wr => ∃ j : Nat, i = .int .i64 (j : Int) ∧ j ≤ Y.length ∧ Below w12.heap.size w12 wr) (fun i _ => Y.length - (intOf i).toNat)
        case atStart => exact ⟨0, rfl, by omega, Below.refl _ _⟩
        case round =>
          obtain ⟨j, rfl, hj, hb⟩ := hrel
          by_cases hjm : j < Y.length
          · have hji : (j : Int) < (Y.length : Int) := by omega
            obtain ⟨bl, offl, rfl, hbll, hcl⟩ := (oC12.later hb).ints.cells (by omega)
            have q0 := hcl j hjm
            have hz := HL3.out j hjm
            rw [hz] at q0
            clear hcl hz
            go_wp2_with fail
            go_roundw
            case rel => exact ⟨j + 1, by go_num, by omega, hb⟩
            case measure => simp [intOf]; omega
          · have hji : ¬ (j : Int) < (Y.length : Int) := by omega
            have b13 := hb
            obtain ⟨w13, hw⟩ : ∃ w13, wr = w13 := ⟨_, rfl⟩
            subst hw
            have hn13 := hn12.later b13
            have t13 := below_step t12 b13
            have bx13 := bx12.step b13
            have oz13 := oz12.later b13
            have oX13 := oX12.later b13
            have oC13 := oC12.later b13
            clear hn12 t12 b13 bx12 oz12 oX12 oC12 k0 k1
            have k0 := bx13.c0
            have k1 := bx13.c1
            go_wp2_with fail
            refine (HI.out _ _ _ _ _ _ _ _ _ _ _ _ _ hn13 oX13.ints oz13.ints).mono ?_
            rintro e w14 ⟨rfl, b14⟩
            have hn14 := hn13.later b14
            have t14 := below_step t13 b14
            have bx14 := bx13.step b14
            have oz14 := oz13.later b14
            have oX14 := oX13.later b14
            have oC14 := oC13.later b14
            clear hn13 t13 b14 bx13 oz13 oX13 oC13 k0 k1
            have k0 := bx14.c0
            have k1 := bx14.c1
            go_wp2_with fail
            go_ret
            exact ⟨rfl, t14⟩
    · obtain ⟨X, K, hR⟩ : ∃ X K, rForestFlows net zs = (X, K) := ⟨_, _, rfl⟩
      rw [hR] at hK
      simp only at hK
      have cHT := fun A n c B m d C l e w h0 h1 => implForestFlows_any A n c B m d net C l e zs w h0 h1
      simp only [RetLI, hR] at cHT
      have HT := Lib.hid cHT
      clear cHT
      have cHS := fun A n c B m d C l e w h0 h1 => specForestFlows_any A n c B m d net C l e zs w h0 h1
      simp only [RetLI, hR] at cHS
      have HS := Lib.hid cHS
      clear cHS
      have hK' : (K != 0) = true := by simp [hK]
      have eX := eqL_self X
      clear hK hR
      go_wp2_with fail
      refine (HT.out _ _ _ _ _ _ _ _ _ _ hn1 oz1.ints).mono ?_
      rintro e w2 ⟨AoX, coX, rfl, oX2, foX2, b2⟩
      have hn2 := hn1.later b2
      have t2 := below_step t1 b2
      have bx2 := bx1.step b2
      have oz2 := oz1.later b2
      clear hn1 t1 b2 bx1 oz1
      have k0 := bx2.c0
      have k1 := bx2.c1
      go_wp2_with fail
      refine (HS.out _ _ _ _ _ _ _ _ _ _ hn2 oz2.ints).mono ?_
      rintro e w3 ⟨AoY, coY, rfl, oY3, foY3, b3⟩
      have hn3 := hn2.later b3
      have t3 := below_step t2 b3
      have bx3 := bx2.step b3
      have oz3 := oz2.later b3
      have oX3 := oX2.later b3
      clear hn2 t2 b3 bx2 oz2 oX2 k0 k1
      have k0 := bx3.c0
      have k1 := bx3.c1
      have HB := Lib.hid (LB.mk (w0 := w) bx3 hn3 oz3 oX3 t3)
      have HB0 := Lib.hid (HB.out.drewN 1)
      have HY0 := Lib.hid (oY3.later (below_drew (Below.refl _ _) 1))
      have hmark : Hid (0 < 1) := Lib.hid (by decide)
      clear bx3 hn3 oz3 oX3 t3 oY3
      go_wp2_with fail
      go_region_with (first | (go_at_call 15; refine (likeInts_any _ _ _ _ _ _ _ _ _ HB0.out.ox.ints HY0.out.ints).mono ?_; rintro e wa ⟨rfl, qa, rfl⟩; rw [eX]; have HB1 := Lib.hid (HB0.out.drewN qa); generalize World.drewN _ qa = wa at *; have a0 := HB1.out.bx.c0; have a1 := HB1.out.bx.c1) | (clear hmark; (first | (go_at_call 19; refine (HE.out _ _ _ _ _ _ _ _ _ _ HB1.out.hn HB1.out.oz.ints).mono ?_) | (go_at_call 20; refine (HG.out _ _ _ _ _ _ _ _ _ _ HB1.out.hn HB1.out.oz.ints).mono ?_)); rintro e wb ⟨rfl, bb⟩; have HB2 := Lib.hid (HB1.out.step bb); have e0 := HB2.out.bx.c0; have e1 := HB2.out.bx.c1; clear bb) | ((first | (go_at_call 19; refine (HE.out _ _ _ _ _ _ _ _ _ _ HB2.out.hn HB2.out.oz.ints).mono ?_) | (go_at_call 20; refine (HG.out _ _ _ _ _ _ _ _ _ _ HB2.out.hn HB2.out.oz.ints).mono ?_)); rintro e wc ⟨rfl, bc⟩; have HB3 := Lib.hid (HB2.out.step bc); have i0 := HB3.out.bx.c0; have i1 := HB3.out.bx.c1; clear bc))
      all_goals
        have t9 := HB3.out.t
        go_wp2_with fail
        go_ret
        exact ⟨rfl, t9⟩

end Go.Proofs.Ytllblmndoigdlaa
