/- the law FnExactAddFlows -/
import Derived.Test.YtndieicmjdkojaaJ4
import Derived.Test.YtndieicmjdkojaaLs
import Derived.Test.YtndieicmjdkojaaMk
namespace Go.Proofs.Ytndieicmjdkojaa
open Go.RowKit

set_option maxRecDepth 100000 in
set_option maxHeartbeats 8000000 in
theorem lawAddFlows_any (A : Option Addr) (n c : Nat) (B : Option Addr) (m d : Nat) (net : Net) (C1 : Option Addr) (l1 e1 : Nat) (z1 : List Int) (C2 : Option Addr) (l2 e2 : Nat) (z2 : List Int) (w : World) (h : NetAt w A n c B m d net) (hz1 : Ints w C1 l1 e1 z1) (hz2 : Ints w C2 l2 e2 z2) :
    Calls Try.prog 7 #[.agg #[.slice A n c, .slice B m d], .slice C1 l1 e1, .slice C2 l2 e2] w fun e w' => e = .returned (.bool true) ∧ Below w.heap.size w w' := by
  have s0 := LS.start w A n c B m d
  by_cases hl1 : 1048576 < l1
  · go_enter Try.func7, Try.ntmps7
    go_wp2_with fail
    go_ret
    exact ⟨rfl, s0.below⟩
  · have ee1 := eqL_self z1
    by_cases hl2 : 1048576 < l2
    · go_enter Try.func7, Try.ntmps7
      go_wp2_with fail
      go_ret
      exact ⟨rfl, s0.below⟩
    · have ee2 := eqL_self z2
      have hrl := rAddFlows_len net z1 z2 (show z1.length ≤ 1048576 by rw [hz1.len]; omega) (show z2.length ≤ 1048576 by rw [hz2.len]; omega)
      have spec' := fun A n c B m d C1 l1 e1 C2 l2 e2 w h0 h1 h2 => specAddFlows_any A n c B m d net C1 l1 e1 z1 C2 l2 e2 z2 w h0 h1 h2
      have impl' := fun A n c B m d C1 l1 e1 C2 l2 e2 w h0 h1 h2 => implAddFlows_any A n c B m d net C1 l1 e1 z1 C2 l2 e2 z2 w h0 h1 h2
      obtain ⟨R, hR⟩ : ∃ R, R = (rAddFlows net z1 z2).1 := ⟨_, rfl⟩
      obtain ⟨K, hK⟩ : ∃ K, K = (rAddFlows net z1 z2).2 := ⟨_, rfl⟩
      simp only [RetLI, ← hR, ← hK] at spec' impl'
      rw [← hR] at hrl
      clear hR hK
      have SP := Lib.hid spec'
      have IM := Lib.hid impl'
      clear spec' impl'
      have e2 := eqL_self R
      go_enter Try.func7, Try.ntmps7
      go_wp2_with fail
      refine (szNetwork_any _ _ _ _ _ _ net _ (h.later s0.below)).mono ?_
      rintro e w1 ⟨r, rfl, hr, b1⟩
      have s1 := s0.step b1
      by_cases hr0 : r < 0
      · clear hr
        go_wp2_with fail
        go_ret
        exact ⟨rfl, s1.below⟩
      · obtain ⟨hn, hm⟩ := hr (by omega)
        clear hr
        have p0 := s1.c0
        have p1 := s1.c1
        go_wp2_with fail
        refine (toNetwork_any _ _ _ _ _ _ net _ (h.later s1.below) hn hm).mono ?_
        rintro e w2 ⟨AS, cS, BS, dS, rfl, oS, faS, fbS, b2⟩
        clear p0 p1
        have s2 := s1.step b2
        go_wp2_with fail
        refine (toInt64S_any _ _ _ _ _ (hz1.later s2.below) (by omega)).mono ?_
        rintro e w3 ⟨AS1, cS1, rfl, oS1, fS1, b3⟩
        have s3 := s2.step b3
        have oS_3 := oS.later b3
        go_wp2_with fail
        refine (toInt64S_any _ _ _ _ _ (hz2.later s3.below) (by omega)).mono ?_
        rintro e w4 ⟨AS2, cS2, rfl, oS2, fS2, b4⟩
        have s4 := s3.step b4
        have oS_4 := oS_3.later b4
        have oS1_4 := oS1.later b4
        go_wp2_with fail
        refine (SP.out _ _ _ _ _ _ _ _ _ _ _ _ _ oS_4.net oS1_4.ints oS2.ints).mono ?_
        rintro e w5 ⟨AW, cW, rfl, oW, fW, b5⟩
        have s5 := s4.step b5
        have oS_5 := oS_4.later b5
        have oS1_5 := oS1_4.later b5
        have oS2_5 := oS2.later b5
        have p0 := s5.c0
        have p1 := s5.c1
        go_wp2_with fail
        refine (toNetwork_any _ _ _ _ _ _ net _ (h.later s5.below) hn hm).mono ?_
        rintro e w6 ⟨AX, cX, BX, dX, rfl, oX, faX, fbX, b6⟩
        clear p0 p1
        have s6 := s5.step b6
        have oW_6 := oW.later b6
        have b7 := bel1 w6 (.cells #[.slice AX n cX, .slice BX m dX] 27)
        have x7 : Go.Proofs.Ytndieicmjdkojaa.BX (w6.alloc (.cells #[.slice AX n cX, .slice BX m dX] 27)) w6.heap.size AX n cX BX m dX := ⟨heap_alloc_new _ _⟩
        have s7 := s6.step b7
        have oW_7 := oW_6.later b7
        have oX_7 := oX.later b7
        go_wp2_with fail
        refine (toInt64S_any _ _ _ _ _ (hz1.later s7.below) (by omega)).mono ?_
        rintro e w8 ⟨AX1, cX1, rfl, oX1, fX1, b8⟩
        have s8 := s7.step b8
        have oW_8 := oW_7.later b8
        have oX_8 := oX_7.later b8
        have x8 := x7.step b8
        go_wp2_with fail
        refine (toInt64S_any _ _ _ _ _ (hz2.later s8.below) (by omega)).mono ?_
        rintro e w9 ⟨AX2, cX2, rfl, oX2, fX2, b9⟩
        have s9 := s8.step b9
        have oW_9 := oW_8.later b9
        have oX_9 := oX_8.later b9
        have oX1_9 := oX1.later b9
        have x9 := x8.step b9
        have q0 := x9.c0
        have q1 := x9.c1
        go_wp2_with fail
        refine (IM.out _ _ _ _ _ _ _ _ _ _ _ _ _ oX_9.net oX1_9.ints oX2.ints).mono ?_
        rintro e w10 ⟨AG, cG, rfl, oG, fG, b10⟩
        have s10 := s9.step b10
        have oW_10 := oW_9.later b10
        have oX_10 := oX_9.later b10
        have oX1_10 := oX1_9.later b10
        have oX2_10 := oX2.later b10
        have x10 := x9.step b10
        clear q0 q1
        go_wp2_with fail
        refine (eqInt64S_any _ _ _ _ _ _ _ _ _ oG.ints oW_10.ints).mono ?_
        rintro e w11 ⟨rfl, hq11⟩
        have b11 : Below (World.heap w10).size w10 w11 := by obtain ⟨q, rfl⟩ := hq11; exact below_drew (Below.refl _ _) q
        clear hq11
        have s11 := s10.step b11
        have oW_11 := oW_10.later b11
        have oX_11 := oX_10.later b11
        have oX1_11 := oX1_10.later b11
        have oX2_11 := oX2_10.later b11
        have oG_11 := oG.later b11
        have x11 := x10.step b11
        have S8 := Lib.hid s11
        have X8 := Lib.hid x11
        have p0 := s11.c0
        have p1 := s11.c1
        have q0 := x11.c0
        have q1 := x11.c1
        have hxs := x11.lt
        go_wp2_with fail
        go_region_with (first | (go_at_call 31; refine (toNetwork_any _ _ _ _ _ _ net _ (by exact h.later s11.below.drew) hn hm).mono ?_; rintro e w12 ⟨A9, c9, B9, d9, rfl, o9, _, _, b12⟩; have x9 := X8.out.step ((Below.refl _ _).drew.trans b12); have r0 := x9.c0; have r1 := x9.c1) | (go_at_call 35; refine (eqNetwork_any _ _ _ _ _ _ _ _ _ _ net _ (by exact (oX_11.later ((Below.refl _ _).drew.trans b12)).net) (by exact o9.net)).mono ?_; rintro e w13 ⟨rfl, b13⟩))
        all_goals
          have b14 : Below (World.heap w11).size w11 w13 := below_step ((Below.refl _ _).drew.trans b12) b13
          try clear p0 p1
          try clear q0 q1
          try clear r0 r1
          clear x9 o9
          have s14 := s11.step b14
          have oW_14 := oW_11.later b14
          have oX_14 := oX_11.later b14
          have oX1_14 := oX1_11.later b14
          have oX2_14 := oX2_11.later b14
          have oG_14 := oG_11.later b14
          have x14 := x11.step b14
          go_wp2_with fail
          refine (toInt64S_any _ _ _ _ _ (hz1.later s14.below) (by omega)).mono ?_
          rintro e w15 ⟨AY1, cY1, rfl, oY1, fY1, b15⟩
          have s15 := s14.step b15
          have oW_15 := oW_14.later b15
          have oX_15 := oX_14.later b15
          have oX1_15 := oX1_14.later b15
          have oX2_15 := oX2_14.later b15
          have oG_15 := oG_14.later b15
          have x15 := x14.step b15
          go_wp2_with fail
          refine (eqInt64S_any _ _ _ _ _ _ _ _ _ oX1_15.ints oY1.ints).mono ?_
          rintro e w16 ⟨rfl, hq16⟩
          have b16 : Below (World.heap w15).size w15 w16 := by obtain ⟨q, rfl⟩ := hq16; exact below_drew (Below.refl _ _) q
          clear hq16
          have s16 := s15.step b16
          have oW_16 := oW_15.later b16
          have oX_16 := oX_15.later b16
          have oX1_16 := oX1_15.later b16
          have oX2_16 := oX2_15.later b16
          have oG_16 := oG_15.later b16
          have oY1_16 := oY1.later b16
          have x16 := x15.step b16
          go_wp2_with fail
          refine (toInt64S_any _ _ _ _ _ (hz2.later s16.below) (by omega)).mono ?_
          rintro e w17 ⟨AY2, cY2, rfl, oY2, fY2, b17⟩
          have s17 := s16.step b17
          have oW_17 := oW_16.later b17
          have oX_17 := oX_16.later b17
          have oX1_17 := oX1_16.later b17
          have oX2_17 := oX2_16.later b17
          have oG_17 := oG_16.later b17
          have x17 := x16.step b17
          go_wp2_with fail
          refine (eqInt64S_any _ _ _ _ _ _ _ _ _ oX2_17.ints oY2.ints).mono ?_
          rintro e w18 ⟨rfl, hq18⟩
          have b18 : Below (World.heap w17).size w17 w18 := by obtain ⟨q, rfl⟩ := hq18; exact below_drew (Below.refl _ _) q
          clear hq18
          have s18 := s17.step b18
          have oW_18 := oW_17.later b18
          have oX_18 := oX_17.later b18
          have oX1_18 := oX1_17.later b18
          have oX2_18 := oX2_17.later b18
          have oG_18 := oG_17.later b18
          have oY2_18 := oY2.later b18
          have x18 := x17.step b18
          have q0 := x18.c0
          have q1 := x18.c1
          go_wp2_with fail
          refine (markNetwork_any _ _ _ _ _ _ net 1 _ oX_18 (by omega) (by omega) hn hm).mono ?_
          rintro e w19 ⟨rfl, wx19, wm19, b19, ga19, gb19⟩
          clear q0 q1
          have lW_19 := oW.lt
          have oW_19a := (oW_18.later b19).apart' (fun a ha => by have := lW_19 a ha;  omega) ga19 (fresh_up faX (Nat.le_refl _))
          have oW_19 := oW_19a.apart' (fun a ha => by have := lW_19 a ha;  omega) gb19 (fresh_up fbX (Nat.le_refl _))
          have laX := oX.nodes.lt
          have lbX := oX.pipes.lt
          have oX1_19a := (oX1_18.later b19).apart fX1 ga19 (fun a ha => by have := laX a ha; have := b7.size; omega)
          have oX1_19 := oX1_19a.apart fX1 gb19 (fun a ha => by have := lbX a ha; have := b7.size; omega)
          have oX2_19a := (oX2_18.later b19).apart fX2 ga19 (fun a ha => by have := laX a ha; have := b7.size; have := b8.size; omega)
          have oX2_19 := oX2_19a.apart fX2 gb19 (fun a ha => by have := lbX a ha; have := b7.size; have := b8.size; omega)
          have oG_19a := (oG_18.later b19).apart fG ga19 (fun a ha => by have := laX a ha; have := b7.size; have := b8.size; have := b9.size; omega)
          have oG_19 := oG_19a.apart fG gb19 (fun a ha => by have := lbX a ha; have := b7.size; have := b8.size; have := b9.size; omega)
          have t19 := below_mark (below_mark (below_step s18.below b19) ga19 (fresh_up faX (by have := s5.below.size; omega))) gb19 (fresh_up fbX (by have := s5.below.size; omega))
          have y19 : LS w w19 A n c B m d := s18.marked2 t19 b19 ga19 gb19 (fresh_up faX (by have := s5.lt; omega)) (fresh_up fbX (by have := s5.lt; omega))
          go_wp2_with fail
          refine (markInt64S_any _ _ _ _ _ _ oX1_19 (by omega) (by omega) (by omega)).mono ?_
          rintro e w20 ⟨rfl, _, g20⟩
          have lX1 := oX1.lt
          have t20 := below_mark y19.below g20 (fresh_up fX1 (by have := s7.below.size; omega))
          have y20 : LS w w20 A n c B m d := y19.marked t20 g20 (fresh_up fX1 (by have := s7.lt; omega))
          have oW_20 := oW_19.apart' (fun a ha => by have := lW_19 a ha; have := b6.size; have := b7.size; omega) g20 fX1
          have oX2_20 := oX2_19.apart fX2 g20 (fun a ha => by have := lX1 a ha;  omega)
          have oG_20 := oG_19.apart fG g20 (fun a ha => by have := lX1 a ha; have := b9.size; omega)
          go_wp2_with fail
          refine (markInt64S_any _ _ _ _ _ _ oX2_20 (by omega) (by omega) (by omega)).mono ?_
          rintro e w21 ⟨rfl, _, g21⟩
          have lX2 := oX2.lt
          have t21 := below_mark y20.below g21 (fresh_up fX2 (by have := s8.below.size; omega))
          have y21 : LS w w21 A n c B m d := y20.marked t21 g21 (fresh_up fX2 (by have := s8.lt; omega))
          have oW_21 := oW_20.apart' (fun a ha => by have := lW_19 a ha; have := b6.size; have := b7.size; have := b8.size; omega) g21 fX2
          have oG_21 := oG_20.apart fG g21 (fun a ha => by have := lX2 a ha;  omega)
          go_wp2_with fail
          refine (eqInt64S_any _ _ _ _ _ _ _ _ _ oG_21.ints oW_21.ints).mono ?_
          rintro e w22 ⟨rfl, hq22⟩
          have b22 : Below (World.heap w21).size w21 w22 := by obtain ⟨q, rfl⟩ := hq22; exact below_drew (Below.refl _ _) q
          clear hq22
          have s22 := y21.step b22
          have oW_22 := oW_21.later b22
          have oG_22 := oG_21.later b22
          go_wp2_with fail
          refine (markInt64S_any _ _ _ _ 1 _ oG_22 (by omega) (by omega) (by omega)).mono ?_
          rintro e w23 ⟨rfl, oH_23, g23⟩
          have t23 := below_mark s22.below g23 (fresh_up fG (by have := s9.below.size; omega))
          have y23 : LS w w23 A n c B m d := s22.marked t23 g23 (fresh_up fG (by have := s9.lt; omega))
          have oW_23 := oW_22.apart' (fun a ha => by have := lW_19 a ha; have := b6.size; have := b7.size; have := b8.size; have := b9.size; omega) g23 fG
          go_wp2_with fail
          refine (heldInt64S_any _ _ _ 1 _ oH_23.ints (by omega) (by omega) (by omega)).mono ?_
          rintro e w' ⟨rfl, rfl⟩
          have p0 := y23.c0
          have p1 := y23.c1
          go_wp2_with fail
          refine (toNetwork_any _ _ _ _ _ _ net _ (h.later y23.below) hn hm).mono ?_
          rintro e w24 ⟨AZ, cZ, BZ, dZ, rfl, oZ, faZ, fbZ, b24⟩
          clear p0 p1
          have s24 := y23.step b24
          have oW_24 := oW_23.later b24
          have oH_24 := oH_23.later b24
          go_wp2_with fail
          refine (toInt64S_any _ _ _ _ _ (hz1.later s24.below) (by omega)).mono ?_
          rintro e w25 ⟨AZ1, cZ1, rfl, oZ1, fZ1, b25⟩
          have s25 := s24.step b25
          have oW_25 := oW_24.later b25
          have oH_25 := oH_24.later b25
          have oZ_25 := oZ.later b25
          go_wp2_with fail
          refine (toInt64S_any _ _ _ _ _ (hz2.later s25.below) (by omega)).mono ?_
          rintro e w26 ⟨AZ2, cZ2, rfl, oZ2, fZ2, b26⟩
          have s26 := s25.step b26
          have oW_26 := oW_25.later b26
          have oH_26 := oH_25.later b26
          have oZ_26 := oZ_25.later b26
          have oZ1_26 := oZ1.later b26
          go_wp2_with fail
          refine (IM.out _ _ _ _ _ _ _ _ _ _ _ _ _ oZ_26.net oZ1_26.ints oZ2.ints).mono ?_
          rintro e w27 ⟨AV, cV, rfl, oV, fV, b27⟩
          have s27 := s26.step b27
          have oW_27 := oW_26.later b27
          have oH_27 := oH_26.later b27
          have oZ_27 := oZ_26.later b27
          have oZ1_27 := oZ1_26.later b27
          have oZ2_27 := oZ2.later b27
          go_wp2_with fail
          refine (eqInt64S_any _ _ _ _ _ _ _ _ _ oV.ints oW_27.ints).mono ?_
          rintro e w28 ⟨rfl, hq28⟩
          have b28 : Below (World.heap w27).size w27 w28 := by obtain ⟨q, rfl⟩ := hq28; exact below_drew (Below.refl _ _) q
          clear hq28
          have s28 := s27.step b28
          have oW_28 := oW_27.later b28
          have oH_28 := oH_27.later b28
          have oV_28 := oV.later b28
          go_wp2_with fail
          refine (heldInt64S_any _ _ _ 1 _ oH_28.ints (by omega) (by omega) (by omega)).mono ?_
          rintro e w' ⟨rfl, rfl⟩
          go_wp2_with fail
          go_ret
          exact ⟨rfl, s28.below⟩

end Go.Proofs.Ytndieicmjdkojaa
