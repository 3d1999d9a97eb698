/- the law FnExactRelaxFlows -/
import Derived.Test.YtfiikbcffpcbkaaRk
import Derived.Test.YtfiikbcffpcbkaaMk
namespace Go.Proofs.Ytfiikbcffpcbkaa
open Go.RowKit

set_option maxRecDepth 100000 in
set_option maxHeartbeats 8000000 in
theorem lawRelaxFlows_any (A : Option Addr) (n c : Nat) (B : Option Addr) (m d : Nat) (net : Net) (C1 : Option Addr) (l1 e1 : Nat) (z1 : List Int) (x2 : Int) (w : World) (h : NetAt w A n c B m d net) (hz1 : Ints w C1 l1 e1 z1) (hx2 : I64 x2) :
    Calls Try.prog 13 #[.agg #[.slice A n c, .slice B m d], .slice C1 l1 e1, .int .i64 x2] w fun e w' => e = .returned (.bool true) ∧ Below w.heap.size w w' := by
  have s0 := LS.start w A n c B m d
  by_cases hl1 : 1048576 < l1
  · go_enter Try.func13, Try.ntmps13
    go_wp2_with fail
    go_ret
    exact ⟨rfl, s0.below⟩
  · have ee1 := eqL_self z1
    have hrl := rRelaxFlows_len net z1 x2 (show z1.length ≤ 1048576 by rw [hz1.len]; omega)
    have spec' := fun A n c B m d C1 l1 e1 w h0 h1  => specRelaxFlows_any A n c B m d net C1 l1 e1 z1 x2 w h0 h1 hx2
    have impl' := fun A n c B m d C1 l1 e1 w h0 h1  => implRelaxFlows_any A n c B m d net C1 l1 e1 z1 x2 w h0 h1 hx2
    obtain ⟨R, hR⟩ : ∃ R, R = (rRelaxFlows net z1 x2).1 := ⟨_, rfl⟩
    obtain ⟨K, hK⟩ : ∃ K, K = (rRelaxFlows net z1 x2).2.1 := ⟨_, rfl⟩
    obtain ⟨K2, hK2⟩ : ∃ K, K = (rRelaxFlows net z1 x2).2.2 := ⟨_, rfl⟩
    simp only [RetLII, ← hR, ← hK, ← hK2] at spec' impl'
    rw [← hR] at hrl
    clear hR hK hK2
    have SP := Lib.hid spec'
    have IM := Lib.hid impl'
    clear spec' impl'
    have e2 := eqL_self R
    go_enter Try.func13, Try.ntmps13
    go_wp2_with fail
    refine (szNetwork_any _ _ _ _ _ _ net _ (h.later s0.below)).mono ?_
    rintro e w1 ⟨r, rfl, hr, b1⟩
    have s1 := s0.step b1
    by_cases hr0 : r < 0
    · clear hr
      go_wp2_with fail
      go_ret
      exact ⟨rfl, s1.below⟩
    · obtain ⟨hn, hm⟩ := hr (by omega)
      clear hr
      have p0 := s1.c0
      have p1 := s1.c1
      go_wp2_with fail
      refine (toNetwork_any _ _ _ _ _ _ net _ (h.later s1.below) hn hm).mono ?_
      rintro e w2 ⟨AS, cS, BS, dS, rfl, oS, faS, fbS, b2⟩
      clear p0 p1
      have s2 := s1.step b2
      go_wp2_with fail
      refine (toInt64S_any _ _ _ _ _ (hz1.later s2.below) (by omega)).mono ?_
      rintro e w3 ⟨AS1, cS1, rfl, oS1, fS1, b3⟩
      have s3 := s2.step b3
      have oS_3 := oS.later b3
      go_wp2_with fail
      refine (SP.out _ _ _ _ _ _ _ _ _ _ oS_3.net oS1.ints).mono ?_
      rintro e w4 ⟨AW, cW, rfl, oW, fW, b4⟩
      have s4 := s3.step b4
      have oS_4 := oS_3.later b4
      have oS1_4 := oS1.later b4
      have p0 := s4.c0
      have p1 := s4.c1
      go_wp2_with fail
      refine (toNetwork_any _ _ _ _ _ _ net _ (h.later s4.below) hn hm).mono ?_
      rintro e w5 ⟨AX, cX, BX, dX, rfl, oX, faX, fbX, b5⟩
      clear p0 p1
      have s5 := s4.step b5
      have oW_5 := oW.later b5
      have b6 := bel1 w5 (.cells #[.slice AX n cX, .slice BX m dX] 27)
      have x6 : Go.Proofs.Ytfiikbcffpcbkaa.BX (w5.alloc (.cells #[.slice AX n cX, .slice BX m dX] 27)) w5.heap.size AX n cX BX m dX := ⟨heap_alloc_new _ _⟩
      have s6 := s5.step b6
      have oW_6 := oW_5.later b6
      have oX_6 := oX.later b6
      go_wp2_with fail
      refine (toInt64S_any _ _ _ _ _ (hz1.later s6.below) (by omega)).mono ?_
      rintro e w7 ⟨AX1, cX1, rfl, oX1, fX1, b7⟩
      have s7 := s6.step b7
      have oW_7 := oW_6.later b7
      have oX_7 := oX_6.later b7
      have x7 := x6.step b7
      have q0 := x7.c0
      have q1 := x7.c1
      go_wp2_with fail
      refine (IM.out _ _ _ _ _ _ _ _ _ _ oX_7.net oX1.ints).mono ?_
      rintro e w8 ⟨AG, cG, rfl, oG, fG, b8⟩
      have s8 := s7.step b8
      have oW_8 := oW_7.later b8
      have oX_8 := oX_7.later b8
      have oX1_8 := oX1.later b8
      have x8 := x7.step b8
      clear q0 q1
      go_wp2_with fail
      refine (eqInt64S_any _ _ _ _ _ _ _ _ _ oG.ints oW_8.ints).mono ?_
      rintro e w9 ⟨rfl, hq9⟩
      have b9 : Below (World.heap w8).size w8 w9 := by obtain ⟨q, rfl⟩ := hq9; exact below_drew (Below.refl _ _) q
      clear hq9
      have s9 := s8.step b9
      have oW_9 := oW_8.later b9
      have oX_9 := oX_8.later b9
      have oX1_9 := oX1_8.later b9
      have oG_9 := oG.later b9
      have x9 := x8.step b9
      have S8 := Lib.hid s9
      have X8 := Lib.hid x9
      have p0 := s9.c0
      have p1 := s9.c1
      have q0 := x9.c0
      have q1 := x9.c1
      have hxs := x9.lt
      go_wp2_with fail
      go_region_with (first | (go_at_call 23; refine (toNetwork_any _ _ _ _ _ _ net _ (by exact h.later s9.below.drew) hn hm).mono ?_; rintro e w10 ⟨A9, c9, B9, d9, rfl, o9, _, _, b10⟩; have x9 := X8.out.step ((Below.refl _ _).drew.trans b10); have r0 := x9.c0; have r1 := x9.c1) | (go_at_call 26; refine (eqNetwork_any _ _ _ _ _ _ _ _ _ _ net _ (by exact (oX_9.later ((Below.refl _ _).drew.trans b10)).net) (by exact o9.net)).mono ?_; rintro e w11 ⟨rfl, b11⟩))
      all_goals
        have b12 : Below (World.heap w9).size w9 w11 := below_step ((Below.refl _ _).drew.trans b10) b11
        try clear p0 p1
        try clear q0 q1
        try clear r0 r1
        clear x9 o9
        have s12 := s9.step b12
        have oW_12 := oW_9.later b12
        have oX_12 := oX_9.later b12
        have oX1_12 := oX1_9.later b12
        have oG_12 := oG_9.later b12
        have x12 := x9.step b12
        go_wp2_with fail
        refine (toInt64S_any _ _ _ _ _ (hz1.later s12.below) (by omega)).mono ?_
        rintro e w13 ⟨AY1, cY1, rfl, oY1, fY1, b13⟩
        have s13 := s12.step b13
        have oW_13 := oW_12.later b13
        have oX_13 := oX_12.later b13
        have oX1_13 := oX1_12.later b13
        have oG_13 := oG_12.later b13
        have x13 := x12.step b13
        go_wp2_with fail
        refine (eqInt64S_any _ _ _ _ _ _ _ _ _ oX1_13.ints oY1.ints).mono ?_
        rintro e w14 ⟨rfl, hq14⟩
        have b14 : Below (World.heap w13).size w13 w14 := by obtain ⟨q, rfl⟩ := hq14; exact below_drew (Below.refl _ _) q
        clear hq14
        have s14 := s13.step b14
        have oW_14 := oW_13.later b14
        have oX_14 := oX_13.later b14
        have oX1_14 := oX1_13.later b14
        have oG_14 := oG_13.later b14
        have oY1_14 := oY1.later b14
        have x14 := x13.step b14
        have q0 := x14.c0
        have q1 := x14.c1
        go_wp2_with fail
        refine (markNetwork_any _ _ _ _ _ _ net 1 _ oX_14 (by omega) (by omega) hn hm).mono ?_
        rintro e w15 ⟨rfl, wx15, wm15, b15, ga15, gb15⟩
        clear q0 q1
        have lW_15 := oW.lt
        have oW_15a := (oW_14.later b15).apart' (fun a ha => by have := lW_15 a ha;  omega) ga15 (fresh_up faX (Nat.le_refl _))
        have oW_15 := oW_15a.apart' (fun a ha => by have := lW_15 a ha;  omega) gb15 (fresh_up fbX (Nat.le_refl _))
        have laX := oX.nodes.lt
        have lbX := oX.pipes.lt
        have oX1_15a := (oX1_14.later b15).apart fX1 ga15 (fun a ha => by have := laX a ha; have := b6.size; omega)
        have oX1_15 := oX1_15a.apart fX1 gb15 (fun a ha => by have := lbX a ha; have := b6.size; omega)
        have oG_15a := (oG_14.later b15).apart fG ga15 (fun a ha => by have := laX a ha; have := b6.size; have := b7.size; omega)
        have oG_15 := oG_15a.apart fG gb15 (fun a ha => by have := lbX a ha; have := b6.size; have := b7.size; omega)
        have t15 := below_mark (below_mark (below_step s14.below b15) ga15 (fresh_up faX (by have := s4.below.size; omega))) gb15 (fresh_up fbX (by have := s4.below.size; omega))
        have y15 : LS w w15 A n c B m d := s14.marked2 t15 b15 ga15 gb15 (fresh_up faX (by have := s4.lt; omega)) (fresh_up fbX (by have := s4.lt; omega))
        go_wp2_with fail
        refine (markInt64S_any _ _ _ _ _ _ oX1_15 (by omega) (by omega) (by omega)).mono ?_
        rintro e w16 ⟨rfl, _, g16⟩
        have lX1 := oX1.lt
        have t16 := below_mark y15.below g16 (fresh_up fX1 (by have := s6.below.size; omega))
        have y16 : LS w w16 A n c B m d := y15.marked t16 g16 (fresh_up fX1 (by have := s6.lt; omega))
        have oW_16 := oW_15.apart' (fun a ha => by have := lW_15 a ha; have := b5.size; have := b6.size; omega) g16 fX1
        have oG_16 := oG_15.apart fG g16 (fun a ha => by have := lX1 a ha;  omega)
        go_wp2_with fail
        refine (eqInt64S_any _ _ _ _ _ _ _ _ _ oG_16.ints oW_16.ints).mono ?_
        rintro e w17 ⟨rfl, hq17⟩
        have b17 : Below (World.heap w16).size w16 w17 := by obtain ⟨q, rfl⟩ := hq17; exact below_drew (Below.refl _ _) q
        clear hq17
        have s17 := y16.step b17
        have oW_17 := oW_16.later b17
        have oG_17 := oG_16.later b17
        go_wp2_with fail
        refine (markInt64S_any _ _ _ _ 1 _ oG_17 (by omega) (by omega) (by omega)).mono ?_
        rintro e w18 ⟨rfl, oH_18, g18⟩
        have t18 := below_mark s17.below g18 (fresh_up fG (by have := s7.below.size; omega))
        have y18 : LS w w18 A n c B m d := s17.marked t18 g18 (fresh_up fG (by have := s7.lt; omega))
        have oW_18 := oW_17.apart' (fun a ha => by have := lW_15 a ha; have := b5.size; have := b6.size; have := b7.size; omega) g18 fG
        go_wp2_with fail
        refine (heldInt64S_any _ _ _ 1 _ oH_18.ints (by omega) (by omega) (by omega)).mono ?_
        rintro e w' ⟨rfl, rfl⟩
        have p0 := y18.c0
        have p1 := y18.c1
        go_wp2_with fail
        refine (toNetwork_any _ _ _ _ _ _ net _ (h.later y18.below) hn hm).mono ?_
        rintro e w19 ⟨AZ, cZ, BZ, dZ, rfl, oZ, faZ, fbZ, b19⟩
        clear p0 p1
        have s19 := y18.step b19
        have oW_19 := oW_18.later b19
        have oH_19 := oH_18.later b19
        go_wp2_with fail
        refine (toInt64S_any _ _ _ _ _ (hz1.later s19.below) (by omega)).mono ?_
        rintro e w20 ⟨AZ1, cZ1, rfl, oZ1, fZ1, b20⟩
        have s20 := s19.step b20
        have oW_20 := oW_19.later b20
        have oH_20 := oH_19.later b20
        have oZ_20 := oZ.later b20
        go_wp2_with fail
        refine (IM.out _ _ _ _ _ _ _ _ _ _ oZ_20.net oZ1.ints).mono ?_
        rintro e w21 ⟨AV, cV, rfl, oV, fV, b21⟩
        have s21 := s20.step b21
        have oW_21 := oW_20.later b21
        have oH_21 := oH_20.later b21
        have oZ_21 := oZ_20.later b21
        have oZ1_21 := oZ1.later b21
        go_wp2_with fail
        refine (eqInt64S_any _ _ _ _ _ _ _ _ _ oV.ints oW_21.ints).mono ?_
        rintro e w22 ⟨rfl, hq22⟩
        have b22 : Below (World.heap w21).size w21 w22 := by obtain ⟨q, rfl⟩ := hq22; exact below_drew (Below.refl _ _) q
        clear hq22
        have s22 := s21.step b22
        have oW_22 := oW_21.later b22
        have oH_22 := oH_21.later b22
        have oV_22 := oV.later b22
        go_wp2_with fail
        refine (heldInt64S_any _ _ _ 1 _ oH_22.ints (by omega) (by omega) (by omega)).mono ?_
        rintro e w' ⟨rfl, rfl⟩
        go_wp2_with fail
        go_ret
        exact ⟨rfl, s22.below⟩

end Go.Proofs.Ytfiikbcffpcbkaa
