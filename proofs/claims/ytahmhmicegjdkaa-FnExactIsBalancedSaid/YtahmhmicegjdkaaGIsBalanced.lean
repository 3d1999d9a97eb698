/- the law FnExactIsBalanced -/
import Derived.Test.YtahmhmicegjdkaaJ1
import Derived.Test.YtahmhmicegjdkaaLs
namespace Go.Proofs.Ytahmhmicegjdkaa
open Go.RowKit

set_option maxRecDepth 100000 in
set_option maxHeartbeats 8000000 in
theorem lawIsBalanced_any (A : Option Addr) (n c : Nat) (B : Option Addr) (m d : Nat) (net : Net) (C1 : Option Addr) (l1 e1 : Nat) (z1 : List Int) (C2 : Option Addr) (l2 e2 : Nat) (z2 : List Int) (w : World) (h : NetAt w A n c B m d net) (hz1 : Ints w C1 l1 e1 z1) (hz2 : Ints w C2 l2 e2 z2) :
    Calls Try.prog 3 #[.agg #[.slice A n c, .slice B m d], .slice C1 l1 e1, .slice C2 l2 e2] w fun e w' => e = .returned (.bool true) ∧ Below w.heap.size w w' := by
  have s0 := LS.start w A n c B m d
  by_cases hl1 : 1048576 < l1
  · go_enter Try.func3, Try.ntmps3
    go_wp2_with fail
    go_ret
    exact ⟨rfl, s0.below⟩
  · have ee1 := eqL_self z1
    by_cases hl2 : 1048576 < l2
    · go_enter Try.func3, Try.ntmps3
      go_wp2_with fail
      go_ret
      exact ⟨rfl, s0.below⟩
    · have ee2 := eqL_self z2
      have spec' := fun A n c B m d C1 l1 e1 C2 l2 e2 w h0 h1 h2 => specIsBalanced_any A n c B m d net C1 l1 e1 z1 C2 l2 e2 z2 w h0 h1 h2
      have impl' := fun A n c B m d C1 l1 e1 C2 l2 e2 w h0 h1 h2 => implIsBalanced_any A n c B m d net C1 l1 e1 z1 C2 l2 e2 z2 w h0 h1 h2
      obtain ⟨R, hR⟩ : ∃ R, R = rIsBalanced net z1 z2 := ⟨_, rfl⟩
      simp only [← hR] at spec' impl'
      clear hR
      have SP := Lib.hid spec'
      have IM := Lib.hid impl'
      clear spec' impl'
      go_enter Try.func3, Try.ntmps3
      go_wp2_with fail
      refine (szNetwork_any _ _ _ _ _ _ net _ (h.later s0.below)).mono ?_
      rintro e w1 ⟨r, rfl, hr, b1⟩
      have s1 := s0.step b1
      by_cases hr0 : r < 0
      · clear hr
        go_wp2_with fail
        go_ret
        exact ⟨rfl, s1.below⟩
      · obtain ⟨hn, hm⟩ := hr (by omega)
        clear hr
        have p0 := s1.c0
        have p1 := s1.c1
        go_wp2_with fail
        refine (toNetwork_any _ _ _ _ _ _ net _ (h.later s1.below) hn hm).mono ?_
        rintro e w2 ⟨AS, cS, BS, dS, rfl, oS, faS, fbS, b2⟩
        clear p0 p1
        have s2 := s1.step b2
        go_wp2_with fail
        refine (toInt64S_any _ _ _ _ _ (hz1.later s2.below) (by omega)).mono ?_
        rintro e w3 ⟨AS1, cS1, rfl, oS1, fS1, b3⟩
        have s3 := s2.step b3
        have oS_3 := oS.later b3
        go_wp2_with fail
        refine (toInt64S_any _ _ _ _ _ (hz2.later s3.below) (by omega)).mono ?_
        rintro e w4 ⟨AS2, cS2, rfl, oS2, fS2, b4⟩
        have s4 := s3.step b4
        have oS_4 := oS_3.later b4
        have oS1_4 := oS1.later b4
        go_wp2_with fail
        refine (SP.out _ _ _ _ _ _ _ _ _ _ _ _ _ oS_4.net oS1_4.ints oS2.ints).mono ?_
        rintro e w5 ⟨rfl, b5⟩
        have s5 := s4.step b5
        have oS_5 := oS_4.later b5
        have oS1_5 := oS1_4.later b5
        have oS2_5 := oS2.later b5
        have p0 := s5.c0
        have p1 := s5.c1
        go_wp2_with fail
        refine (toNetwork_any _ _ _ _ _ _ net _ (h.later s5.below) hn hm).mono ?_
        rintro e w6 ⟨AX, cX, BX, dX, rfl, oX, faX, fbX, b6⟩
        clear p0 p1
        have s6 := s5.step b6
        have b7 := bel1 w6 (.cells #[.slice AX n cX, .slice BX m dX] 32)
        have x7 : Go.Proofs.Ytahmhmicegjdkaa.BX (w6.alloc (.cells #[.slice AX n cX, .slice BX m dX] 32)) w6.heap.size AX n cX BX m dX := ⟨heap_alloc_new _ _⟩
        have s7 := s6.step b7
        have oX_7 := oX.later b7
        go_wp2_with fail
        refine (toInt64S_any _ _ _ _ _ (hz1.later s7.below) (by omega)).mono ?_
        rintro e w8 ⟨AX1, cX1, rfl, oX1, fX1, b8⟩
        have s8 := s7.step b8
        have oX_8 := oX_7.later b8
        have x8 := x7.step b8
        go_wp2_with fail
        refine (toInt64S_any _ _ _ _ _ (hz2.later s8.below) (by omega)).mono ?_
        rintro e w9 ⟨AX2, cX2, rfl, oX2, fX2, b9⟩
        have s9 := s8.step b9
        have oX_9 := oX_8.later b9
        have oX1_9 := oX1.later b9
        have x9 := x8.step b9
        have q0 := x9.c0
        have q1 := x9.c1
        go_wp2_with fail
        refine (IM.out _ _ _ _ _ _ _ _ _ _ _ _ _ oX_9.net oX1_9.ints oX2.ints).mono ?_
        rintro e w10 ⟨rfl, b10⟩
        have s10 := s9.step b10
        have oX_10 := oX_9.later b10
        have oX1_10 := oX1_9.later b10
        have oX2_10 := oX2.later b10
        have x10 := x9.step b10
        clear q0 q1
        have S8 := Lib.hid s10
        have X8 := Lib.hid x10
        have p0 := s10.c0
        have p1 := s10.c1
        have q0 := x10.c0
        have q1 := x10.c1
        have hxs := x10.lt
        go_wp2_with fail
        go_region_with (first | (go_at_call 17; refine (toNetwork_any _ _ _ _ _ _ net _ (by exact h.later s10.below.drew) hn hm).mono ?_; rintro e w11 ⟨A9, c9, B9, d9, rfl, o9, _, _, b11⟩; have x9 := X8.out.step ((Below.refl _ _).drew.trans b11); have r0 := x9.c0; have r1 := x9.c1) | (go_at_call 20; refine (eqNetwork_any _ _ _ _ _ _ _ _ _ _ net _ (by exact (oX_10.later ((Below.refl _ _).drew.trans b11)).net) (by exact o9.net)).mono ?_; rintro e w12 ⟨rfl, b12⟩))
        all_goals
          have b13 : Below (World.heap w10).size w10 w12 := below_step ((Below.refl _ _).drew.trans b11) b12
          try clear p0 p1
          try clear q0 q1
          try clear r0 r1
          clear x9 o9
          have s13 := s10.step b13
          have oX_13 := oX_10.later b13
          have oX1_13 := oX1_10.later b13
          have oX2_13 := oX2_10.later b13
          have x13 := x10.step b13
          go_wp2_with fail
          refine (toInt64S_any _ _ _ _ _ (hz1.later s13.below) (by omega)).mono ?_
          rintro e w14 ⟨AY1, cY1, rfl, oY1, fY1, b14⟩
          have s14 := s13.step b14
          have oX_14 := oX_13.later b14
          have oX1_14 := oX1_13.later b14
          have oX2_14 := oX2_13.later b14
          have x14 := x13.step b14
          go_wp2_with fail
          refine (eqInt64S_any _ _ _ _ _ _ _ _ _ oX1_14.ints oY1.ints).mono ?_
          rintro e w15 ⟨rfl, hq15⟩
          have b15 : Below (World.heap w14).size w14 w15 := by obtain ⟨q, rfl⟩ := hq15; exact below_drew (Below.refl _ _) q
          clear hq15
          have s15 := s14.step b15
          have oX_15 := oX_14.later b15
          have oX1_15 := oX1_14.later b15
          have oX2_15 := oX2_14.later b15
          have oY1_15 := oY1.later b15
          have x15 := x14.step b15
          go_wp2_with fail
          refine (toInt64S_any _ _ _ _ _ (hz2.later s15.below) (by omega)).mono ?_
          rintro e w16 ⟨AY2, cY2, rfl, oY2, fY2, b16⟩
          have s16 := s15.step b16
          have oX_16 := oX_15.later b16
          have oX1_16 := oX1_15.later b16
          have oX2_16 := oX2_15.later b16
          have x16 := x15.step b16
          go_wp2_with fail
          refine (eqInt64S_any _ _ _ _ _ _ _ _ _ oX2_16.ints oY2.ints).mono ?_
          rintro e w17 ⟨rfl, hq17⟩
          have b17 : Below (World.heap w16).size w16 w17 := by obtain ⟨q, rfl⟩ := hq17; exact below_drew (Below.refl _ _) q
          clear hq17
          have s17 := s16.step b17
          have oX_17 := oX_16.later b17
          have oX1_17 := oX1_16.later b17
          have oX2_17 := oX2_16.later b17
          have oY2_17 := oY2.later b17
          have x17 := x16.step b17
          go_wp2_with fail
          go_ret
          exact ⟨rfl, s17.below⟩

end Go.Proofs.Ytahmhmicegjdkaa
