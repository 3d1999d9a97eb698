/- the law FnExactResidualBound -/
import Derived.Test.YtioiebjgjimeiaaRd
import Derived.Test.YtioiebjgjimeiaaMk
namespace Go.Proofs.Ytioiebjgjimeiaa
open Go.RowKit

set_option maxRecDepth 100000 in
set_option maxHeartbeats 8000000 in
theorem lawResidualBound_any (A : Option Addr) (n c : Nat) (B : Option Addr) (m d : Nat) (net : Net) (C1 : Option Addr) (l1 e1 : Nat) (z1 : List Int) (x2 : Int) (w : World) (h : NetAt w A n c B m d net) (hz1 : Ints w C1 l1 e1 z1) (hx2 : I64 x2) :
    Calls Try.prog 9 #[.agg #[.slice A n c, .slice B m d], .slice C1 l1 e1, .int .i64 x2] w fun e w' => e = .returned (.bool true) ∧ Below w.heap.size w w' := by
  have s0 := LS.start w A n c B m d
  by_cases hl1 : 1048576 < l1
  · go_enter Try.func9, Try.ntmps9
    go_wp2_with fail
    go_ret
    exact ⟨rfl, s0.below⟩
  · have ee1 := eqL_self z1
    have spec' := fun A n c B m d C1 l1 e1 w h0 h1  => specResidualBound_any A n c B m d net C1 l1 e1 z1 x2 w h0 h1 hx2
    have impl' := fun A n c B m d C1 l1 e1 w h0 h1  => implResidualBound_any A n c B m d net C1 l1 e1 z1 x2 w h0 h1 hx2
    obtain ⟨R, hR⟩ : ∃ R, R = (rResidualBound net z1 x2).1 := ⟨_, rfl⟩
    obtain ⟨K, hK⟩ : ∃ K, K = (rResidualBound net z1 x2).2 := ⟨_, rfl⟩
    simp only [← hR, ← hK] at spec' impl'
    clear hR hK
    have SP := Lib.hid spec'
    have IM := Lib.hid impl'
    clear spec' impl'
    go_enter Try.func9, Try.ntmps9
    go_wp2_with fail
    refine (szNetwork_any _ _ _ _ _ _ net _ (h.later s0.below)).mono ?_
    rintro e w1 ⟨r, rfl, hr, b1⟩
    have s1 := s0.step b1
    by_cases hr0 : r < 0
    · clear hr
      go_wp2_with fail
      go_ret
      exact ⟨rfl, s1.below⟩
    · obtain ⟨hn, hm⟩ := hr (by omega)
      clear hr
      have p0 := s1.c0
      have p1 := s1.c1
      go_wp2_with fail
      refine (toNetwork_any _ _ _ _ _ _ net _ (h.later s1.below) hn hm).mono ?_
      rintro e w2 ⟨AS, cS, BS, dS, rfl, oS, faS, fbS, b2⟩
      clear p0 p1
      have s2 := s1.step b2
      go_wp2_with fail
      refine (toInt64S_any _ _ _ _ _ (hz1.later s2.below) (by omega)).mono ?_
      rintro e w3 ⟨AS1, cS1, rfl, oS1, fS1, b3⟩
      have s3 := s2.step b3
      have oS_3 := oS.later b3
      go_wp2_with fail
      refine (SP.out _ _ _ _ _ _ _ _ _ _ oS_3.net oS1.ints).mono ?_
      rintro e w4 ⟨rfl, b4⟩
      have s4 := s3.step b4
      have oS_4 := oS_3.later b4
      have oS1_4 := oS1.later b4
      have p0 := s4.c0
      have p1 := s4.c1
      go_wp2_with fail
      refine (toNetwork_any _ _ _ _ _ _ net _ (h.later s4.below) hn hm).mono ?_
      rintro e w5 ⟨AX, cX, BX, dX, rfl, oX, faX, fbX, b5⟩
      clear p0 p1
      have s5 := s4.step b5
      have b6 := bel1 w5 (.cells #[.slice AX n cX, .slice BX m dX] 27)
      have x6 : Go.Proofs.Ytioiebjgjimeiaa.BX (w5.alloc (.cells #[.slice AX n cX, .slice BX m dX] 27)) w5.heap.size AX n cX BX m dX := ⟨heap_alloc_new _ _⟩
      have s6 := s5.step b6
      have oX_6 := oX.later b6
      go_wp2_with fail
      refine (toInt64S_any _ _ _ _ _ (hz1.later s6.below) (by omega)).mono ?_
      rintro e w7 ⟨AX1, cX1, rfl, oX1, fX1, b7⟩
      have s7 := s6.step b7
      have oX_7 := oX_6.later b7
      have x7 := x6.step b7
      have q0 := x7.c0
      have q1 := x7.c1
      go_wp2_with fail
      refine (IM.out _ _ _ _ _ _ _ _ _ _ oX_7.net oX1.ints).mono ?_
      rintro e w8 ⟨rfl, b8⟩
      have s8 := s7.step b8
      have oX_8 := oX_7.later b8
      have oX1_8 := oX1.later b8
      have x8 := x7.step b8
      clear q0 q1
      have S8 := Lib.hid s8
      have X8 := Lib.hid x8
      have p0 := s8.c0
      have p1 := s8.c1
      have q0 := x8.c0
      have q1 := x8.c1
      have hxs := x8.lt
      go_wp2_with fail
      go_region_with (first | (go_at_call 39; refine (toNetwork_any _ _ _ _ _ _ net _ (by exact h.later s8.below.drew) hn hm).mono ?_; rintro e w9 ⟨A9, c9, B9, d9, rfl, o9, _, _, b9⟩; have x9 := X8.out.step ((Below.refl _ _).drew.trans b9); have r0 := x9.c0; have r1 := x9.c1) | (go_at_call 43; refine (eqNetwork_any _ _ _ _ _ _ _ _ _ _ net _ (by exact (oX_8.later ((Below.refl _ _).drew.trans b9)).net) (by exact o9.net)).mono ?_; rintro e w10 ⟨rfl, b10⟩))
      all_goals
        have b11 : Below (World.heap w8).size w8 w10 := below_step ((Below.refl _ _).drew.trans b9) b10
        try clear p0 p1
        try clear q0 q1
        try clear r0 r1
        clear x9 o9
        have s11 := s8.step b11
        have oX_11 := oX_8.later b11
        have oX1_11 := oX1_8.later b11
        have x11 := x8.step b11
        go_wp2_with fail
        refine (toInt64S_any _ _ _ _ _ (hz1.later s11.below) (by omega)).mono ?_
        rintro e w12 ⟨AY1, cY1, rfl, oY1, fY1, b12⟩
        have s12 := s11.step b12
        have oX_12 := oX_11.later b12
        have oX1_12 := oX1_11.later b12
        have x12 := x11.step b12
        go_wp2_with fail
        refine (eqInt64S_any _ _ _ _ _ _ _ _ _ oX1_12.ints oY1.ints).mono ?_
        rintro e w13 ⟨rfl, hq13⟩
        have b13 : Below (World.heap w12).size w12 w13 := by obtain ⟨q, rfl⟩ := hq13; exact below_drew (Below.refl _ _) q
        clear hq13
        have s13 := s12.step b13
        have oX_13 := oX_12.later b13
        have oX1_13 := oX1_12.later b13
        have oY1_13 := oY1.later b13
        have x13 := x12.step b13
        go_wp2_with fail
        go_ret
        exact ⟨rfl, s13.below⟩

end Go.Proofs.Ytioiebjgjimeiaa
