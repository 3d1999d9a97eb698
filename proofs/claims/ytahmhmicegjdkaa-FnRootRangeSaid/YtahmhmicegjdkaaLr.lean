/- the law FnRootRange -/
import Derived.Test.YtahmhmicegjdkaaK9
import Derived.Test.YtahmhmicegjdkaaL9
namespace Go.Proofs.Ytahmhmicegjdkaa
open Go.RowKit

set_option maxRecDepth 100000 in
set_option maxHeartbeats 8000000 in
theorem lawRootRange_any (A : Option Addr) (n c : Nat) (bs : List Int) (w : World) (h : Bytes w A n c bs) :
    Calls Try.prog 10 #[.slice A n c] w fun e w' => e = .returned (.bool true) ∧ Below w.heap.size w w' := by
  by_cases hbig : 4096 < n
  · have hb' : decide (4096 < n) = true := by simp [hbig]
    go_enter Try.func10, Try.ntmps10
    go_wp2_with fail
    refine (big_any _ _ _ _).mono ?_
    rintro e w' ⟨rfl, rfl⟩
    rw [hb']
    go_wp2_with fail
    go_ret
    exact ⟨rfl, Below.refl _ _⟩
  · have hb' : decide (4096 < n) = false := by simp [hbig]
    go_enter Try.func10, Try.ntmps10
    go_wp2_with fail
    refine (big_any _ _ _ _).mono ?_
    rintro e w' ⟨rfl, rfl⟩
    rw [hb']
    go_wp2_with fail
    refine (DrawRootRange_any _ _ _ _ _ h).mono ?_
    rintro e w1 ⟨An, k, cn, Ap, m, cp, ns, ps, Al, L, cl, zs, x, _, rfl, hn, hz, hk, hm, hL, hx, _, b1⟩
    have bx0 : BX (w1.alloc (.cells #[.slice An k cn, .slice Ap m cp] 32)) w1.heap.size An k cn Ap m cp := ⟨heap_alloc_new w1 _⟩
    have hn1 := hn.later (bel1 w1 (.cells #[.slice An k cn, .slice Ap m cp] 32))
    have hz1 := hz.later (bel1 w1 (.cells #[.slice An k cn, .slice Ap m cp] 32))
    have t1 := below_step b1 (bel1 w1 (.cells #[.slice An k cn, .slice Ap m cp] 32))
    obtain ⟨net, hnet⟩ : ∃ net : Net, (⟨ns, ps⟩ : Net) = net := ⟨_, rfl⟩
    rw [hnet] at hn1
    have hlaw := range_law (net := net) (zs := zs) (root := x)
    have hlim := rRootRange_lim net zs x
    have hRR := fun A n c B m d C l e w h0 h1 => implRootRange_any A n c B m d net C l e zs x w h0 h1 hx
    have hSR := fun A n c B m d C l e w h0 h1 => specRootRange_any A n c B m d net C l e zs x w h0 h1 hx
    have hBP := fun A n c B m d C l e w h0 h1 => implBlockingPair_any A n c B m d net C l e zs w h0 h1
    have hML := fun A n c B m d C l e w h0 h1 => implMiddleLevel_any A n c B m d net C l e zs x w h0 h1 hx
    generalize (rRootRange net zs x).1 = P at *
    generalize (rRootRange net zs x).2.1 = Q at *
    generalize (rRootRange net zs x).2.2 = K at *
    generalize (rBlockingPair net zs).1 = B1 at *
    generalize (rBlockingPair net zs).2.1 = B2 at *
    generalize (rBlockingPair net zs).2.2 = B3 at *
    generalize (rMiddleLevel net zs x).1 = M1 at *
    generalize (rMiddleLevel net zs x).2 = M2 at *
    have HRR := Lib.hid hRR
    have HSR := Lib.hid hSR
    have HBP := Lib.hid hBP
    have HML := Lib.hid hML
    have HLW := Lib.hid hlaw
    clear hn hz b1 hRR hSR hBP hML hlaw hnet
    go_wp2_with fail
    refine (HRR.out _ _ _ _ _ _ _ _ _ _ hn1 hz1).mono ?_
    rintro e w2 ⟨rfl, b2⟩
    have bx2 := bx0.step b2
    have hn2 := hn1.later b2
    have hz2 := hz1.later b2
    have t2 := below_step t1 b2
    have k0 := bx2.c0
    have k1 := bx2.c1
    clear bx0 hn1 hz1 t1 b2
    go_wp2_with fail
    refine (HSR.out _ _ _ _ _ _ _ _ _ _ hn2 hz2).mono ?_
    rintro e w3 ⟨rfl, b3⟩
    have bx3 := bx2.step b3
    have hn3 := hn2.later b3
    have hz3 := hz2.later b3
    have t3 := below_step t2 b3
    clear k0 k1 bx2 hn2 hz2 t2 b3
    have k0 := bx3.c0
    have k1 := bx3.c1
    go_wp2_with fail
    refine (HBP.out _ _ _ _ _ _ _ _ _ _ hn3 hz3).mono ?_
    rintro e w4 ⟨rfl, b4⟩
    have bx4 := bx3.step b4
    have hn4 := hn3.later b4
    have hz4 := hz3.later b4
    have t4 := below_step t3 b4
    clear k0 k1 bx3 hn3 hz3 t3 b4
    by_cases hK7 : K = 7
    · have hB3 := HLW.out.1 hK7
      subst hK7
      subst hB3
      go_wp2_with fail
      go_ret
      exact ⟨rfl, t4⟩
    · have hK7' : (K == 7) = false := by simp [hK7]
      by_cases hK0 : K = 0
      · obtain ⟨l1, l2, l3, l4, l5, l6, l7, l8⟩ := HLW.out.2 hK0
        subst hK0
        subst l1
        subst l6
        have hPi : I64 P := ⟨by omega, by omega⟩
        have hQi : I64 (Q + 1) := ⟨by omega, by omega⟩
        have hF1 := fun A n c B m d C l e w h0 h1 => implForestLevels_any A n c B m d net C l e zs x P w h0 h1 hx hPi
        have hF2 := fun A n c B m d C l e w h0 h1 => implForestLevels_any A n c B m d net C l e zs x (Q + 1) w h0 h1 hx hQi
        rw [l2] at hF1
        rw [l3] at hF2
        generalize levL net zs x.toNat P = L1 at *
        generalize levL net zs x.toNat (Q + 1) = L2 at *
        have HF1 := Lib.hid hF1
        have HF2 := Lib.hid hF2
        have HW1 := Lib.hid l4
        have HW2 := Lib.hid l5
        clear hF1 hF2 l2 l3 l4 l5 HLW hK7 hK7'
        have k0 := bx4.c0
        have k1 := bx4.c1
        go_wp2_with fail
        refine (HF1.out _ _ _ _ _ _ _ _ _ _ hn4 hz4).mono ?_
        rintro e w5 ⟨A5, c5, rfl, o5, f5, b5⟩
        have bx5 := bx4.step b5
        have hn5 := hn4.later b5
        have hz5 := hz4.later b5
        have t5 := below_step t4 b5
        clear k0 k1 bx4 hn4 hz4 t4 b5
        have k0 := bx5.c0
        have k1 := bx5.c1
        go_wp2_with fail
        refine (HF2.out _ _ _ _ _ _ _ _ _ _ hn5 hz5).mono ?_
        rintro e w6 ⟨A6, c6, rfl, o6, f6, b6⟩
        have bx6 := bx5.step b6
        have hn6 := hn5.later b6
        have hz6 := hz5.later b6
        have t6 := below_step t5 b6
        have o56 := o5.later b6
        clear k0 k1 bx5 hn5 hz5 t5 b6 o5
        have k0 := bx6.c0
        have k1 := bx6.c1
        go_wp2_with fail
        refine (HML.out _ _ _ _ _ _ _ _ _ _ hn6 hz6).mono ?_
        rintro e w7 ⟨rfl, b7⟩
        have bx7 := bx6.step b7
        have hn7 := hn6.later b7
        have t7 := below_step t6 b7
        have o57 := o56.later b7
        have o67 := o6.later b7
        clear k0 k1 bx6 hn6 hz6 t6 b7 o56 o6
        have k0 := bx7.c0
        have k1 := bx7.c1
        go_wp2_with fail
        refine (implIsWithin_any _ _ _ _ _ _ _ _ _ net _ _ hn7 o57.ints).mono ?_
        rintro e w8 ⟨rfl, b8⟩
        rw [HW1.out]
        have bx8 := bx7.step b8
        have hn8 := hn7.later b8
        have t8 := below_step t7 b8
        have o68 := o67.later b8
        clear k0 k1 bx7 hn7 t7 b8 o57 o67
        have k0 := bx8.c0
        have k1 := bx8.c1
        go_wp2_with fail
        refine (implIsWithin_any _ _ _ _ _ _ _ _ _ net _ _ hn8 o68.ints).mono ?_
        rintro e w9 ⟨rfl, b9⟩
        rw [HW2.out]
        have t9 := below_step t8 b9
        clear k0 k1 bx8 hn8 t8 b9 o68
        go_wp2_with fail
        go_ret
        exact ⟨rfl, t9⟩
      · have hK0' : (K != 0) = true := by simp [hK0]
        clear hK0 hK7 HLW
        go_wp2_with fail
        go_ret
        exact ⟨rfl, t4⟩

end Go.Proofs.Ytahmhmicegjdkaa
