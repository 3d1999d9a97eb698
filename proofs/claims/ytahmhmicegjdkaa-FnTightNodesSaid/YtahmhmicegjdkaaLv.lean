/- the law FnTightNodes -/
import Derived.Test.YtahmhmicegjdkaaKt
import Derived.Test.YtahmhmicegjdkaaLt
namespace Go.Proofs.Ytahmhmicegjdkaa
open Go.RowKit

set_option maxRecDepth 100000 in
set_option maxHeartbeats 8000000 in
theorem lawTight_any (A : Option Addr) (n c : Nat) (bs : List Int) (w : World) (h : Bytes w A n c bs) :
    Calls Try.prog 14 #[.slice A n c] w fun e w' => e = .returned (.bool true) ∧ Below w.heap.size w w' := by
  by_cases hbig : 4096 < n
  · have hb' : decide (4096 < n) = true := by simp [hbig]
    go_enter Try.func14, Try.ntmps14
    go_wp2_with fail
    refine (big_any _ _ _ _).mono ?_
    rintro e w' ⟨rfl, rfl⟩
    rw [hb']
    go_wp2_with fail
    go_ret
    exact ⟨rfl, Below.refl _ _⟩
  · have hb' : decide (4096 < n) = false := by simp [hbig]
    go_enter Try.func14, Try.ntmps14
    go_wp2_with fail
    refine (big_any _ _ _ _).mono ?_
    rintro e w' ⟨rfl, rfl⟩
    rw [hb']
    go_wp2_with fail
    refine (DrawTightNodes_any _ _ _ _ _ h).mono ?_
    rintro e w1 ⟨An, k, cn, Ap, m, cp, ns, ps, Al, L, cl, zs, x, y, rfl, hn, hz, hk, hm, hL, hx, hy, b1⟩
    have bx1 : BX (w1.alloc (.cells #[.slice An k cn, .slice Ap m cp] 32)) w1.heap.size An k cn Ap m cp := ⟨heap_alloc_new w1 _⟩
    have hn1 := hn.later (bel1 w1 (.cells #[.slice An k cn, .slice Ap m cp] 32))
    have hz1 := hz.later (bel1 w1 (.cells #[.slice An k cn, .slice Ap m cp] 32))
    have t1 := below_step b1 (bel1 w1 (.cells #[.slice An k cn, .slice Ap m cp] 32))
    obtain ⟨net, hnet⟩ : ∃ net : Net, (⟨ns, ps⟩ : Net) = net := ⟨_, rfl⟩
    rw [hnet] at hn1
    have hlaw := tight_law (net := net) (zs := zs) (root := x) (level := y)
    have hT := fun A n c B m d C l e w h0 h1 => implTightNodes_any A n c B m d net C l e zs x y w h0 h1 hx hy
    have hS := fun A n c B m d C l e w h0 h1 => specTightNodes_any A n c B m d net C l e zs x y w h0 h1 hx hy
    have hM := fun A n c B m d C l e w h0 h1 => implMissedBy_any A n c B m d net C l e zs x y w h0 h1 hx hy
    have hN := fun A n c B m d C l e w h0 h1 => specMissedBy_any A n c B m d net C l e zs x y w h0 h1 hx hy
    have hR := fun A n c B m d C l e w h0 h1 => implRootRange_any A n c B m d net C l e zs x w h0 h1 hx
    have hF := fun A n c B m d C l e w h0 h1 => implForestLevels_any A n c B m d net C l e zs x y w h0 h1 hx hy
    simp only [RetLI] at hT hS
    generalize (rTightNodes net zs x y).1 = R at *
    generalize (rTightNodes net zs x y).2 = K at *
    generalize (rMissedBy net zs x y).1 = M at *
    generalize (rMissedBy net zs x y).2 = M2 at *
    generalize (rRootRange net zs x).1 = P at *
    generalize (rRootRange net zs x).2.1 = Q at *
    generalize (rRootRange net zs x).2.2 = K2 at *
    have HT := Lib.hid hT
    have HS := Lib.hid hS
    have HM := Lib.hid hM
    have HN := Lib.hid hN
    have HR := Lib.hid hR
    have HF := Lib.hid hF
    have HLW := Lib.hid hlaw
    have eR := eqL_self R
    clear hn hz b1 hT hS hM hN hR hF hlaw hnet
    go_wp2_with fail
    refine (HT.out _ _ _ _ _ _ _ _ _ _ hn1 hz1).mono ?_
    rintro e w2 ⟨A2, c2, rfl, oa2, fa2, b2⟩
    have bx2 := bx1.step b2
    have hn2 := hn1.later b2
    have hz2 := hz1.later b2
    have t2 := below_step t1 b2
    clear bx1 hn1 hz1 t1 b2
    have k0 := bx2.c0
    have k1 := bx2.c1
    go_wp2_with fail
    refine (HS.out _ _ _ _ _ _ _ _ _ _ hn2 hz2).mono ?_
    rintro e w3 ⟨A3, c3, rfl, ob3, fb3, b3⟩
    have bx3 := bx2.step b3
    have hn3 := hn2.later b3
    have hz3 := hz2.later b3
    have t3 := below_step t2 b3
    have oa3 := oa2.later b3
    clear bx2 hn2 hz2 t2 b3 oa2 k0 k1
    have k0 := bx3.c0
    have k1 := bx3.c1
    go_wp2_with fail
    refine (HM.out _ _ _ _ _ _ _ _ _ _ hn3 hz3).mono ?_
    rintro e w4 ⟨rfl, b4⟩
    have bx4 := bx3.step b4
    have hn4 := hn3.later b4
    have hz4 := hz3.later b4
    have t4 := below_step t3 b4
    have oa4 := oa3.later b4
    have ob4 := ob3.later b4
    clear bx3 hn3 hz3 t3 b4 oa3 ob3 k0 k1
    have k0 := bx4.c0
    have k1 := bx4.c1
    go_wp2_with fail
    refine (HN.out _ _ _ _ _ _ _ _ _ _ hn4 hz4).mono ?_
    rintro e w5 ⟨rfl, b5⟩
    have bx5 := bx4.step b5
    have hn5 := hn4.later b5
    have hz5 := hz4.later b5
    have t5 := below_step t4 b5
    have oa5 := oa4.later b5
    have ob5 := ob4.later b5
    clear bx4 hn4 hz4 t4 b5 oa4 ob4 k0 k1
    have k0 := bx5.c0
    have k1 := bx5.c1
    go_wp2_with fail
    refine (likeInts_any _ _ _ _ _ _ _ _ _ oa5.ints ob5.ints).mono ?_
    rintro e w6 ⟨rfl, q, rfl⟩
    rw [eR]
    have b6 := below_drew (Below.refl w5.heap.size w5) q
    generalize w5.drewN q = w6 at *
    have bx6 := bx5.step b6
    have hn6 := hn5.later b6
    have hz6 := hz5.later b6
    have t6 := below_step t5 b6
    clear bx5 hn5 hz5 t5 b6 k0 k1 oa5 ob5
    have k0 := bx6.c0
    have k1 := bx6.c1
    by_cases hK : K = 0
    · obtain ⟨l1, l2, l3, l4⟩ := HLW.out hK
      subst hK
      subst l1
      have H2 := HF.out
      rw [l2] at H2
      simp only [RetLI] at H2
      generalize levL net zs x.toNat y = L1 at *
      have HF2 := Lib.hid H2
      have L3 := Lib.hid l3
      have L4 := Lib.hid l4
      clear H2 l2 l3 l4 HF HLW
      go_wp2_with fail
      refine (HF2.out _ _ _ _ _ _ _ _ _ _ hn6 hz6).mono ?_
      rintro e w7 ⟨A7, c7, rfl, ol7, fl7, b7⟩
      have bx7 := bx6.step b7
      have hn7 := hn6.later b7
      have hz7 := hz6.later b7
      have t7 := below_step t6 b7
      clear bx6 hn6 hz6 t6 b7  k0 k1
      have k0 := bx7.c0
      have k1 := bx7.c1
      go_wp2_with fail
      refine (HR.out _ _ _ _ _ _ _ _ _ _ hn7 hz7).mono ?_
      rintro e w8 ⟨rfl, b8⟩
      have bx8 := bx7.step b8
      have hn8 := hn7.later b8
      have hz8 := hz7.later b8
      have t8 := below_step t7 b8
      have ol8 := ol7.later b8
      clear bx7 hn7 hz7 t7 b8 ol7 k0 k1
      have k0 := bx8.c0
      have k1 := bx8.c1
      go_wp2_with fail
      refine (implIsWithin_any _ _ _ _ _ _ _ _ _ net _ _ hn8 ol8.ints).mono ?_
      rintro e w9 ⟨rfl, b9⟩
      rw [L3.out]
      have t9 := below_step t8 b9
      clear k0 k1 bx8 hn8 hz8 t8 b9 ol8
      by_cases h2 : K2 = 0
      · obtain ⟨g1, g2⟩ := L4.out h2
        subst h2
        have f1 : (M == 0) = decide (M = 0) := by by_cases hM : M = 0 <;> simp [hM]
        by_cases hM : M = 0
        · obtain ⟨g3, g4⟩ := g1.1 hM
          subst hM
          by_cases hp : y = P
          · have hr := g2 (.inl hp)
            have hr2 : (R.length : Int) > 0 := by omega
            subst hp
            clear g1 g2 f1
            go_wp2_with fail
            go_ret
            exact ⟨rfl, t9⟩
          · by_cases hq : y = Q
            · have hr := g2 (.inr hq)
              have hr2 : (R.length : Int) > 0 := by omega
              subst hq
              clear g1 g2 f1
              have hp' : (y != P) = true := by simp [hp]
              go_wp2_with fail
              go_ret
              exact ⟨rfl, t9⟩
            · have hp' : (y != P) = true := by simp [hp]
              have hq' : (y != Q) = true := by simp [hq]
              clear g1 g2 f1
              go_wp2_with fail
              go_ret
              exact ⟨rfl, t9⟩
        · have hM' : (M == 0) = false := by simp [hM]
          have g3 : ¬ (P ≤ y ∧ y ≤ Q) := fun hh => hM (g1.2 hh)
          have hp' : (y != P) = true ∨ 0 < R.length := by
            by_cases hp : y = P
            · exact .inr (g2 (.inl hp))
            · exact .inl (by simp [hp])
          by_cases hpp : P ≤ y
          · have hqq : ¬ y ≤ Q := fun hh => g3 ⟨hpp, hh⟩
            have hq' : (y != Q) = true := by simp; omega
            have hqd : decide (y ≤ Q) = false := decide_eq_false hqq
            by_cases hp : y = P
            · have hr := g2 (.inl hp)
              have hr2 : (R.length : Int) > 0 := by omega
              have hpf : (y != P) = false := by simp [hp]
              clear g1 g2 g3 f1 hp hp'
              go_wp2_with fail
              go_ret
              first | exact ⟨rfl, t9⟩ | exact ⟨by rw [hqd]; rfl, t9⟩
            · have hpf : (y != P) = true := by simp [hp]
              clear g1 g2 g3 f1 hp hp'
              go_wp2_with fail
              go_ret
              first | exact ⟨rfl, t9⟩ | exact ⟨by rw [hqd]; rfl, t9⟩
          · have hpf : (y != P) = true := by simp; omega
            by_cases hq : y = Q
            · have hr := g2 (.inr hq)
              have hr2 : (R.length : Int) > 0 := by omega
              have hqf : (y != Q) = false := by simp [hq]
              clear g1 g2 g3 f1 hq hp'
              go_wp2_with fail
              go_ret
              exact ⟨rfl, t9⟩
            · have hqf : (y != Q) = true := by simp [hq]
              clear g1 g2 g3 f1 hq hp'
              go_wp2_with fail
              go_ret
              exact ⟨rfl, t9⟩
      · have h2' : (K2 != 0) = true := by simp [h2]
        clear h2 L4
        by_cases hM : M = 0
        · subst hM
          go_wp2_with fail
          go_ret
          exact ⟨rfl, t9⟩
        · have hM' : (M == 0) = false := by simp [hM]
          have hMd : decide (M = 0) = false := by simp [hM]
          clear hM
          go_wp2_with fail
          go_ret
          exact ⟨rfl, t9⟩
    · have hK' : (K != 0) = true := by simp [hK]
      clear hK HLW
      go_wp2_with fail
      go_ret
      exact ⟨rfl, t6⟩

end Go.Proofs.Ytahmhmicegjdkaa
