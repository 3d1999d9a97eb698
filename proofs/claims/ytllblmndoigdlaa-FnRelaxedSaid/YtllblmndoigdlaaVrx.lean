/- the law FnRelaxed -/
import Derived.Test.YtllblmndoigdlaaDj
import Derived.Test.YtllblmndoigdlaaVr
import Derived.Test.YtllblmndoigdlaaRk
import Derived.Test.YtllblmndoigdlaaRf
namespace Go.Proofs.Ytllblmndoigdlaa
open Go.RowKit

set_option maxRecDepth 100000 in
set_option maxHeartbeats 8000000 in
theorem lawRelaxed_any (A : Option Addr) (n c : Nat) (bs : List Int) (w : World) (h : Bytes w A n c bs) :
    Calls Try.prog 7 #[.slice A n c] w fun e w' => e = .returned (.bool true) ∧ Below w.heap.size w w' := by
  by_cases hbig : 4096 < n
  · have hb' : decide (4096 < n) = true := by simp [hbig]
    go_enter Try.func7, Try.ntmps7
    go_wp2_with fail
    refine (big_any _ _ _ _).mono ?_
    rintro e w' ⟨rfl, rfl⟩
    rw [hb']
    go_wp2_with fail
    go_ret
    exact ⟨rfl, Below.refl _ _⟩
  · have hb' : decide (4096 < n) = false := by simp [hbig]
    go_enter Try.func7, Try.ntmps7
    go_wp2_with fail
    refine (big_any _ _ _ _).mono ?_
    rintro e w' ⟨rfl, rfl⟩
    rw [hb']
    go_wp2_with fail
    refine (DrawRelaxFlows_any _ _ _ _ _ h).mono ?_
    rintro e w1 ⟨An, k, cn, Ap, m, cp, ns, ps, Al, L, cl, zs, x, _, rfl, hd, hz, _, hk, hm, hL, hx, _, b1⟩
    have bx1 : BX (w1.alloc (.cells #[.slice An k cn, .slice Ap m cp] 27)) w1.heap.size An k cn Ap m cp := ⟨heap_alloc_new w1 _⟩
    have hn1 : NetAt (w1.alloc (.cells #[.slice An k cn, .slice Ap m cp] 27)) An k cn Ap m cp ⟨ns, ps⟩ := hd.net.later (bel1 w1 (.cells #[.slice An k cn, .slice Ap m cp] 27))
    have oz1 := hz.later (bel1 w1 (.cells #[.slice An k cn, .slice Ap m cp] 27))
    have t1 := below_step b1 (bel1 w1 (.cells #[.slice An k cn, .slice Ap m cp] 27))
    obtain ⟨net, hnet⟩ : ∃ net : Net, (⟨ns, ps⟩ : Net) = net := ⟨_, rfl⟩
    rw [hnet] at hn1
    clear hd hz b1 hnet
    obtain ⟨X, T, K, hR⟩ : ∃ X T K, rRelaxFlows net zs x = (X, T, K) := ⟨_, _, _, rfl⟩
    have cHT := fun A n c B m d C l e w h0 h1 => implRelaxFlows_any A n c B m d net C l e zs x w h0 h1 hx
    simp only [RetLII, hR] at cHT
    have HT := Lib.hid cHT
    clear cHT
    have cHS := fun A n c B m d C l e w h0 h1 => specRelaxFlows_any A n c B m d net C l e zs x w h0 h1 hx
    simp only [RetLII, hR] at cHS
    have HS := Lib.hid cHS
    clear cHS
    have eX := eqL_self X
    by_cases hK : K = 0
    · subst hK
      obtain ⟨E, F, l1, l2, l3, l4, l5⟩ := relaxed_law (by rw [hR] : (rRelaxFlows net zs x).2.2 = 0)
      rw [hR] at l2 l3 l4 l5
      simp only at l2 l3 l4 l5
      obtain ⟨P, J, hP⟩ : ∃ P J, rSuppliesOf net zs = (P, J) := ⟨_, _, rfl⟩
      rw [hP] at l3
      have cHE := fun A n c B m d C l e w h0 h1 => implEnergyOf_any A n c B m d net C l e zs w h0 h1
      simp only [l1] at cHE
      have HE := Lib.hid cHE
      clear cHE
      have cHF := fun A n c B m d C l e w h0 h1 => implEnergyOf_any A n c B m d net C l e X w h0 h1
      simp only [l2] at cHF
      have HF := Lib.hid cHF
      clear cHF
      have cHP := fun A n c B m d C l e w h0 h1 => implSuppliesOf_any A n c B m d net C l e zs w h0 h1
      simp only [RetLI, hP] at cHP
      have HP := Lib.hid cHP
      clear cHP
      have cHQ := fun A n c B m d C l e w h0 h1 => implSuppliesOf_any A n c B m d net C l e X w h0 h1
      simp only [RetLI, l3] at cHQ
      have HQ := Lib.hid cHQ
      clear cHQ
      have cHI := fun A n c B m d C l e w h0 h1 => implIsRelaxed_any A n c B m d net C l e X w h0 h1
      have HI := Lib.hid cHI
      clear cHI
      have eP := eqL_self P
      have HL4 := Lib.hid l4
      have HL5 := Lib.hid l5
      clear l1 l2 l3 l4 l5 hP hR
      go_wp2_with fail
      refine (HT.out _ _ _ _ _ _ _ _ _ _ hn1 oz1.ints).mono ?_
      rintro e w2 ⟨AoX, coX, rfl, oX2, foX2, b2⟩
      have hn2 := hn1.later b2
      have t2 := below_step t1 b2
      have bx2 := bx1.step b2
      have oz2 := oz1.later b2
      clear hn1 t1 b2 bx1 oz1
      have k0 := bx2.c0
      have k1 := bx2.c1
      go_wp2_with fail
      refine (HS.out _ _ _ _ _ _ _ _ _ _ hn2 oz2.ints).mono ?_
      rintro e w3 ⟨AoY, coY, rfl, oY3, foY3, b3⟩
      have hn3 := hn2.later b3
      have t3 := below_step t2 b3
      have bx3 := bx2.step b3
      have oz3 := oz2.later b3
      have oX3 := oX2.later b3
      clear hn2 t2 b3 bx2 oz2 oX2 k0 k1
      have k0 := bx3.c0
      have k1 := bx3.c1
      go_wp2_with fail
      refine (likeInts_any _ _ _ _ _ _ _ _ _ oX3.ints oY3.ints).mono ?_
      rintro e w4 ⟨rfl, q, rfl⟩
      rw [eX]
      have b4 := below_drew (Below.refl w3.heap.size w3) q
      generalize w3.drewN q = w4 at *
      have hn4 := hn3.later b4
      have t4 := below_step t3 b4
      have bx4 := bx3.step b4
      have oz4 := oz3.later b4
      have oX4 := oX3.later b4
      have oY4 := oY3.later b4
      clear hn3 t3 b4 bx3 oz3 oX3 oY3 k0 k1
      have k0 := bx4.c0
      have k1 := bx4.c1
      clear oY4
      go_wp2_with fail
      refine (HE.out _ _ _ _ _ _ _ _ _ _ hn4 oz4.ints).mono ?_
      rintro e w5 ⟨rfl, b5⟩
      have hn5 := hn4.later b5
      have t5 := below_step t4 b5
      have bx5 := bx4.step b5
      have oz5 := oz4.later b5
      have oX5 := oX4.later b5
      clear hn4 t4 b5 bx4 oz4 oX4 k0 k1
      have k0 := bx5.c0
      have k1 := bx5.c1
      go_wp2_with fail
      refine (HF.out _ _ _ _ _ _ _ _ _ _ hn5 oX5.ints).mono ?_
      rintro e w6 ⟨rfl, b6⟩
      have hn6 := hn5.later b6
      have t6 := below_step t5 b6
      have bx6 := bx5.step b6
      have oz6 := oz5.later b6
      have oX6 := oX5.later b6
      clear hn5 t5 b6 bx5 oz5 oX5 k0 k1
      have k0 := bx6.c0
      have k1 := bx6.c1
      go_wp2_with fail
      refine (HP.out _ _ _ _ _ _ _ _ _ _ hn6 oz6.ints).mono ?_
      rintro e w7 ⟨AoP, coP, rfl, oP7, foP7, b7⟩
      have hn7 := hn6.later b7
      have t7 := below_step t6 b7
      have bx7 := bx6.step b7
      have oz7 := oz6.later b7
      have oX7 := oX6.later b7
      clear hn6 t6 b7 bx6 oz6 oX6 k0 k1
      have k0 := bx7.c0
      have k1 := bx7.c1
      go_wp2_with fail
      refine (HQ.out _ _ _ _ _ _ _ _ _ _ hn7 oX7.ints).mono ?_
      rintro e w8 ⟨AoQ, coQ, rfl, oQ8, foQ8, b8⟩
      have hn8 := hn7.later b8
      have t8 := below_step t7 b8
      have bx8 := bx7.step b8
      have oz8 := oz7.later b8
      have oX8 := oX7.later b8
      have oP8 := oP7.later b8
      clear hn7 t7 b8 bx7 oz7 oX7 oP7 k0 k1
      have k0 := bx8.c0
      have k1 := bx8.c1
      rcases HL4.out with ⟨h0, h1⟩ | ⟨h0, h1⟩
      · subst h0
        subst h1
        have hI := HL5.out.resolve_left (by decide)
        have HI2 := HI.out
        simp only [hI] at HI2
        have HI3 := Lib.hid HI2
        clear HI2 hI HL5 HL4 HI
        go_wp2_with fail
        refine (likeInts_any _ _ _ _ _ _ _ _ _ oP8.ints oQ8.ints).mono ?_
        rintro e w9 ⟨rfl, q, rfl⟩
        rw [eP]
        have b9 := below_drew (Below.refl w8.heap.size w8) q
        generalize w8.drewN q = w9 at *
        have hn9 := hn8.later b9
        have t9 := below_step t8 b9
        have bx9 := bx8.step b9
        have oz9 := oz8.later b9
        have oX9 := oX8.later b9
        have oP9 := oP8.later b9
        have oQ9 := oQ8.later b9
        clear hn8 t8 b9 bx8 oz8 oX8 oP8 oQ8 k0 k1
        have k0 := bx9.c0
        have k1 := bx9.c1
        go_wp2_with fail
        refine (HI3.out _ _ _ _ _ _ _ _ _ _ hn9 oX9.ints).mono ?_
        rintro e w10 ⟨rfl, b10⟩
        have hn10 := hn9.later b10
        have t10 := below_step t9 b10
        have bx10 := bx9.step b10
        have oz10 := oz9.later b10
        have oX10 := oX9.later b10
        have oP10 := oP9.later b10
        have oQ10 := oQ9.later b10
        clear hn9 t9 b10 bx9 oz9 oX9 oP9 oQ9 k0 k1
        have k0 := bx10.c0
        have k1 := bx10.c1
        go_wp2_with fail
        go_ret
        exact ⟨rfl, t10⟩
      · have h0' : (T == 0) = false := by simp; omega
        have h0g : decide (T > 0) = true := decide_eq_true h0
        have h1g : decide (F < E) = true := decide_eq_true h1
        by_cases h5 : T = 5000
        · subst h5
          clear HL5 HL4
          go_wp2_with fail
          refine (likeInts_any _ _ _ _ _ _ _ _ _ oP8.ints oQ8.ints).mono ?_
          rintro e w9 ⟨rfl, q, rfl⟩
          rw [eP]
          have b9 := below_drew (Below.refl w8.heap.size w8) q
          generalize w8.drewN q = w9 at *
          have hn9 := hn8.later b9
          have t9 := below_step t8 b9
          have bx9 := bx8.step b9
          have oz9 := oz8.later b9
          have oX9 := oX8.later b9
          have oP9 := oP8.later b9
          have oQ9 := oQ8.later b9
          clear hn8 t8 b9 bx8 oz8 oX8 oP8 oQ8 k0 k1
          have k0 := bx9.c0
          have k1 := bx9.c1
          go_wp2_with fail
          go_ret
          exact ⟨rfl, t9⟩
        · have hI := HL5.out.resolve_left h5
          have h5' : (T == 5000) = false := by simp [h5]
          have HI2 := HI.out
          simp only [hI] at HI2
          have HI3 := Lib.hid HI2
          clear HI2 hI h5 HL5 HL4 HI
          go_wp2_with fail
          refine (likeInts_any _ _ _ _ _ _ _ _ _ oP8.ints oQ8.ints).mono ?_
          rintro e w9 ⟨rfl, q, rfl⟩
          rw [eP]
          have b9 := below_drew (Below.refl w8.heap.size w8) q
          generalize w8.drewN q = w9 at *
          have hn9 := hn8.later b9
          have t9 := below_step t8 b9
          have bx9 := bx8.step b9
          have oz9 := oz8.later b9
          have oX9 := oX8.later b9
          have oP9 := oP8.later b9
          have oQ9 := oQ8.later b9
          clear hn8 t8 b9 bx8 oz8 oX8 oP8 oQ8 k0 k1
          have k0 := bx9.c0
          have k1 := bx9.c1
          go_wp2_with fail
          refine (HI3.out _ _ _ _ _ _ _ _ _ _ hn9 oX9.ints).mono ?_
          rintro e w10 ⟨rfl, b10⟩
          have hn10 := hn9.later b10
          have t10 := below_step t9 b10
          have bx10 := bx9.step b10
          have oz10 := oz9.later b10
          have oX10 := oX9.later b10
          have oP10 := oP9.later b10
          have oQ10 := oQ9.later b10
          clear hn9 t9 b10 bx9 oz9 oX9 oP9 oQ9 k0 k1
          have k0 := bx10.c0
          have k1 := bx10.c1
          go_wp2_with fail
          go_ret
          exact ⟨rfl, t10⟩
    · have hK' : (K != 0) = true := by simp [hK]
      clear hK hR
      go_wp2_with fail
      refine (HT.out _ _ _ _ _ _ _ _ _ _ hn1 oz1.ints).mono ?_
      rintro e w2 ⟨AoX, coX, rfl, oX2, foX2, b2⟩
      have hn2 := hn1.later b2
      have t2 := below_step t1 b2
      have bx2 := bx1.step b2
      have oz2 := oz1.later b2
      clear hn1 t1 b2 bx1 oz1
      have k0 := bx2.c0
      have k1 := bx2.c1
      go_wp2_with fail
      refine (HS.out _ _ _ _ _ _ _ _ _ _ hn2 oz2.ints).mono ?_
      rintro e w3 ⟨AoY, coY, rfl, oY3, foY3, b3⟩
      have hn3 := hn2.later b3
      have t3 := below_step t2 b3
      have bx3 := bx2.step b3
      have oz3 := oz2.later b3
      have oX3 := oX2.later b3
      clear hn2 t2 b3 bx2 oz2 oX2 k0 k1
      have k0 := bx3.c0
      have k1 := bx3.c1
      go_wp2_with fail
      refine (likeInts_any _ _ _ _ _ _ _ _ _ oX3.ints oY3.ints).mono ?_
      rintro e w4 ⟨rfl, q, rfl⟩
      rw [eX]
      have b4 := below_drew (Below.refl w3.heap.size w3) q
      generalize w3.drewN q = w4 at *
      have hn4 := hn3.later b4
      have t4 := below_step t3 b4
      have bx4 := bx3.step b4
      have oz4 := oz3.later b4
      have oX4 := oX3.later b4
      have oY4 := oY3.later b4
      clear hn3 t3 b4 bx3 oz3 oX3 oY3 k0 k1
      have k0 := bx4.c0
      have k1 := bx4.c1
      clear oY4
      go_wp2_with fail
      go_ret
      exact ⟨rfl, t4⟩

end Go.Proofs.Ytllblmndoigdlaa
