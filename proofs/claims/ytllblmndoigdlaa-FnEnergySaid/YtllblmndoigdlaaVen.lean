/- the law FnEnergy -/
import Derived.Test.YtllblmndoigdlaaDg
import Derived.Test.YtllblmndoigdlaaDx
import Derived.Test.YtllblmndoigdlaaRa
import Derived.Test.YtllblmndoigdlaaF6
namespace Go.Proofs.Ytllblmndoigdlaa
open Go.RowKit

set_option maxRecDepth 100000 in
set_option maxHeartbeats 8000000 in
theorem lawEnergy_any (A : Option Addr) (n c : Nat) (bs : List Int) (w : World) (h : Bytes w A n c bs) :
    Calls Try.prog 5 #[.slice A n c] w fun e w' => e = .returned (.bool true) ∧ Below w.heap.size w w' := by
  by_cases hbig : 4096 < n
  · have hb' : decide (4096 < n) = true := by simp [hbig]
    go_enter Try.func5, Try.ntmps5
    go_wp2_with fail
    refine (big_any _ _ _ _).mono ?_
    rintro e w' ⟨rfl, rfl⟩
    rw [hb']
    go_wp2_with fail
    go_ret
    exact ⟨rfl, Below.refl _ _⟩
  · have hb' : decide (4096 < n) = false := by simp [hbig]
    go_enter Try.func5, Try.ntmps5
    go_wp2_with fail
    refine (big_any _ _ _ _).mono ?_
    rintro e w' ⟨rfl, rfl⟩
    rw [hb']
    go_wp2_with fail
    refine (DrawEnergyChange_any _ _ _ _ _ h).mono ?_
    rintro e w1 ⟨An, k, cn, Ap, m, cp, ns, ps, Al, L, cl, zs, x, y, rfl, hd, hz, _, hk, hm, hL, hx, hy, b1⟩
    have bx1 : BX (w1.alloc (.cells #[.slice An k cn, .slice Ap m cp] 27)) w1.heap.size An k cn Ap m cp := ⟨heap_alloc_new w1 _⟩
    have hn1 : NetAt (w1.alloc (.cells #[.slice An k cn, .slice Ap m cp] 27)) An k cn Ap m cp ⟨ns, ps⟩ := hd.net.later (bel1 w1 (.cells #[.slice An k cn, .slice Ap m cp] 27))
    have oz1 := hz.later (bel1 w1 (.cells #[.slice An k cn, .slice Ap m cp] 27))
    have t1 := below_step b1 (bel1 w1 (.cells #[.slice An k cn, .slice Ap m cp] 27))
    obtain ⟨net, hnet⟩ : ∃ net : Net, (⟨ns, ps⟩ : Net) = net := ⟨_, rfl⟩
    rw [hnet] at hn1
    clear hd hz b1 hnet
    by_cases hK : (rEnergyChange net zs x y).2 = 0
    · obtain ⟨X, E, l1, l2, l3, l4, l5, l6, l7, l8⟩ := energy_law hK
      have h40 : zs.length ≤ 40 := by rw [l4]; exact (netB_sizes (rEnergyChange_net hK)).2.2
      obtain ⟨D, K, hD⟩ : ∃ D K, rEnergyChange net zs x y = (D, K) := ⟨_, _, rfl⟩
      rw [hD] at hK l3 l8
      simp only at hK l3 l8
      subst hK
      clear l4
      have cHT := fun A n c B m d C l e w h0 h1 => implEnergyChange_any A n c B m d net C l e zs x y w h0 h1 hx hy
      simp only [hD] at cHT
      have HT := Lib.hid cHT
      clear cHT
      have cHS := fun A n c B m d C l e w h0 h1 => specEnergyChange_any A n c B m d net C l e zs x y w h0 h1 hx hy
      simp only [hD] at cHS
      have HS := Lib.hid cHS
      clear cHS
      have cHA := fun A n c B m d C l e w h0 h1 => implAddCycle_any A n c B m d net C l e zs x y w h0 h1 hx hy
      simp only [RetLI, l1] at cHA
      have HA := Lib.hid cHA
      clear cHA
      have cHE := fun A n c B m d C l e w h0 h1 => implEnergyOf_any A n c B m d net C l e zs w h0 h1
      simp only [l2] at cHE
      have HE := Lib.hid cHE
      clear cHE
      have cHF := fun A n c B m d C l e w h0 h1 => implEnergyOf_any A n c B m d net C l e X w h0 h1
      simp only [l3] at cHF
      have HF := Lib.hid cHF
      clear cHF
      have cHM := fun A n c B m d C l e w h0 h1 => implEnergyOf_any A n c B m d net C l e (negL zs) w h0 h1
      simp only [l6] at cHM
      have HM := Lib.hid cHM
      clear cHM
      clear l1 l2 l3 l6 hD
      have hLz := oz1.len
      subst hLz
      go_wp2_with fail
      refine (HT.out _ _ _ _ _ _ _ _ _ _ hn1 oz1.ints).mono ?_
      rintro e w2 ⟨rfl, b2⟩
      have hn2 := hn1.later b2
      have t2 := below_step t1 b2
      have bx2 := bx1.step b2
      have oz2 := oz1.later b2
      clear hn1 t1 b2 bx1 oz1
      have k0 := bx2.c0
      have k1 := bx2.c1
      go_wp2_with fail
      refine (HS.out _ _ _ _ _ _ _ _ _ _ hn2 oz2.ints).mono ?_
      rintro e w3 ⟨rfl, b3⟩
      have hn3 := hn2.later b3
      have t3 := below_step t2 b3
      have bx3 := bx2.step b3
      have oz3 := oz2.later b3
      clear hn2 t2 b3 bx2 oz2 k0 k1
      have k0 := bx3.c0
      have k1 := bx3.c1
      go_wp2_with fail
      refine (HA.out _ _ _ _ _ _ _ _ _ _ hn3 oz3.ints).mono ?_
      rintro e w4 ⟨AoX, coX, rfl, oX4, foX4, b4⟩
      have hn4 := hn3.later b4
      have t4 := below_step t3 b4
      have bx4 := bx3.step b4
      have oz4 := oz3.later b4
      clear hn3 t3 b4 bx3 oz3 k0 k1
      have k0 := bx4.c0
      have k1 := bx4.c1
      go_wp2_with fail
      refine (HE.out _ _ _ _ _ _ _ _ _ _ hn4 oz4.ints).mono ?_
      rintro e w5 ⟨rfl, b5⟩
      have hn5 := hn4.later b5
      have t5 := below_step t4 b5
      have bx5 := bx4.step b5
      have oz5 := oz4.later b5
      have oX5 := oX4.later b5
      clear hn4 t4 b5 bx4 oz4 oX4 k0 k1
      have k0 := bx5.c0
      have k1 := bx5.c1
      go_wp2_with fail
      refine (HF.out _ _ _ _ _ _ _ _ _ _ hn5 oX5.ints).mono ?_
      rintro e w6 ⟨rfl, b6⟩
      have hn6 := hn5.later b6
      have t6 := below_step t5 b6
      have bx6 := bx5.step b6
      have oz6 := oz5.later b6
      have oX6 := oX5.later b6
      clear hn5 t5 b6 bx5 oz5 oX5 k0 k1
      have k0 := bx6.c0
      have k1 := bx6.c1
      have o0 := own_lit0 w6
      go_wp2_with fail
      go_loopw [17, 18] (fun p i wr => ∃ (j c5 : Nat) (A5 : Option Addr), p = .slice A5 j c5 ∧ i = .int .i64 (j : Int) ∧ j ≤ zs.length ∧ Own wr A5 j c5 (negP zs j) ∧ Fresh w6.heap.size A5 ∧ Below w6.heap.size w6 wr) (fun _ i _ => zs.length - (intOf i).toNat)
      case atStart => exact ⟨0, 0, some ⟨w6.heap.size, 0, none⟩, rfl, rfl, by omega, o0, (fun a ha => by injection ha with ha; subst ha; exact Nat.le_refl _), bel1 _ _⟩
      case round =>
        clear o0
        obtain ⟨j, c5, A5, rfl, rfl, hj, oo, fo, hb⟩ := hrel
        by_cases hjl : j < zs.length
        · have oF := oz6.later hb
          obtain ⟨ga, rfl, hga⟩ := oF.pos (by omega)
          have cF := oF.cell hjl
          have hrj := l5 j
          have hji : (j : Int) < (zs.length : Int) := by omega
          clear oF
          have o2 := oo.later (bel1 wr (.cells #[.int .i64 (-ig zs j)] 2))
          have b2 := below_step hb (bel1 wr (.cells #[.int .i64 (-ig zs j)] 2))
          have HP := Lib.hid (negP_succ zs j)
          go_wp2_with (at_builtin; refine law_append _ rfl _ _ rfl A5 _ c5 _ rfl o2 _ _ (-ig zs j) ⟨by omega, by omega⟩ rfl (cell_new1 _ _ _) (by omega) ?_; intro A3 c3 w3 ho3 hg3 hb3; rw [← HP.out] at ho3)
          have b3 := below_mark b2 hg3 fo
          have f3 := fresh_app fo (by have := b2.size; exact this) hb3
          clear o2 b2 hg3 hb3
          go_roundw
          case rel => exact ⟨j + 1, c3, A3, rfl, by go_num, by omega, ho3, f3, b3⟩
          case measure => simp [intOf]; omega
        · have hjF : zs.length = j := by omega
          have hN : negP zs j = negL zs := by rw [← hjF]; rfl
          rw [hN] at oo
          clear hN hjF
          have hji : ¬ (j : Int) < (zs.length : Int) := by omega
          have b7 := hb
          clear hb
          obtain ⟨w7, hw⟩ : ∃ w7, wr = w7 := ⟨_, rfl⟩
          subst hw
          have hn7 := hn6.later b7
          have t7 := below_step t6 b7
          have bx7 := bx6.step b7
          have oz7 := oz6.later b7
          have oX7 := oX6.later b7
          clear hn6 t6 b7 bx6 oz6 oX6 k0 k1
          have k0 := bx7.c0
          have k1 := bx7.c1
          have oo7 := oo
          clear oo
          go_wp2_with fail
          refine (HM.out _ _ _ _ _ _ _ _ _ _ hn7 oo7.ints).mono ?_
          rintro e w8 ⟨rfl, b8⟩
          have hn8 := hn7.later b8
          have t8 := below_step t7 b8
          have bx8 := bx7.step b8
          have oz8 := oz7.later b8
          have oX8 := oX7.later b8
          have oo8 := oo7.later b8
          clear hn7 t7 b8 bx7 oz7 oX7 oo7 k0 k1
          have k0 := bx8.c0
          have k1 := bx8.c1
          have hsub : E + D - E = D := by omega
          have hwr := wrap_id (z := E + D - E) ⟨by omega, by omega⟩
          rw [hsub] at hwr
          go_wp2_with fail
          go_ret
          first | exact ⟨rfl, t8⟩ | exact ⟨by simp [hwr, hsub], t8⟩ | exact ⟨by simp, t8⟩
    · obtain ⟨D, K, hD⟩ : ∃ D K, rEnergyChange net zs x y = (D, K) := ⟨_, _, rfl⟩
      rw [hD] at hK
      simp only at hK
      have cHT := fun A n c B m d C l e w h0 h1 => implEnergyChange_any A n c B m d net C l e zs x y w h0 h1 hx hy
      simp only [hD] at cHT
      have HT := Lib.hid cHT
      clear cHT
      have cHS := fun A n c B m d C l e w h0 h1 => specEnergyChange_any A n c B m d net C l e zs x y w h0 h1 hx hy
      simp only [hD] at cHS
      have HS := Lib.hid cHS
      clear cHS
      have hK' : (K != 0) = true := by simp [hK]
      clear hK hD
      go_wp2_with fail
      refine (HT.out _ _ _ _ _ _ _ _ _ _ hn1 oz1.ints).mono ?_
      rintro e w2 ⟨rfl, b2⟩
      have hn2 := hn1.later b2
      have t2 := below_step t1 b2
      have bx2 := bx1.step b2
      have oz2 := oz1.later b2
      clear hn1 t1 b2 bx1 oz1
      have k0 := bx2.c0
      have k1 := bx2.c1
      go_wp2_with fail
      refine (HS.out _ _ _ _ _ _ _ _ _ _ hn2 oz2.ints).mono ?_
      rintro e w3 ⟨rfl, b3⟩
      have hn3 := hn2.later b3
      have t3 := below_step t2 b3
      have bx3 := bx2.step b3
      have oz3 := oz2.later b3
      clear hn2 t2 b3 bx2 oz2 k0 k1
      have k0 := bx3.c0
      have k1 := bx3.c1
      go_wp2_with fail
      go_ret
      exact ⟨rfl, t3⟩

end Go.Proofs.Ytllblmndoigdlaa
