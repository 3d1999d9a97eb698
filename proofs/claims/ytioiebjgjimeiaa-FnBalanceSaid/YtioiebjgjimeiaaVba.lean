/- the law FnBalance -/
import Derived.Test.YtioiebjgjimeiaaRp
import Derived.Test.YtioiebjgjimeiaaVp
import Derived.Test.YtioiebjgjimeiaaRh
import Derived.Test.YtioiebjgjimeiaaDx
namespace Go.Proofs.Ytioiebjgjimeiaa
open Go.RowKit

set_option maxRecDepth 100000 in
set_option maxHeartbeats 8000000 in
theorem lawBalance_any (A : Option Addr) (n c : Nat) (bs : List Int) (w : World) (h : Bytes w A n c bs) :
    Calls Try.prog 4 #[.slice A n c] w fun e w' => e = .returned (.bool true) ∧ Below w.heap.size w w' := by
  by_cases hbig : 4096 < n
  · have hb' : decide (4096 < n) = true := by simp [hbig]
    go_enter Try.func4, Try.ntmps4
    go_wp2_with fail
    refine (big_any _ _ _ _).mono ?_
    rintro e w' ⟨rfl, rfl⟩
    rw [hb']
    go_wp2_with fail
    go_ret
    exact ⟨rfl, Below.refl _ _⟩
  · have hb' : decide (4096 < n) = false := by simp [hbig]
    go_enter Try.func4, Try.ntmps4
    go_wp2_with fail
    refine (big_any _ _ _ _).mono ?_
    rintro e w' ⟨rfl, rfl⟩
    rw [hb']
    go_wp2_with fail
    refine (DrawIsBalanced_any _ _ _ _ _ h).mono ?_
    rintro e w1 ⟨An, k, cn, Ap, m, cp, ns, ps, Al, L, cl, zs, Al2, L2, cl2, zs2, rfl, hn, hz, hy, _, _, hk, hm, b1⟩
    have bx1 : BX (w1.alloc (.cells #[.slice An k cn, .slice Ap m cp] 27)) w1.heap.size An k cn Ap m cp := ⟨heap_alloc_new w1 _⟩
    have hn1 := hn.later (bel1 w1 (.cells #[.slice An k cn, .slice Ap m cp] 27))
    have oz1 := hz.later (bel1 w1 (.cells #[.slice An k cn, .slice Ap m cp] 27))
    have oy1 := hy.later (bel1 w1 (.cells #[.slice An k cn, .slice Ap m cp] 27))
    have t1 := below_step b1 (bel1 w1 (.cells #[.slice An k cn, .slice Ap m cp] 27))
    obtain ⟨net, hnet⟩ : ∃ net : Net, (⟨ns, ps⟩ : Net) = net := ⟨_, rfl⟩
    rw [hnet] at hn1
    clear hn hz hy b1 hnet
    rcases hB : rIsBalanced net zs zs2 with _ | _
    · have cHI := fun A n c B m d C l e C2 l2 e2 w h0 h1 h2 => implIsBalanced_any A n c B m d net C l e zs C2 l2 e2 zs2 w h0 h1 h2
      simp only [hB] at cHI
      have HI := Lib.hid cHI
      clear cHI
      have cHJ := fun A n c B m d C l e C2 l2 e2 w h0 h1 h2 => specIsBalanced_any A n c B m d net C l e zs C2 l2 e2 zs2 w h0 h1 h2
      simp only [hB] at cHJ
      have HJ := Lib.hid cHJ
      clear cHJ
      clear hB
      go_wp2_with fail
      refine (HI.out _ _ _ _ _ _ _ _ _ _ _ _ _ hn1 oz1.ints oy1.ints).mono ?_
      rintro e w2 ⟨rfl, b2⟩
      have hn2 := hn1.later b2
      have t2 := below_step t1 b2
      have bx2 := bx1.step b2
      have oz2 := oz1.later b2
      have oy2 := oy1.later b2
      clear hn1 t1 b2 bx1 oz1 oy1
      have k0 := bx2.c0
      have k1 := bx2.c1
      go_wp2_with fail
      refine (HJ.out _ _ _ _ _ _ _ _ _ _ _ _ _ hn2 oz2.ints oy2.ints).mono ?_
      rintro e w3 ⟨rfl, b3⟩
      have hn3 := hn2.later b3
      have t3 := below_step t2 b3
      have bx3 := bx2.step b3
      have oz3 := oz2.later b3
      have oy3 := oy2.later b3
      clear hn2 t2 b3 bx2 oz2 oy2 k0 k1
      have k0 := bx3.c0
      have k1 := bx3.c1
      go_wp2_with fail
      go_ret
      exact ⟨rfl, t3⟩
    · have cHI := fun A n c B m d C l e C2 l2 e2 w h0 h1 h2 => implIsBalanced_any A n c B m d net C l e zs C2 l2 e2 zs2 w h0 h1 h2
      simp only [hB] at cHI
      have HI := Lib.hid cHI
      clear cHI
      have cHJ := fun A n c B m d C l e C2 l2 e2 w h0 h1 h2 => specIsBalanced_any A n c B m d net C l e zs C2 l2 e2 zs2 w h0 h1 h2
      simp only [hB] at cHJ
      have HJ := Lib.hid cHJ
      clear cHJ
      obtain ⟨l1, l2, l3⟩ := bal_law hB
      have h40 : net.pipes.length ≤ 40 := (netB_sizes (bal_facts hB).1).2.2
      clear hB
      rcases l3 with l3 | ⟨l3, l4⟩
      · have cHF := fun A n c B m d C l e w h0 h1 => implForestFlows_any A n c B m d net C l e zs2 w h0 h1
        simp only [RetLI, l3] at cHF
        have HF := Lib.hid cHF
        clear cHF
        have cHG := fun A n c B m d C l e w h0 h1 => specForestFlows_any A n c B m d net C l e zs2 w h0 h1
        simp only [RetLI, l3] at cHG
        have HG := Lib.hid cHG
        clear cHG
        have cHS := fun A n c B m d C l e w h0 h1 => implSuppliesOf_any A n c B m d net C l e zs w h0 h1
        simp only [RetLI, l1] at cHS
        have HS := Lib.hid cHS
        clear cHS
        have cHE := fun A n c B m d C l e w h0 h1 => implIsEven_any A n c B m d net C l e zs2 w h0 h1
        simp only [l2] at cHE
        have HE := Lib.hid cHE
        clear cHE
        clear l1 l2 l3
        go_wp2_with fail
        refine (HI.out _ _ _ _ _ _ _ _ _ _ _ _ _ hn1 oz1.ints oy1.ints).mono ?_
        rintro e w2 ⟨rfl, b2⟩
        have hn2 := hn1.later b2
        have t2 := below_step t1 b2
        have bx2 := bx1.step b2
        have oz2 := oz1.later b2
        have oy2 := oy1.later b2
        clear hn1 t1 b2 bx1 oz1 oy1
        have k0 := bx2.c0
        have k1 := bx2.c1
        go_wp2_with fail
        refine (HJ.out _ _ _ _ _ _ _ _ _ _ _ _ _ hn2 oz2.ints oy2.ints).mono ?_
        rintro e w3 ⟨rfl, b3⟩
        have hn3 := hn2.later b3
        have t3 := below_step t2 b3
        have bx3 := bx2.step b3
        have oz3 := oz2.later b3
        have oy3 := oy2.later b3
        clear hn2 t2 b3 bx2 oz2 oy2 k0 k1
        have k0 := bx3.c0
        have k1 := bx3.c1
        have eF := eqL_self ([] : List Int)
        have eZ := eqL_self zs2
        go_wp2_with fail
        refine (HF.out _ _ _ _ _ _ _ _ _ _ hn3 oy3.ints).mono ?_
        rintro e w4 ⟨AoF, coF, rfl, oF4, foF4, b4⟩
        have hn4 := hn3.later b4
        have t4 := below_step t3 b4
        have bx4 := bx3.step b4
        have oz4 := oz3.later b4
        have oy4 := oy3.later b4
        clear hn3 t3 b4 bx3 oz3 oy3 k0 k1
        have k0 := bx4.c0
        have k1 := bx4.c1
        go_wp2_with fail
        refine (HG.out _ _ _ _ _ _ _ _ _ _ hn4 oy4.ints).mono ?_
        rintro e w5 ⟨AoG, coG, rfl, oG5, foG5, b5⟩
        have hn5 := hn4.later b5
        have t5 := below_step t4 b5
        have bx5 := bx4.step b5
        have oz5 := oz4.later b5
        have oy5 := oy4.later b5
        have oF5 := oF4.later b5
        clear hn4 t4 b5 bx4 oz4 oy4 oF4 k0 k1
        have k0 := bx5.c0
        have k1 := bx5.c1
        go_wp2_with fail
        refine (likeInts_any _ _ _ _ _ _ _ _ _ oF5.ints oG5.ints).mono ?_
        rintro e w6 ⟨rfl, q, rfl⟩
        rw [eF]
        have b6 := below_drew (Below.refl w5.heap.size w5) q
        generalize w5.drewN q = w6 at *
        have hn6 := hn5.later b6
        have t6 := below_step t5 b6
        have bx6 := bx5.step b6
        have oz6 := oz5.later b6
        have oy6 := oy5.later b6
        have oF6 := oF5.later b6
        have oG6 := oG5.later b6
        clear hn5 t5 b6 bx5 oz5 oy5 oF5 oG5 k0 k1
        have k0 := bx6.c0
        have k1 := bx6.c1
        clear oG6
        go_wp2_with fail
        refine (HS.out _ _ _ _ _ _ _ _ _ _ hn6 oz6.ints).mono ?_
        rintro e w7 ⟨AoS, coS, rfl, oS7, foS7, b7⟩
        have hn7 := hn6.later b7
        have t7 := below_step t6 b7
        have bx7 := bx6.step b7
        have oz7 := oz6.later b7
        have oy7 := oy6.later b7
        have oF7 := oF6.later b7
        clear hn6 t6 b7 bx6 oz6 oy6 oF6 k0 k1
        have k0 := bx7.c0
        have k1 := bx7.c1
        go_wp2_with fail
        refine (likeInts_any _ _ _ _ _ _ _ _ _ oS7.ints oy7.ints).mono ?_
        rintro e w8 ⟨rfl, q, rfl⟩
        rw [eZ]
        have b8 := below_drew (Below.refl w7.heap.size w7) q
        generalize w7.drewN q = w8 at *
        have hn8 := hn7.later b8
        have t8 := below_step t7 b8
        have bx8 := bx7.step b8
        have oz8 := oz7.later b8
        have oy8 := oy7.later b8
        have oF8 := oF7.later b8
        have oS8 := oS7.later b8
        clear hn7 t7 b8 bx7 oz7 oy7 oF7 oS7 k0 k1
        have k0 := bx8.c0
        have k1 := bx8.c1
        clear oS8
        go_wp2_with fail
        refine (HE.out _ _ _ _ _ _ _ _ _ _ hn8 oy8.ints).mono ?_
        rintro e w9 ⟨rfl, b9⟩
        have hn9 := hn8.later b9
        have t9 := below_step t8 b9
        have bx9 := bx8.step b9
        have oz9 := oz8.later b9
        have oy9 := oy8.later b9
        have oF9 := oF8.later b9
        clear hn8 t8 b9 bx8 oz8 oy8 oF8 k0 k1
        have k0 := bx9.c0
        have k1 := bx9.c1
        go_wp2_with fail
        go_ret
        exact ⟨rfl, t9⟩
      · have hFb := flowB_all2 (ffl_flow l3)
        have hFl := flowB_len (ffl_flow l3)
        obtain ⟨F, hF⟩ : ∃ F, ffL net zs2 = F := ⟨_, rfl⟩
        rw [hF] at l3 l4 hFb hFl
        obtain ⟨X, K, hX⟩ : ∃ X K, rAddFlows net zs (negL F) = (X, K) := ⟨_, _, rfl⟩
        rw [hX] at l4
        simp only at l4
        clear hF
        have hF40 : F.length ≤ 40 := by omega
        clear h40
        have HFL := Lib.hid hFl
        have HFB := Lib.hid hFb
        clear hFl hFb
        have cHF := fun A n c B m d C l e w h0 h1 => implForestFlows_any A n c B m d net C l e zs2 w h0 h1
        simp only [RetLI, l3] at cHF
        have HF := Lib.hid cHF
        clear cHF
        have cHG := fun A n c B m d C l e w h0 h1 => specForestFlows_any A n c B m d net C l e zs2 w h0 h1
        simp only [RetLI, l3] at cHG
        have HG := Lib.hid cHG
        clear cHG
        have cHS := fun A n c B m d C l e w h0 h1 => implSuppliesOf_any A n c B m d net C l e zs w h0 h1
        simp only [RetLI, l1] at cHS
        have HS := Lib.hid cHS
        clear cHS
        have cHE := fun A n c B m d C l e w h0 h1 => implIsEven_any A n c B m d net C l e zs2 w h0 h1
        simp only [l2] at cHE
        have HE := Lib.hid cHE
        clear cHE
        clear l1 l2 l3
        go_wp2_with fail
        refine (HI.out _ _ _ _ _ _ _ _ _ _ _ _ _ hn1 oz1.ints oy1.ints).mono ?_
        rintro e w2 ⟨rfl, b2⟩
        have hn2 := hn1.later b2
        have t2 := below_step t1 b2
        have bx2 := bx1.step b2
        have oz2 := oz1.later b2
        have oy2 := oy1.later b2
        clear hn1 t1 b2 bx1 oz1 oy1
        have k0 := bx2.c0
        have k1 := bx2.c1
        go_wp2_with fail
        refine (HJ.out _ _ _ _ _ _ _ _ _ _ _ _ _ hn2 oz2.ints oy2.ints).mono ?_
        rintro e w3 ⟨rfl, b3⟩
        have hn3 := hn2.later b3
        have t3 := below_step t2 b3
        have bx3 := bx2.step b3
        have oz3 := oz2.later b3
        have oy3 := oy2.later b3
        clear hn2 t2 b3 bx2 oz2 oy2 k0 k1
        have k0 := bx3.c0
        have k1 := bx3.c1
        have eF := eqL_self F
        have eZ := eqL_self zs2
        go_wp2_with fail
        refine (HF.out _ _ _ _ _ _ _ _ _ _ hn3 oy3.ints).mono ?_
        rintro e w4 ⟨AoF, coF, rfl, oF4, foF4, b4⟩
        have hn4 := hn3.later b4
        have t4 := below_step t3 b4
        have bx4 := bx3.step b4
        have oz4 := oz3.later b4
        have oy4 := oy3.later b4
        clear hn3 t3 b4 bx3 oz3 oy3 k0 k1
        have k0 := bx4.c0
        have k1 := bx4.c1
        go_wp2_with fail
        refine (HG.out _ _ _ _ _ _ _ _ _ _ hn4 oy4.ints).mono ?_
        rintro e w5 ⟨AoG, coG, rfl, oG5, foG5, b5⟩
        have hn5 := hn4.later b5
        have t5 := below_step t4 b5
        have bx5 := bx4.step b5
        have oz5 := oz4.later b5
        have oy5 := oy4.later b5
        have oF5 := oF4.later b5
        clear hn4 t4 b5 bx4 oz4 oy4 oF4 k0 k1
        have k0 := bx5.c0
        have k1 := bx5.c1
        go_wp2_with fail
        refine (likeInts_any _ _ _ _ _ _ _ _ _ oF5.ints oG5.ints).mono ?_
        rintro e w6 ⟨rfl, q, rfl⟩
        rw [eF]
        have b6 := below_drew (Below.refl w5.heap.size w5) q
        generalize w5.drewN q = w6 at *
        have hn6 := hn5.later b6
        have t6 := below_step t5 b6
        have bx6 := bx5.step b6
        have oz6 := oz5.later b6
        have oy6 := oy5.later b6
        have oF6 := oF5.later b6
        have oG6 := oG5.later b6
        clear hn5 t5 b6 bx5 oz5 oy5 oF5 oG5 k0 k1
        have k0 := bx6.c0
        have k1 := bx6.c1
        clear oG6
        go_wp2_with fail
        refine (HS.out _ _ _ _ _ _ _ _ _ _ hn6 oz6.ints).mono ?_
        rintro e w7 ⟨AoS, coS, rfl, oS7, foS7, b7⟩
        have hn7 := hn6.later b7
        have t7 := below_step t6 b7
        have bx7 := bx6.step b7
        have oz7 := oz6.later b7
        have oy7 := oy6.later b7
        have oF7 := oF6.later b7
        clear hn6 t6 b7 bx6 oz6 oy6 oF6 k0 k1
        have k0 := bx7.c0
        have k1 := bx7.c1
        go_wp2_with fail
        refine (likeInts_any _ _ _ _ _ _ _ _ _ oS7.ints oy7.ints).mono ?_
        rintro e w8 ⟨rfl, q, rfl⟩
        rw [eZ]
        have b8 := below_drew (Below.refl w7.heap.size w7) q
        generalize w7.drewN q = w8 at *
        have hn8 := hn7.later b8
        have t8 := below_step t7 b8
        have bx8 := bx7.step b8
        have oz8 := oz7.later b8
        have oy8 := oy7.later b8
        have oF8 := oF7.later b8
        have oS8 := oS7.later b8
        clear hn7 t7 b8 bx7 oz7 oy7 oF7 oS7 k0 k1
        have k0 := bx8.c0
        have k1 := bx8.c1
        clear oS8
        go_wp2_with fail
        refine (HE.out _ _ _ _ _ _ _ _ _ _ hn8 oy8.ints).mono ?_
        rintro e w9 ⟨rfl, b9⟩
        have hn9 := hn8.later b9
        have t9 := below_step t8 b9
        have bx9 := bx8.step b9
        have oz9 := oz8.later b9
        have oy9 := oy8.later b9
        have oF9 := oF8.later b9
        clear hn8 t8 b9 bx8 oz8 oy8 oF8 k0 k1
        have k0 := bx9.c0
        have k1 := bx9.c1
        have cHA := fun A n c B m d C l e C2 l2 e2 w h0 h1 h2 => implAddFlows_any A n c B m d net C l e zs C2 l2 e2 (negL F) w h0 h1 h2
        simp only [RetLI, hX] at cHA
        have HA := Lib.hid cHA
        clear cHA
        have cHC := fun A n c B m d C l e w h0 h1 => implIsCirculation_any A n c B m d net C l e X w h0 h1
        have HC := Lib.hid cHC
        clear cHC
        clear hX
        have HL4 := Lib.hid l4
        clear l4
        have o0 := own_lit0 w9
        have HLEN := Lib.hid oF9.len
        go_wp2_with fail
        go_loopw [13, 14] (fun p i wr => ∃ (j c5 : Nat) (A5 : Option Addr), p = .slice A5 j c5 ∧ i = .int .i64 (j : Int) ∧ j ≤ F.length ∧ Own wr A5 j c5 (negP F j) ∧ Fresh w9.heap.size A5 ∧ Below w9.heap.size w9 wr) (fun _ i _ => F.length - (intOf i).toNat)
        case atStart => exact ⟨0, 0, some ⟨w9.heap.size, 0, none⟩, rfl, rfl, by omega, o0, (fun a ha => by injection ha with ha; subst ha; exact Nat.le_refl _), bel1 _ _⟩
        case round =>
          clear o0
          obtain ⟨j, c5, A5, rfl, rfl, hj, oo, fo, hb⟩ := hrel
          by_cases hjl : j < F.length
          · have oF := oF9.later hb
            obtain ⟨ga, rfl, hga⟩ := oF.pos (by omega)
            have cF := oF.cell hjl
            have hrj := allB_at HFB.out j (by omega)
            have hji : (j : Int) < (F.length : Int) := by omega
            clear oF HFB
            have o2 := oo.later (bel1 wr (.cells #[.int .i64 (-ig F j)] 2))
            have b2 := below_step hb (bel1 wr (.cells #[.int .i64 (-ig F j)] 2))
            have HP := Lib.hid (negP_succ F j)
            go_wp2_with (at_builtin; refine law_append _ rfl _ _ rfl A5 _ c5 _ rfl o2 _ _ (-ig F j) ⟨by omega, by omega⟩ rfl (cell_new1 _ _ _) (by omega) ?_; intro A3 c3 w3 ho3 hg3 hb3; rw [← HP.out] at ho3)
            have b3 := below_mark b2 hg3 fo
            have f3 := fresh_app fo (by have := b2.size; exact this) hb3
            clear o2 b2 hg3 hb3
            go_roundw
            case rel => exact ⟨j + 1, c3, A3, rfl, by go_num, by omega, ho3, f3, b3⟩
            case measure => simp [intOf]; omega
          · have hjF : F.length = j := by omega
            have hN : negP F j = negL F := by rw [← hjF]; rfl
            rw [hN] at oo
            clear hN hjF
            have hji : ¬ (j : Int) < (F.length : Int) := by omega
            have b10 := hb
            clear hb
            obtain ⟨w10, hw⟩ : ∃ w10, wr = w10 := ⟨_, rfl⟩
            subst hw
            have hn10 := hn9.later b10
            have t10 := below_step t9 b10
            have bx10 := bx9.step b10
            have oz10 := oz9.later b10
            have oy10 := oy9.later b10
            have oF10 := oF9.later b10
            clear hn9 t9 b10 bx9 oz9 oy9 oF9 k0 k1
            have k0 := bx10.c0
            have k1 := bx10.c1
            have oo10 := oo
            clear oo
            go_wp2_with fail
            refine (HA.out _ _ _ _ _ _ _ _ _ _ _ _ _ hn10 oz10.ints oo10.ints).mono ?_
            rintro e w11 ⟨AoX, coX, rfl, oX11, foX11, b11⟩
            have hn11 := hn10.later b11
            have t11 := below_step t10 b11
            have bx11 := bx10.step b11
            have oz11 := oz10.later b11
            have oy11 := oy10.later b11
            have oF11 := oF10.later b11
            have oo11 := oo10.later b11
            clear hn10 t10 b11 bx10 oz10 oy10 oF10 oo10 k0 k1
            have k0 := bx11.c0
            have k1 := bx11.c1
            by_cases hK : K = 0
            · subst hK
              have hC := HL4.out rfl
              have HC2 := HC.out
              simp only [hC] at HC2
              have HC3 := Lib.hid HC2
              clear HC2 hC
              go_wp2_with fail
              refine (HC3.out _ _ _ _ _ _ _ _ _ _ hn11 oX11.ints).mono ?_
              rintro e w12 ⟨rfl, b12⟩
              have hn12 := hn11.later b12
              have t12 := below_step t11 b12
              have bx12 := bx11.step b12
              have oz12 := oz11.later b12
              have oy12 := oy11.later b12
              have oF12 := oF11.later b12
              have oo12 := oo11.later b12
              have oX12 := oX11.later b12
              clear hn11 t11 b12 bx11 oz11 oy11 oF11 oo11 oX11 k0 k1
              have k0 := bx12.c0
              have k1 := bx12.c1
              go_wp2_with fail
              go_ret
              exact ⟨rfl, t12⟩
            · have hK' : (K != 0) = true := by simp [hK]
              go_wp2_with fail
              go_ret
              exact ⟨rfl, t11⟩

end Go.Proofs.Ytioiebjgjimeiaa
