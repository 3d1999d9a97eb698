/- the law FnRelaxedChords -/
import Derived.Test.YtllblmndoigdlaaDf
import Derived.Test.YtllblmndoigdlaaDm
import Derived.Test.YtllblmndoigdlaaVq
import Derived.Test.YtllblmndoigdlaaRz
import Derived.Test.YtllblmndoigdlaaRv
import Derived.Test.YtllblmndoigdlaaRa
import Derived.Test.YtllblmndoigdlaaF6
namespace Go.Proofs.Ytllblmndoigdlaa
open Go.RowKit

set_option maxRecDepth 100000 in
set_option maxHeartbeats 8000000 in
theorem lawRelaxedChords_any (A : Option Addr) (n c : Nat) (bs : List Int) (w : World) (h : Bytes w A n c bs) :
    Calls Try.prog 8 #[.slice A n c] w fun e w' => e = .returned (.bool true) ∧ Below w.heap.size w w' := by
  by_cases hbig : 4096 < n
  · have hb' : decide (4096 < n) = true := by simp [hbig]
    go_enter Try.func8, Try.ntmps8
    go_wp2_with fail
    refine (big_any _ _ _ _).mono ?_
    rintro e w' ⟨rfl, rfl⟩
    rw [hb']
    go_wp2_with fail
    go_ret
    exact ⟨rfl, Below.refl _ _⟩
  · have hb' : decide (4096 < n) = false := by simp [hbig]
    go_enter Try.func8, Try.ntmps8
    go_wp2_with fail
    refine (big_any _ _ _ _).mono ?_
    rintro e w' ⟨rfl, rfl⟩
    rw [hb']
    go_wp2_with fail
    refine (DrawRelaxChord_any _ _ _ _ _ h).mono ?_
    rintro e w1 ⟨An, k, cn, Ap, m, cp, ns, ps, Al, L, cl, zs, x, _, rfl, hd, hz, _, hk, hm, hL, hx, _, b1⟩
    have bx1 : BX (w1.alloc (.cells #[.slice An k cn, .slice Ap m cp] 27)) w1.heap.size An k cn Ap m cp := ⟨heap_alloc_new w1 _⟩
    have hn1 : NetAt (w1.alloc (.cells #[.slice An k cn, .slice Ap m cp] 27)) An k cn Ap m cp ⟨ns, ps⟩ := hd.net.later (bel1 w1 (.cells #[.slice An k cn, .slice Ap m cp] 27))
    have oz1 := hz.later (bel1 w1 (.cells #[.slice An k cn, .slice Ap m cp] 27))
    have t1 := below_step b1 (bel1 w1 (.cells #[.slice An k cn, .slice Ap m cp] 27))
    obtain ⟨net, hnet⟩ : ∃ net : Net, (⟨ns, ps⟩ : Net) = net := ⟨_, rfl⟩
    rw [hnet] at hn1
    have hby1 := h.later (below_step b1 (bel1 w1 (.cells #[.slice An k cn, .slice Ap m cp] 27)))
    clear hd hz b1 hnet
    obtain ⟨X, K, hR⟩ : ∃ X K, rRelaxChord net zs x = (X, K) := ⟨_, _, rfl⟩
    have hlaw := chord_law (net := net) (zs := zs) (x := x)
    rw [hR] at hlaw
    simp only at hlaw
    have HLW := Lib.hid hlaw
    have HBY0 := Lib.hid h
    clear hlaw hby1
    have cHT := fun A n c B m d C l e w h0 h1 => implRelaxChord_any A n c B m d net C l e zs x w h0 h1 hx
    simp only [RetLI, hR] at cHT
    have HT := Lib.hid cHT
    clear cHT
    have cHS := fun A n c B m d C l e w h0 h1 => specRelaxChord_any A n c B m d net C l e zs x w h0 h1 hx
    simp only [RetLI, hR] at cHS
    have HS := Lib.hid cHS
    clear cHS
    have eX := eqL_self X
    clear hR
    go_wp2_with fail
    refine (HT.out _ _ _ _ _ _ _ _ _ _ hn1 oz1.ints).mono ?_
    rintro e w2 ⟨AoX, coX, rfl, oX2, foX2, b2⟩
    have hn2 := hn1.later b2
    have t2 := below_step t1 b2
    have bx2 := bx1.step b2
    have oz2 := oz1.later b2
    clear hn1 t1 b2 bx1 oz1
    have k0 := bx2.c0
    have k1 := bx2.c1
    go_wp2_with fail
    refine (HS.out _ _ _ _ _ _ _ _ _ _ hn2 oz2.ints).mono ?_
    rintro e w3 ⟨AoY, coY, rfl, oY3, foY3, b3⟩
    have hn3 := hn2.later b3
    have t3 := below_step t2 b3
    have bx3 := bx2.step b3
    have oz3 := oz2.later b3
    have oX3 := oX2.later b3
    clear hn2 t2 b3 bx2 oz2 oX2 k0 k1
    have k0 := bx3.c0
    have k1 := bx3.c1
    go_wp2_with fail
    refine (likeInts_any _ _ _ _ _ _ _ _ _ oX3.ints oY3.ints).mono ?_
    rintro e w4 ⟨rfl, q, rfl⟩
    rw [eX]
    have b4 := below_drew (Below.refl w3.heap.size w3) q
    generalize w3.drewN q = w4 at *
    have hn4 := hn3.later b4
    have t4 := below_step t3 b4
    have bx4 := bx3.step b4
    have oz4 := oz3.later b4
    have oX4 := oX3.later b4
    have oY4 := oY3.later b4
    clear hn3 t3 b4 bx3 oz3 oX3 oY3 k0 k1
    have k0 := bx4.c0
    have k1 := bx4.c1
    clear oY4
    by_cases hK : K = 0
    · subst hK
      obtain ⟨E, F, l1, l2, l3, l4⟩ := HLW.out rfl
      have HEC : Hid (∀ W : World, NetAt W An k cn Ap m cp net → Ints W AoX X.length coX X → ∀ a : Int, -30000 ≤ a → a ≤ 30000 → Calls Try.prog 24 #[.agg #[.slice An k cn, .slice Ap m cp], .slice AoX X.length coX, .int .i64 x, .int .i64 a] W fun e w' => ∃ d kk : Int, e = .returned (.tuple #[.int .i64 d, .int .i64 kk]) ∧ ((kk = 0 ∧ 0 ≤ d) ∨ kk = 5) ∧ Below W.heap.size W w') := Lib.hid (fun W h0 h1 a ha0 ha1 => by
        have hc := implEnergyChange_any An k cn Ap m cp net AoX X.length coX X x a W h0 h1 hx ⟨by omega, by omega⟩
        rcases l4 a ha0 ha1 with ⟨d, hd, hd0⟩ | hd
        · rw [hd] at hc
          exact hc.mono fun e w' he => ⟨d, 0, he.1, .inl ⟨rfl, hd0⟩, he.2⟩
        · rw [hd] at hc
          exact hc.mono fun e w' he => ⟨0, 5, he.1, .inr rfl, he.2⟩)
      have cHE := fun A n c B m d C l e w h0 h1 => implEnergyOf_any A n c B m d net C l e zs w h0 h1
      simp only [l1] at cHE
      have HE := Lib.hid cHE
      clear cHE
      have cHF := fun A n c B m d C l e w h0 h1 => implEnergyOf_any A n c B m d net C l e X w h0 h1
      simp only [l2] at cHF
      have HF := Lib.hid cHF
      clear cHF
      clear HLW l1 l2 l4
      have HBY := Lib.hid (HBY0.out.later t4)
      have hnle : n ≤ 4096 := by omega
      go_wp2_with fail
      refine (roll_any _ _ _ _ _ _ HBY.out hnle).mono ?_
      rintro e wd ⟨rfl, hdi, bd⟩
      have HNE : Hid (0 < n → ∀ a, A = some a → a.block ≠ w4.heap.size) := Lib.hid (fun hn a ha => by have := HBY.out.blk hn a ha; omega)
      have HD0 := Lib.hid hdi
      have HB0 := Lib.hid bd
      have HBX := Lib.hid bx4
      have HN := Lib.hid hn4
      have HZ := Lib.hid oz4
      have HX := Lib.hid oX4
      have HTT := Lib.hid t4
      clear hdi bd bx4 hn4 oz4 oX4 t4 k0 k1
      go_wp2_with fail
      go_loopw [11, 12, 13] (fun i _ _ wr => ∃ j : Nat, i = .int .i64 (j : Int) ∧ j ≤ 3 ∧ Hid (Dice wr w4.heap.size A n c) ∧ Hid (Below w4.heap.size w4 wr)) (fun i _ _ _ => 3 - (intOf i).toNat)
      case atStart => exact ⟨0, rfl, by omega, HD0, HB0⟩
      case round =>
        clear HD0 HB0
        obtain ⟨j, rfl, hj, HD, HB⟩ := hrel
        have k0 := (HBX.out.step HB.out).c0
        have k1 := (HBX.out.step HB.out).c1
        by_cases hjl : j < 3
        · have hji : (j : Int) < 3 := by omega
          go_wp2_with fail
          have HD := Lib.hid (dice_drew HD.out)
          have HB := Lib.hid (below_drew HB.out 1)
          go_region_with (first | (go_at_call 44; refine (below2_any _ _ _ _ _ 9 _ (HBY.out.later HB.out) HNE.out HD.out hnle (by omega) (by omega)).mono ?_; rintro e wa ⟨q, rfl, q0, q1, hbq, hsq, hdq⟩; have HB := Lib.hid (HB.out.trans hbq); have HD := Lib.hid hdq; have hw := wrap_id (z := q - 4) ⟨by omega, by omega⟩; have a0 := (HBX.out.step HB.out).c0; have a1 := (HBX.out.step HB.out).c1; clear hbq hdq) | (go_at_call 24; refine (HEC.out _ (HN.out.later HB.out) (HX.out.later HB.out).ints (q - 4) (by omega) (by omega)).mono ?_; rintro e wb ⟨dd, kk, rfl, hcase, hbe⟩; have hsb := HB.out.size; have HD := Lib.hid (dice_below HD.out hbe); have HB := Lib.hid (below_step HB.out hbe); clear hbe))
          all_goals
            rcases hcase with ⟨rfl, hd0⟩ | rfl
            · have hdl : ¬ dd < 0 := by omega
              have hdd : decide (dd < 0) = false := decide_eq_false hdl
              go_wp2_with fail
              go_roundw
              case rel => exact ⟨j + 1, by go_num, by omega, HD, HB⟩
              case measure => simp [intOf]; omega
            · go_wp2_with fail
              go_roundw
              case rel => exact ⟨j + 1, by go_num, by omega, HD, HB⟩
              case measure => simp [intOf]; omega
        · have hji : ¬ (j : Int) < 3 := by omega
          have hn40 := HN.out.later HB.out
          have oz40 := HZ.out.later HB.out
          have oX40 := HX.out.later HB.out
          have bx40 := HBX.out.step HB.out
          have t40 := below_step HTT.out HB.out
          obtain ⟨w40, hw40⟩ : ∃ w40, w40 = wr := ⟨_, rfl⟩
          subst hw40
          clear HN HZ HX HBX HTT HB HD
          go_wp2_with fail
          refine (HE.out _ _ _ _ _ _ _ _ _ _ hn40 oz40.ints).mono ?_
          rintro e w41 ⟨rfl, b41⟩
          have hn41 := hn40.later b41
          have t41 := below_step t40 b41
          have bx41 := bx40.step b41
          have oz41 := oz40.later b41
          have oX41 := oX40.later b41
          clear hn40 t40 b41 bx40 oz40 oX40 k0 k1
          have k0 := bx41.c0
          have k1 := bx41.c1
          go_wp2_with fail
          refine (HF.out _ _ _ _ _ _ _ _ _ _ hn41 oX41.ints).mono ?_
          rintro e w42 ⟨rfl, b42⟩
          have hn42 := hn41.later b42
          have t42 := below_step t41 b42
          have bx42 := bx41.step b42
          have oz42 := oz41.later b42
          have oX42 := oX41.later b42
          clear hn41 t41 b42 bx41 oz41 oX41 k0 k1
          have k0 := bx42.c0
          have k1 := bx42.c1
          have hle : decide (F ≤ E) = true := decide_eq_true l3
          go_wp2_with fail
          go_ret
          exact ⟨rfl, t42⟩
    · have hK' : (K != 0) = true := by simp [hK]
      clear hK HLW
      go_wp2_with fail
      go_ret
      exact ⟨rfl, t4⟩

end Go.Proofs.Ytllblmndoigdlaa
