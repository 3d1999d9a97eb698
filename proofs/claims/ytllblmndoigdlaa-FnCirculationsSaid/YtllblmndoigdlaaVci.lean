/- the law FnCirculations -/
import Derived.Test.YtllblmndoigdlaaDk
import Derived.Test.YtllblmndoigdlaaQa
import Derived.Test.YtllblmndoigdlaaRh
namespace Go.Proofs.Ytllblmndoigdlaa
open Go.RowKit

set_option maxRecDepth 100000 in
set_option maxHeartbeats 8000000 in
theorem lawCirculations_any (A : Option Addr) (n c : Nat) (bs : List Int) (w : World) (h : Bytes w A n c bs) :
    Calls Try.prog 3 #[.slice A n c] w fun e w' => e = .returned (.bool true) ∧ Below w.heap.size w w' := by
  by_cases hbig : 4096 < n
  · have hb' : decide (4096 < n) = true := by simp [hbig]
    go_enter Try.func3, Try.ntmps3
    go_wp2_with fail
    refine (big_any _ _ _ _).mono ?_
    rintro e w' ⟨rfl, rfl⟩
    rw [hb']
    go_wp2_with fail
    go_ret
    exact ⟨rfl, Below.refl _ _⟩
  · have hb' : decide (4096 < n) = false := by simp [hbig]
    go_enter Try.func3, Try.ntmps3
    go_wp2_with fail
    refine (big_any _ _ _ _).mono ?_
    rintro e w' ⟨rfl, rfl⟩
    rw [hb']
    go_wp2_with fail
    refine (DrawIsCirculation_any _ _ _ _ _ h).mono ?_
    rintro e w1 ⟨An, k, cn, Ap, m, cp, ns, ps, Al, L, cl, zs, _, _, rfl, hd, hz, _, hk, hm, hL, _, _, b1⟩
    have bx1 : BX (w1.alloc (.cells #[.slice An k cn, .slice Ap m cp] 27)) w1.heap.size An k cn Ap m cp := ⟨heap_alloc_new w1 _⟩
    have hn1 : NetAt (w1.alloc (.cells #[.slice An k cn, .slice Ap m cp] 27)) An k cn Ap m cp ⟨ns, ps⟩ := hd.net.later (bel1 w1 (.cells #[.slice An k cn, .slice Ap m cp] 27))
    have oz1 := hz.later (bel1 w1 (.cells #[.slice An k cn, .slice Ap m cp] 27))
    have t1 := below_step b1 (bel1 w1 (.cells #[.slice An k cn, .slice Ap m cp] 27))
    obtain ⟨net, hnet⟩ : ∃ net : Net, (⟨ns, ps⟩ : Net) = net := ⟨_, rfl⟩
    rw [hnet] at hn1
    clear hd hz b1 hnet
    rcases hC : rIsCirc net zs with _ | _
    · have cHT := fun A n c B m d C l e w h0 h1 => implIsCirculation_any A n c B m d net C l e zs w h0 h1
      simp only [hC] at cHT
      have HT := Lib.hid cHT
      clear cHT
      have cHS := fun A n c B m d C l e w h0 h1 => specIsCirculation_any A n c B m d net C l e zs w h0 h1
      simp only [hC] at cHS
      have HS := Lib.hid cHS
      clear cHS
      clear hC
      go_wp2_with fail
      refine (HT.out _ _ _ _ _ _ _ _ _ _ hn1 oz1.ints).mono ?_
      rintro e w2 ⟨rfl, b2⟩
      have hn2 := hn1.later b2
      have t2 := below_step t1 b2
      have bx2 := bx1.step b2
      have oz2 := oz1.later b2
      clear hn1 t1 b2 bx1 oz1
      have k0 := bx2.c0
      have k1 := bx2.c1
      go_wp2_with fail
      refine (HS.out _ _ _ _ _ _ _ _ _ _ hn2 oz2.ints).mono ?_
      rintro e w3 ⟨rfl, b3⟩
      have hn3 := hn2.later b3
      have t3 := below_step t2 b3
      have bx3 := bx2.step b3
      have oz3 := oz2.later b3
      clear hn2 t2 b3 bx2 oz2 k0 k1
      have k0 := bx3.c0
      have k1 := bx3.c1
      go_wp2_with fail
      go_ret
      exact ⟨rfl, t3⟩
    · have cHT := fun A n c B m d C l e w h0 h1 => implIsCirculation_any A n c B m d net C l e zs w h0 h1
      simp only [hC] at cHT
      have HT := Lib.hid cHT
      clear cHT
      have cHS := fun A n c B m d C l e w h0 h1 => specIsCirculation_any A n c B m d net C l e zs w h0 h1
      simp only [hC] at cHS
      have HS := Lib.hid cHS
      clear cHS
      obtain ⟨l1, l2⟩ := circ_law hC
      obtain ⟨Y, hY⟩ : ∃ Y, chF net zs = Y := ⟨_, rfl⟩
      rw [hY] at l1 l2
      clear hY hC
      have cHC := fun A n c B m d C l e w h0 h1 => implChordFlows_any A n c B m d net C l e zs w h0 h1
      simp only [RetLI, l1] at cHC
      have HC := Lib.hid cHC
      clear cHC
      have cHF := fun A n c B m d C l e w h0 h1 => implFromChords_any A n c B m d net C l e Y w h0 h1
      simp only [RetLI, l2] at cHF
      have HF := Lib.hid cHF
      clear cHF
      have eZ := eqL_self zs
      clear l1 l2
      go_wp2_with fail
      refine (HT.out _ _ _ _ _ _ _ _ _ _ hn1 oz1.ints).mono ?_
      rintro e w2 ⟨rfl, b2⟩
      have hn2 := hn1.later b2
      have t2 := below_step t1 b2
      have bx2 := bx1.step b2
      have oz2 := oz1.later b2
      clear hn1 t1 b2 bx1 oz1
      have k0 := bx2.c0
      have k1 := bx2.c1
      go_wp2_with fail
      refine (HS.out _ _ _ _ _ _ _ _ _ _ hn2 oz2.ints).mono ?_
      rintro e w3 ⟨rfl, b3⟩
      have hn3 := hn2.later b3
      have t3 := below_step t2 b3
      have bx3 := bx2.step b3
      have oz3 := oz2.later b3
      clear hn2 t2 b3 bx2 oz2 k0 k1
      have k0 := bx3.c0
      have k1 := bx3.c1
      go_wp2_with fail
      refine (HC.out _ _ _ _ _ _ _ _ _ _ hn3 oz3.ints).mono ?_
      rintro e w4 ⟨AoY, coY, rfl, oY4, foY4, b4⟩
      have hn4 := hn3.later b4
      have t4 := below_step t3 b4
      have bx4 := bx3.step b4
      have oz4 := oz3.later b4
      clear hn3 t3 b4 bx3 oz3 k0 k1
      have k0 := bx4.c0
      have k1 := bx4.c1
      go_wp2_with fail
      refine (HF.out _ _ _ _ _ _ _ _ _ _ hn4 oY4.ints).mono ?_
      rintro e w5 ⟨AoB, coB, rfl, oB5, foB5, b5⟩
      have hn5 := hn4.later b5
      have t5 := below_step t4 b5
      have bx5 := bx4.step b5
      have oz5 := oz4.later b5
      have oY5 := oY4.later b5
      clear hn4 t4 b5 bx4 oz4 oY4 k0 k1
      have k0 := bx5.c0
      have k1 := bx5.c1
      go_wp2_with fail
      refine (likeInts_any _ _ _ _ _ _ _ _ _ oB5.ints oz5.ints).mono ?_
      rintro e w6 ⟨rfl, q, rfl⟩
      rw [eZ]
      have b6 := below_drew (Below.refl w5.heap.size w5) q
      generalize w5.drewN q = w6 at *
      have hn6 := hn5.later b6
      have t6 := below_step t5 b6
      have bx6 := bx5.step b6
      have oz6 := oz5.later b6
      have oY6 := oY5.later b6
      have oB6 := oB5.later b6
      clear hn5 t5 b6 bx5 oz5 oY5 oB5 k0 k1
      have k0 := bx6.c0
      have k1 := bx6.c1
      go_wp2_with fail
      go_ret
      exact ⟨rfl, t6⟩

end Go.Proofs.Ytllblmndoigdlaa
