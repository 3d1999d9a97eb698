/- the law FnWorstResiduals -/
import Derived.Test.YtllblmndoigdlaaDi2
import Derived.Test.YtllblmndoigdlaaVp
import Derived.Test.YtllblmndoigdlaaRc
import Derived.Test.YtllblmndoigdlaaRa
import Derived.Test.YtllblmndoigdlaaSz
namespace Go.Proofs.Ytllblmndoigdlaa
open Go.RowKit

set_option maxRecDepth 100000 in
set_option maxHeartbeats 8000000 in
theorem lawWorst_any (A : Option Addr) (n c : Nat) (bs : List Int) (w : World) (h : Bytes w A n c bs) :
    Calls Try.prog 6 #[.slice A n c] w fun e w' => e = .returned (.bool true) ∧ Below w.heap.size w w' := by
  by_cases hbig : 4096 < n
  · have hb' : decide (4096 < n) = true := by simp [hbig]
    go_enter Try.func6, Try.ntmps6
    go_wp2_with fail
    refine (big_any _ _ _ _).mono ?_
    rintro e w' ⟨rfl, rfl⟩
    rw [hb']
    go_wp2_with fail
    go_ret
    exact ⟨rfl, Below.refl _ _⟩
  · have hb' : decide (4096 < n) = false := by simp [hbig]
    go_enter Try.func6, Try.ntmps6
    go_wp2_with fail
    refine (big_any _ _ _ _).mono ?_
    rintro e w' ⟨rfl, rfl⟩
    rw [hb']
    go_wp2_with fail
    refine (DrawWorstResidual_any _ _ _ _ _ h).mono ?_
    rintro e w1 ⟨An, k, cn, Ap, m, cp, ns, ps, Al, L, cl, zs, _, _, rfl, hd, hz, _, hk, hm, hL, _, _, b1⟩
    have bx1 : BX (w1.alloc (.cells #[.slice An k cn, .slice Ap m cp] 27)) w1.heap.size An k cn Ap m cp := ⟨heap_alloc_new w1 _⟩
    have hn1 : NetAt (w1.alloc (.cells #[.slice An k cn, .slice Ap m cp] 27)) An k cn Ap m cp ⟨ns, ps⟩ := hd.net.later (bel1 w1 (.cells #[.slice An k cn, .slice Ap m cp] 27))
    have oz1 := hz.later (bel1 w1 (.cells #[.slice An k cn, .slice Ap m cp] 27))
    have t1 := below_step b1 (bel1 w1 (.cells #[.slice An k cn, .slice Ap m cp] 27))
    obtain ⟨net, hnet⟩ : ∃ net : Net, (⟨ns, ps⟩ : Net) = net := ⟨_, rfl⟩
    rw [hnet] at hn1
    clear hd hz b1 hnet
    have hlaw := worst_law net zs
    obtain ⟨R, K, hR⟩ : ∃ R K, rWorstResidual net zs = (R, K) := ⟨_, _, rfl⟩
    obtain ⟨M, J, hM⟩ : ∃ M J, rLoopError net zs = (M, J) := ⟨_, _, rfl⟩
    have hRi : I64 R := by have := rWorst_i64 net zs; rw [hR] at this; exact this
    rw [hR, hM] at hlaw
    simp only at hlaw
    have HLW := Lib.hid hlaw
    clear hlaw
    have cHT := fun A n c B m d C l e w h0 h1 => implWorstResidual_any A n c B m d net C l e zs w h0 h1
    simp only [hR] at cHT
    have HT := Lib.hid cHT
    clear cHT
    have cHS := fun A n c B m d C l e w h0 h1 => specWorstResidual_any A n c B m d net C l e zs w h0 h1
    simp only [hR] at cHS
    have HS := Lib.hid cHS
    clear cHS
    have cHU := fun A n c B m d C l e w h0 h1 => implLoopError_any A n c B m d net C l e zs w h0 h1
    simp only [hM] at cHU
    have HU := Lib.hid cHU
    clear cHU
    have cHV := fun A n c B m d C l e w h0 h1 => specLoopError_any A n c B m d net C l e zs w h0 h1
    simp only [hM] at cHV
    have HV := Lib.hid cHV
    clear cHV
    clear hR hM
    go_wp2_with fail
    refine (HT.out _ _ _ _ _ _ _ _ _ _ hn1 oz1.ints).mono ?_
    rintro e w2 ⟨rfl, b2⟩
    have hn2 := hn1.later b2
    have t2 := below_step t1 b2
    have bx2 := bx1.step b2
    have oz2 := oz1.later b2
    clear hn1 t1 b2 bx1 oz1
    have k0 := bx2.c0
    have k1 := bx2.c1
    go_wp2_with fail
    refine (HS.out _ _ _ _ _ _ _ _ _ _ hn2 oz2.ints).mono ?_
    rintro e w3 ⟨rfl, b3⟩
    have hn3 := hn2.later b3
    have t3 := below_step t2 b3
    have bx3 := bx2.step b3
    have oz3 := oz2.later b3
    clear hn2 t2 b3 bx2 oz2 k0 k1
    have k0 := bx3.c0
    have k1 := bx3.c1
    go_wp2_with fail
    refine (HU.out _ _ _ _ _ _ _ _ _ _ hn3 oz3.ints).mono ?_
    rintro e w4 ⟨rfl, b4⟩
    have hn4 := hn3.later b4
    have t4 := below_step t3 b4
    have bx4 := bx3.step b4
    have oz4 := oz3.later b4
    clear hn3 t3 b4 bx3 oz3 k0 k1
    have k0 := bx4.c0
    have k1 := bx4.c1
    go_wp2_with fail
    refine (HV.out _ _ _ _ _ _ _ _ _ _ hn4 oz4.ints).mono ?_
    rintro e w5 ⟨rfl, b5⟩
    have hn5 := hn4.later b5
    have t5 := below_step t4 b5
    have bx5 := bx4.step b5
    have oz5 := oz4.later b5
    clear hn4 t4 b5 bx4 oz4 k0 k1
    have k0 := bx5.c0
    have k1 := bx5.c1
    by_cases hK : K = 0
    · subst hK
      obtain ⟨r, l1, l2, l3, l4⟩ := HLW.out.2 rfl
      have cHR := fun A n c B m d C l e w h0 h1 => implResidualOf_any A n c B m d net C l e zs R w h0 h1 hRi
      simp only [l1] at cHR
      have HR := Lib.hid cHR
      clear cHR
      clear HLW l1
      have HL2 := Lib.hid l2
      clear l2
      go_wp2_with fail
      refine (HR.out _ _ _ _ _ _ _ _ _ _ hn5 oz5.ints).mono ?_
      rintro e w6 ⟨rfl, b6⟩
      have hn6 := hn5.later b6
      have t6 := below_step t5 b6
      have bx6 := bx5.step b6
      have oz6 := oz5.later b6
      clear hn5 t5 b6 bx5 oz5 k0 k1
      have k0 := bx6.c0
      have k1 := bx6.c1
      go_wp2_with fail
      refine (size_any _ _ ⟨by omega, by omega⟩).mono ?_
      rintro e w' ⟨rfl, rfl⟩
      rw [HL2.out]
      go_wp2_with fail
      go_ret
      exact ⟨rfl, t6⟩
    · have hK' : (K != 0) = true := by simp [hK]
      clear hK
      by_cases h4 : K = 4
      · subst h4
        have hm := HLW.out.1 rfl
        subst hm
        clear HLW
        go_wp2_with fail
        go_ret
        exact ⟨rfl, t5⟩
      · have h4' : (K != 4) = true := by simp [h4]
        clear h4 HLW
        go_wp2_with fail
        go_ret
        exact ⟨rfl, t5⟩

end Go.Proofs.Ytllblmndoigdlaa
