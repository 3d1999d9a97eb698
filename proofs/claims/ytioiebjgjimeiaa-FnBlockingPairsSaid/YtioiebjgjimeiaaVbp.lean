/- the law FnBlockingPairs -/
import Derived.Test.YtioiebjgjimeiaaDa
import Derived.Test.YtioiebjgjimeiaaVv
import Derived.Test.YtioiebjgjimeiaaI7
import Derived.Test.YtioiebjgjimeiaaS
import Derived.Test.YtioiebjgjimeiaaOpen
namespace Go.Proofs.Ytioiebjgjimeiaa
open Go.RowKit

set_option maxRecDepth 100000 in
set_option maxHeartbeats 8000000 in
theorem lawBlockingPairs_any (A : Option Addr) (n c : Nat) (bs : List Int) (w : World) (h : Bytes w A n c bs) :
    Calls Try.prog 5 #[.slice A n c] w fun e w' => e = .returned (.bool true) ∧ Below w.heap.size w w' := by
  by_cases hbig : 4096 < n
  · have hb' : decide (4096 < n) = true := by simp [hbig]
    go_enter Try.func5, Try.ntmps5
    go_wp2_with fail
    refine (big_any _ _ _ _).mono ?_
    rintro e w' ⟨rfl, rfl⟩
    rw [hb']
    go_wp2_with fail
    go_ret
    exact ⟨rfl, Below.refl _ _⟩
  · have hb' : decide (4096 < n) = false := by simp [hbig]
    go_enter Try.func5, Try.ntmps5
    go_wp2_with fail
    refine (big_any _ _ _ _).mono ?_
    rintro e w' ⟨rfl, rfl⟩
    rw [hb']
    go_wp2_with fail
    refine (DrawBlockingPair_any _ _ _ _ _ h).mono ?_
    rintro e w1 ⟨An, k, cn, Ap, m, cp, ns, ps, Al, L, cl, zs, _, _, rfl, hd, hz, _, hk, hm, hL, _, _, b1⟩
    have bx1 : BX (w1.alloc (.cells #[.slice An k cn, .slice Ap m cp] 27)) w1.heap.size An k cn Ap m cp := ⟨heap_alloc_new w1 _⟩
    have hn1 : NetAt (w1.alloc (.cells #[.slice An k cn, .slice Ap m cp] 27)) An k cn Ap m cp ⟨ns, ps⟩ := hd.net.later (bel1 w1 (.cells #[.slice An k cn, .slice Ap m cp] 27))
    have oz1 := hz.later (bel1 w1 (.cells #[.slice An k cn, .slice Ap m cp] 27))
    have t1 := below_step b1 (bel1 w1 (.cells #[.slice An k cn, .slice Ap m cp] 27))
    obtain ⟨net, hnet⟩ : ∃ net : Net, (⟨ns, ps⟩ : Net) = net := ⟨_, rfl⟩
    rw [hnet] at hn1
    clear hd hz b1 hnet
    by_cases hK : (rBlockingPair net zs).2.2 = 0
    · obtain ⟨a, b, g, p, ha, hb, l1, l2, l3, l4, p0, p1, p2, l5, l6, l7, l8, l9⟩ := block_law hK
      clear hK
      have hnl0 := hn1.nodes.len
      have cHT := fun A n c B m d C l e w h0 h1 => implBlockingPair_any A n c B m d net C l e zs w h0 h1
      simp only [l1] at cHT
      have HT := Lib.hid cHT
      clear cHT
      have cHS := fun A n c B m d C l e w h0 h1 => specBlockingPair_any A n c B m d net C l e zs w h0 h1
      simp only [l1] at cHS
      have HS := Lib.hid cHS
      clear cHS
      have cHG := fun A n c B m d C l e w h0 h1 => implGapBetween_any A n c B m d net C l e zs a b w h0 h1 ⟨by omega, by omega⟩ ⟨by omega, by omega⟩
      simp only [l2] at cHG
      have HG := Lib.hid cHG
      clear cHG
      obtain ⟨r1, r2, r3, hR⟩ : ∃ r1 r2 r3, rRootRange net zs 0 = (r1, r2, r3) := ⟨_, _, _, rfl⟩
      rw [hR] at l3
      simp only at l3
      subst l3
      have cHR := fun A n c B m d C l e w h0 h1 => implRootRange_any A n c B m d net C l e zs 0 w h0 h1 ⟨by decide, by decide⟩
      simp only [hR] at cHR
      have HR := Lib.hid cHR
      clear cHR
      clear l1 l2 hR
      go_wp2_with fail
      refine (HT.out _ _ _ _ _ _ _ _ _ _ hn1 oz1.ints).mono ?_
      rintro e w2 ⟨rfl, b2⟩
      have hn2 := hn1.later b2
      have t2 := below_step t1 b2
      have bx2 := bx1.step b2
      have oz2 := oz1.later b2
      clear hn1 t1 b2 bx1 oz1
      have k0 := bx2.c0
      have k1 := bx2.c1
      go_wp2_with fail
      refine (HS.out _ _ _ _ _ _ _ _ _ _ hn2 oz2.ints).mono ?_
      rintro e w3 ⟨rfl, b3⟩
      have hn3 := hn2.later b3
      have t3 := below_step t2 b3
      have bx3 := bx2.step b3
      have oz3 := oz2.later b3
      clear hn2 t2 b3 bx2 oz2 k0 k1
      have k0 := bx3.c0
      have k1 := bx3.c1
      go_wp2_with fail
      refine (HG.out _ _ _ _ _ _ _ _ _ _ hn3 oz3.ints).mono ?_
      rintro e w4 ⟨rfl, b4⟩
      have hn4 := hn3.later b4
      have t4 := below_step t3 b4
      have bx4 := bx3.step b4
      have oz4 := oz3.later b4
      clear hn3 t3 b4 bx3 oz3 k0 k1
      have k0 := bx4.c0
      have k1 := bx4.c1
      go_wp2_with fail
      refine (HR.out _ _ _ _ _ _ _ _ _ _ hn4 oz4.ints).mono ?_
      rintro e w5 ⟨rfl, b5⟩
      have hn5 := hn4.later b5
      have t5 := below_step t4 b5
      have bx5 := bx4.step b5
      have oz5 := oz4.later b5
      clear hn4 t4 b5 bx4 oz4 k0 k1
      have k0 := bx5.c0
      have k1 := bx5.c1
      have hN := hn5.nodes
      obtain ⟨bn, offn, rfl, hbln, hcn⟩ := hN.cells (by omega)
      obtain ⟨a0, a1, a2⟩ := hcn a (by omega)
      obtain ⟨e0, e1, e2⟩ := hcn b (by omega)
      unfold ndl ndh at *
      have hak : (a : Int) < (k : Int) := by omega
      have hbk : (b : Int) < (k : Int) := by omega
      have hP := implPressure_any (nd net.nodes a).low w5
      rw [l4] at hP
      have HP := Lib.hid hP
      clear hP l4 hcn hN HT HS HG HR
      generalize (nd net.nodes a).low = lo at *
      generalize (nd net.nodes b).high = hi at *
      have hle : decide (p * p ≤ lo) = true := decide_eq_true p2
      have hgt : decide (lo - hi > g) = true := decide_eq_true l5
      have hp0 := Int.mul_nonneg p0 p0
      generalize hpp : p * p = P2 at *
      have HW : Hid (wrap64 P2 = P2) := Lib.hid (by unfold wrap64; omega)
      go_wp2_with fail
      refine HP.out.mono ?_
      rintro e w' ⟨rfl, rfl⟩
      go_wp2_with fail
      go_quiet (fail)
      go_wp2_with fail
      go_ret
      first | exact ⟨by rw [HW.out]; simp [p2], below_drew t5 _⟩ | exact ⟨rfl, t5⟩ | exact ⟨rfl, below_drew t5 _⟩ | exact ⟨by simp [*], below_drew t5 _⟩ | exact ⟨by simp [*], t5⟩
    · obtain ⟨r1, r2, K, hR⟩ : ∃ r1 r2 K, rBlockingPair net zs = (r1, r2, K) := ⟨_, _, _, rfl⟩
      rw [hR] at hK
      simp only at hK
      have cHT := fun A n c B m d C l e w h0 h1 => implBlockingPair_any A n c B m d net C l e zs w h0 h1
      simp only [hR] at cHT
      have HT := Lib.hid cHT
      clear cHT
      have cHS := fun A n c B m d C l e w h0 h1 => specBlockingPair_any A n c B m d net C l e zs w h0 h1
      simp only [hR] at cHS
      have HS := Lib.hid cHS
      clear cHS
      have hK' : (K != 0) = true := by simp [hK]
      clear hK hR
      go_wp2_with fail
      refine (HT.out _ _ _ _ _ _ _ _ _ _ hn1 oz1.ints).mono ?_
      rintro e w2 ⟨rfl, b2⟩
      have hn2 := hn1.later b2
      have t2 := below_step t1 b2
      have bx2 := bx1.step b2
      have oz2 := oz1.later b2
      clear hn1 t1 b2 bx1 oz1
      have k0 := bx2.c0
      have k1 := bx2.c1
      go_wp2_with fail
      refine (HS.out _ _ _ _ _ _ _ _ _ _ hn2 oz2.ints).mono ?_
      rintro e w3 ⟨rfl, b3⟩
      have hn3 := hn2.later b3
      have t3 := below_step t2 b3
      have bx3 := bx2.step b3
      have oz3 := oz2.later b3
      clear hn2 t2 b3 bx2 oz2 k0 k1
      have k0 := bx3.c0
      have k1 := bx3.c1
      go_wp2_with fail
      go_ret
      exact ⟨rfl, t3⟩

end Go.Proofs.Ytioiebjgjimeiaa
