/- the law FnGaps -/
import Derived.Test.YtahmhmicegjdkaaKg
import Derived.Test.YtahmhmicegjdkaaDi
import Derived.Test.YtahmhmicegjdkaaL9
namespace Go.Proofs.Ytahmhmicegjdkaa
open Go.RowKit

theorem allB_2 {a b lo hi : Int} : allB [a, b] lo hi = true ↔ (lo ≤ a ∧ a ≤ hi) ∧ (lo ≤ b ∧ b ≤ hi) := by
  unfold allB; simp [inB_iff']
/-- what the law on gaps wants -/
theorem gap_law {net : Net} {zs : List Int} {a b : Int} (h : (rGapBetween net zs a b).2 = 0) :
    netB net = true ∧ (rLowestNode net zs).2 = 0 ∧ I64 (rLowestNode net zs).1 ∧ ∀ c : Int, 0 ≤ c → c < net.nodes.length →
      (rGapBetween net zs a c).2 = 0 ∧ (rGapBetween net zs c b).2 = 0 ∧ (rGapBetween net zs (rLowestNode net zs).1 c).2 = 0 ∧
      (rGapBetween net zs a c).1 + (rGapBetween net zs c b).1 = (rGapBetween net zs a b).1 ∧ (rGapBetween net zs (rLowestNode net zs).1 c).1 ≤ 0 ∧
      (-100000000000000 ≤ (rGapBetween net zs a c).1 ∧ (rGapBetween net zs a c).1 ≤ 100000000000000) ∧ (-100000000000000 ≤ (rGapBetween net zs c b).1 ∧ (rGapBetween net zs c b).1 ≤ 100000000000000) := by
  have h0 : codeT net zs 0 [a, b] = 0 := by
    by_cases e : codeT net zs 0 [a, b] = 0
    · exact e
    · unfold rGapBetween at h; rw [if_neg e] at h; exact h
  obtain ⟨hv, hs, hab, _⟩ := codeT_zero h0
  have hn := netB_sizes hv
  rw [allB_2] at hab
  have hl0 : levB 0 = true := levB_of ⟨by decide, by decide⟩
  have hL : rLowestNode net zs = (((lowI (levL net zs 0 0) (net.nodes.length - 1) : Nat) : Int), 0) := by
    unfold rLowestNode
    rw [if_pos (codeT_other h0 (xs' := []) rfl hl0)]
  have hlow := lowI_facts (levL net zs 0 0) (net.nodes.length - 1)
  have hG : ∀ x y : Int, (0 ≤ x ∧ x ≤ (net.nodes.length : Int) - 1) → (0 ≤ y ∧ y ≤ (net.nodes.length : Int) - 1) → rGapBetween net zs x y = ((netG net).base (drF net zs) x.toNat - (netG net).base (drF net zs) y.toNat, 0) := by
    intro x y hx hy
    unfold rGapBetween
    rw [if_pos (codeT_other h0 (allB_2.2 ⟨hx, hy⟩) hl0)]
  refine ⟨hv, by rw [hL], by rw [hL]; exact ⟨by show _ ≤ ((lowI _ _ : Nat) : Int); omega, by show ((lowI _ _ : Nat) : Int) ≤ _; omega⟩, fun c c0 c1 => ?_⟩
  have hcr : 0 ≤ c ∧ c ≤ (net.nodes.length : Int) - 1 := ⟨c0, by omega⟩
  have hlr : 0 ≤ ((lowI (levL net zs 0 0) (net.nodes.length - 1) : Nat) : Int) ∧ ((lowI (levL net zs 0 0) (net.nodes.length - 1) : Nat) : Int) ≤ (net.nodes.length : Int) - 1 := ⟨by omega, by omega⟩
  rw [hL, hG a c hab.1 hcr, hG c b hcr hab.2, hG a b hab.1 hab.2, hG _ c hlr hcr]
  have l1 := base_lim hv hs a.toNat
  have l2 := base_lim hv hs b.toNat
  have l3 := base_lim hv hs c.toNat
  refine ⟨rfl, rfl, rfl, by show _ - _ + (_ - _) = _ - _; omega, ?_, by show _ ≤ _ - _ ∧ _ - _ ≤ _; omega, by show _ ≤ _ - _ ∧ _ - _ ≤ _; omega⟩
  have := hlow.2.1 c.toNat (by omega)
  rw [levL_ig (by omega), levL_ig (by omega)] at this
  unfold Gr.lev at this
  show (netG net).base (drF net zs) (((lowI (levL net zs 0 0) (net.nodes.length - 1) : Nat) : Int)).toNat - (netG net).base (drF net zs) c.toNat ≤ 0
  rw [Int.toNat_natCast]
  omega

set_option maxRecDepth 100000 in
set_option maxHeartbeats 8000000 in
theorem lawGaps_any (A : Option Addr) (n c : Nat) (bs : List Int) (w : World) (h : Bytes w A n c bs) :
    Calls Try.prog 6 #[.slice A n c] w fun e w' => e = .returned (.bool true) ∧ Below w.heap.size w w' := by
  by_cases hbig : 4096 < n
  · have hb' : decide (4096 < n) = true := by simp [hbig]
    go_enter Try.func6, Try.ntmps6
    go_wp2_with fail
    refine (big_any _ _ _ _).mono ?_
    rintro e w' ⟨rfl, rfl⟩
    rw [hb']
    go_wp2_with fail
    go_ret
    exact ⟨rfl, Below.refl _ _⟩
  · have hb' : decide (4096 < n) = false := by simp [hbig]
    go_enter Try.func6, Try.ntmps6
    go_wp2_with fail
    refine (big_any _ _ _ _).mono ?_
    rintro e w' ⟨rfl, rfl⟩
    rw [hb']
    go_wp2_with fail
    refine (DrawGapBetween_any _ _ _ _ _ h).mono ?_
    rintro e w1 ⟨An, k, cn, Ap, m, cp, ns, ps, Al, L, cl, zs, x, y, rfl, hn, hz, hk, hm, hL, hx, hy, b1⟩
    have bx0 : BX (w1.alloc (.cells #[.slice An k cn, .slice Ap m cp] 32)) w1.heap.size An k cn Ap m cp := ⟨heap_alloc_new w1 _⟩
    have hn1 := hn.later (bel1 w1 (.cells #[.slice An k cn, .slice Ap m cp] 32))
    have hz1 := hz.later (bel1 w1 (.cells #[.slice An k cn, .slice Ap m cp] 32))
    have t1 := below_step b1 (bel1 w1 (.cells #[.slice An k cn, .slice Ap m cp] 32))
    obtain ⟨net, hnet⟩ : ∃ net : Net, (⟨ns, ps⟩ : Net) = net := ⟨_, rfl⟩
    rw [hnet] at hn1
    have HNL := Lib.hid hn1.nodes.len
    have HLW : Hid ((rGapBetween net zs x y).2 = 0 → _) := Lib.hid (gap_law (net := net) (zs := zs) (a := x) (b := y))
    clear hn hz b1 hnet
    go_wp2_with fail
    refine (implGapBetween_any _ _ _ _ _ _ net _ _ _ zs _ _ _ hn1 hz1 hx hy).mono ?_
    rintro e w2 ⟨rfl, b2⟩
    have bx2 := bx0.step b2
    have hn2 := hn1.later b2
    have hz2 := hz1.later b2
    have t2 := below_step t1 b2
    have k0 := bx2.c0
    have k1 := bx2.c1
    clear bx0 hn1 hz1 t1 b2
    go_wp2_with fail
    refine (specGapBetween_any _ _ _ _ _ _ net _ _ _ zs _ _ _ hn2 hz2 hx hy).mono ?_
    rintro e w3 ⟨rfl, b3⟩
    have bx3 := bx2.step b3
    have hn3 := hn2.later b3
    have hz3 := hz2.later b3
    have t3 := below_step t2 b3
    clear k0 k1 bx2 hn2 hz2 t2 b3
    by_cases hK : (rGapBetween net zs x y).2 = 0
    · obtain ⟨hv, q2, q1, hc⟩ := HLW.out hK
      have hk1 : 1 ≤ k := by have := (netB_sizes hv).1; have := HNL.out; omega
      rw [hK]
      generalize (rGapBetween net zs x y).1 = D at *
      have HC := Lib.hid hc
      have k0 := bx3.c0
      have k1 := bx3.c1
      have hl1 := bx3.lt
      clear hK hc HLW hv
      go_wp2_with fail
      have hby := h.later t3
      have hbk : 0 < n → ∀ a, A = some a → a.block < w3.heap.size := hby.blk
      have T3 := Lib.hid t3
      have HBY := Lib.hid hby
      have HBK := Lib.hid hbk
      have BX3 := Lib.hid bx3
      have HN3 := Lib.hid hn3
      have HZ3 := Lib.hid hz3
      have hki : 1 ≤ (k : Int) := by omega
      clear hby hbk t3 bx3 hn3 hz3
      go_region_with (first | (go_at_call 33; refine (roll_any _ _ _ _ _ _ (HBY.out.later (Below.refl _ _).drew) (by omega)).mono ?_; rintro e wr ⟨rfl, hdi, br⟩; have BR := Lib.hid ((Below.refl w3.heap.size w3).drew.trans br); have HDI := Lib.hid hdi; have j0 := (BX3.out.step BR.out).c0; have j1 := (BX3.out.step BR.out).c1; clear hdi br) | (go_at_call 34; refine (below_any _ _ _ bs _ _ _ (HBY.out.later BR.out) (fun hn a ha => Nat.ne_of_lt (HBK.out hn a ha)) HDI.out (by omega) hki (by omega)).mono ?_; rintro e wb ⟨r, rfl, r0, r1, bb, hsz⟩; have BB := Lib.hid (BR.out.trans bb)))
      all_goals
        have b4 := BB.out
        have t4 := below_step T3.out b4
        have bx4 := BX3.out.step b4
        have hn4 := HN3.out.later b4
        have hz4 := HZ3.out.later b4
        obtain ⟨p1, p2, p3, p4, p5, p6, p7⟩ := HC.out r r0 (by have := HNL.out; omega)
        have hri : I64 r := ⟨by omega, by omega⟩
        have hG1 := fun A n c B m d C l e w h0 h1 => implGapBetween_any A n c B m d net C l e zs x r w h0 h1 hx hri
        have hG2 := fun A n c B m d C l e w h0 h1 => implGapBetween_any A n c B m d net C l e zs r y w h0 h1 hri hy
        have hG3 := fun A n c B m d C l e w h0 h1 => implGapBetween_any A n c B m d net C l e zs (rLowestNode net zs).1 r w h0 h1 q1 hri
        have hLo := fun A n c B m d C l e w h0 h1 => implLowestNode_any A n c B m d net C l e zs w h0 h1
        have hLs := fun A n c B m d C l e w h0 h1 => specLowestNode_any A n c B m d net C l e zs w h0 h1
        simp only [p1] at hG1
        simp only [p2] at hG2
        simp only [p3] at hG3
        simp only [q2] at hLo hLs
        generalize (rGapBetween net zs x r).1 = G1 at *
        generalize (rGapBetween net zs r y).1 = G2 at *
        generalize (rGapBetween net zs (rLowestNode net zs).1 r).1 = G3 at *
        generalize (rLowestNode net zs).1 = LO at *
        have HG1 := Lib.hid hG1
        have HG2 := Lib.hid hG2
        have HG3 := Lib.hid hG3
        have HLo := Lib.hid hLo
        have HLs := Lib.hid hLs
        have P4 := Lib.hid p4
        clear hG1 hG2 hG3 hLo hLs p1 p2 p3 p4 q2 HC b4 BB BR HDI HN3 HZ3 BX3 HBY HBK T3 k0 k1 j0 j1 hl1 bb hsz
        have k0 := bx4.c0
        have k1 := bx4.c1
        go_wp2_with fail
        refine (HG1.out _ _ _ _ _ _ _ _ _ _ hn4 hz4).mono ?_
        rintro e w5 ⟨rfl, b5⟩
        have bx5 := bx4.step b5
        have hn5 := hn4.later b5
        have hz5 := hz4.later b5
        have t5 := below_step t4 b5
        clear k0 k1 bx4 hn4 hz4 t4 b5
        have k0 := bx5.c0
        have k1 := bx5.c1
        go_wp2_with fail
        refine (HG2.out _ _ _ _ _ _ _ _ _ _ hn5 hz5).mono ?_
        rintro e w6 ⟨rfl, b6⟩
        have bx6 := bx5.step b6
        have hn6 := hn5.later b6
        have hz6 := hz5.later b6
        have t6 := below_step t5 b6
        clear k0 k1 bx5 hn5 hz5 t5 b6
        have k0 := bx6.c0
        have k1 := bx6.c1
        go_wp2_with fail
        refine (HLo.out _ _ _ _ _ _ _ _ _ _ hn6 hz6).mono ?_
        rintro e w7 ⟨rfl, b7⟩
        have bx7 := bx6.step b7
        have hn7 := hn6.later b7
        have hz7 := hz6.later b7
        have t7 := below_step t6 b7
        clear k0 k1 bx6 hn6 hz6 t6 b7
        have k0 := bx7.c0
        have k1 := bx7.c1
        go_wp2_with fail
        refine (HLs.out _ _ _ _ _ _ _ _ _ _ hn7 hz7).mono ?_
        rintro e w8 ⟨rfl, b8⟩
        have bx8 := bx7.step b8
        have hn8 := hn7.later b8
        have hz8 := hz7.later b8
        have t8 := below_step t7 b8
        clear k0 k1 bx7 hn7 hz7 t7 b8
        have k0 := bx8.c0
        have k1 := bx8.c1
        go_wp2_with fail
        refine (HG3.out _ _ _ _ _ _ _ _ _ _ hn8 hz8).mono ?_
        rintro e w9 ⟨rfl, b9⟩
        have t9 := below_step t8 b9
        clear k0 k1 bx8 hn8 hz8 t8 b9
        have hsum : (G1 + G2 == D) = true := by simp [P4.out]
        go_wp2_with fail
        go_ret
        exact ⟨rfl, t9⟩
    · have hne : ((rGapBetween net zs x y).2 != 0) = true := by simp [hK]
      clear hK HLW
      generalize (rGapBetween net zs x y).1 = D at *
      generalize (rGapBetween net zs x y).2 = K at *
      go_wp2_with fail
      go_ret
      exact ⟨rfl, t3⟩

end Go.Proofs.Ytahmhmicegjdkaa
