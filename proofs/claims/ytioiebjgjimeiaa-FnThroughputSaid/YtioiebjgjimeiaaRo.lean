/- the law FnThroughput -/
import Derived.Test.YtioiebjgjimeiaaRn
import Derived.Test.YtioiebjgjimeiaaI4
import Derived.Test.YtioiebjgjimeiaaQa
namespace Go.Proofs.Ytioiebjgjimeiaa
open Go.RowKit

theorem size_any (q : Int) (w : World) (hq : -9000000000000000000 ≤ q ∧ q ≤ 9000000000000000000) :
    Calls Try.prog 20 #[.int .i64 q] w fun e w' => e = .returned (.int .i64 (ab q)) ∧ w = w' := by
  by_cases h : q < 0
  · have e : ab q = -q := by unfold ab; rw [if_pos h]
    rw [e]
    go_enter Try.func20, Try.ntmps20
    go_wp2_with fail
    go_ret
    exact ⟨rfl, rfl⟩
  · have e : ab q = q := by unfold ab; rw [if_neg h]
    rw [e]
    go_enter Try.func20, Try.ntmps20
    go_wp2_with fail
    go_ret
    exact ⟨rfl, rfl⟩

set_option maxRecDepth 100000 in
set_option maxHeartbeats 8000000 in
theorem lawThroughput_any (A : Option Addr) (n c : Nat) (bs : List Int) (w : World) (h : Bytes w A n c bs) :
    Calls Try.prog 3 #[.slice A n c] w fun e w' => e = .returned (.bool true) ∧ Below w.heap.size w w' := by
  by_cases hbig : 4096 < n
  · have hb' : decide (4096 < n) = true := by simp [hbig]
    go_enter Try.func3, Try.ntmps3
    go_wp2_with fail
    refine (big_any _ _ _ _).mono ?_
    rintro e w' ⟨rfl, rfl⟩
    rw [hb']
    go_wp2_with fail
    go_ret
    exact ⟨rfl, Below.refl _ _⟩
  · have hb' : decide (4096 < n) = false := by simp [hbig]
    go_enter Try.func3, Try.ntmps3
    go_wp2_with fail
    refine (big_any _ _ _ _).mono ?_
    rintro e w' ⟨rfl, rfl⟩
    rw [hb']
    go_wp2_with fail
    refine (DrawThroughputOf_any _ _ _ _ _ h).mono ?_
    rintro e w1 ⟨An, k, cn, Ap, m, cp, ns, ps, Al, L, cl, zs, rfl, hd, hz, _, hk, hm, hL, b1⟩
    have bx1 : BX (w1.alloc (.cells #[.slice An k cn, .slice Ap m cp] 27)) w1.heap.size An k cn Ap m cp := ⟨heap_alloc_new w1 _⟩
    have hn1 : NetAt (w1.alloc (.cells #[.slice An k cn, .slice Ap m cp] 27)) An k cn Ap m cp ⟨ns, ps⟩ := by
      have := hd.later (bel1 w1 (.cells #[.slice An k cn, .slice Ap m cp] 27))
      exact ⟨this.on.nodes, this.op.pipes⟩
    have hz1 := hz.later (bel1 w1 (.cells #[.slice An k cn, .slice Ap m cp] 27))
    have t1 := below_step b1 (bel1 w1 (.cells #[.slice An k cn, .slice Ap m cp] 27))
    obtain ⟨net, hnet⟩ : ∃ net : Net, (⟨ns, ps⟩ : Net) = net := ⟨_, rfl⟩
    rw [hnet] at hn1
    have hT := fun A n c B m d C l e w h0 h1 => implThroughputOf_any A n c B m d net C l e zs w h0 h1
    have hS := fun A n c B m d C l e w h0 h1 => specThroughputOf_any A n c B m d net C l e zs w h0 h1
    have hE := fun A n c B m d C l e w h0 h1 => specIsEven_any A n c B m d net C l e zs w h0 h1
    have hlaw : Hid ((rThroughputOf net zs).2 = 0 → rIsEven net zs = true → 2 * (rThroughputOf net zs).1 = sumTo (fun j => ab (ig zs j)) zs.length ∧ ∀ j, -30000 ≤ ig zs j ∧ ig zs j ≤ 30000) := Lib.hid (fun h1 h2 => by
      unfold rIsEven at h2
      simp only [Bool.and_eq_true] at h2
      have e : codeS net zs = 0 := by unfold codeS; rw [h2.1.1, h2.1.2]; rfl
      have e2 : rThroughputOf net zs = (thr zs zs.length, 0) := by unfold rThroughputOf; rw [if_pos e]
      rw [e2]
      exact ⟨thr_law h2.1.1 h2.1.2 h2.2, supB_all h2.1.2⟩)
    generalize (rThroughputOf net zs).1 = R at *
    generalize (rThroughputOf net zs).2 = K at *
    generalize rIsEven net zs = E at *
    have HT := Lib.hid hT
    have HS := Lib.hid hS
    have HE := Lib.hid hE
    clear hd hz b1 hT hS hE hnet
    go_wp2_with fail
    refine (HT.out _ _ _ _ _ _ _ _ _ _ hn1 hz1.ints).mono ?_
    rintro e w2 ⟨rfl, b2⟩
    have bx2 := bx1.step b2
    have hn2 := hn1.later b2
    have hz2 := hz1.later b2
    have t2 := below_step t1 b2
    clear bx1 hn1 hz1 t1 b2
    have k0 := bx2.c0
    have k1 := bx2.c1
    go_wp2_with fail
    refine (HS.out _ _ _ _ _ _ _ _ _ _ hn2 hz2.ints).mono ?_
    rintro e w3 ⟨rfl, b3⟩
    have bx3 := bx2.step b3
    have hn3 := hn2.later b3
    have hz3 := hz2.later b3
    have t3 := below_step t2 b3
    clear bx2 hn2 hz2 t2 b3 k0 k1
    have k0 := bx3.c0
    have k1 := bx3.c1
    by_cases hK : K = 0
    · subst hK
      rcases E with _ | _
      · go_wp2_with (go_at_call 19; refine (HE.out _ _ _ _ _ _ _ _ _ _ hn3 hz3.ints).mono ?_; rintro e w4 ⟨rfl, b4⟩)
        go_ret
        exact ⟨rfl, below_step t3 b4⟩
      · obtain ⟨hl, hr⟩ := hlaw.out rfl rfl
        have HL := Lib.hid hl
        have HZ := Lib.hid hz3.len
        have hb20 : ∀ j, j ≤ 20 → 0 ≤ sumTo (fun j => ab (ig zs j)) j ∧ sumTo (fun j => ab (ig zs j)) j ≤ 600000 := fun j hj => by
          have := sumTo_le (f := fun j => ab (ig zs j)) (k := j) (N := 20) (M := 30000) (by omega) hj fun i _ => by
            have := hr i
            show -30000 ≤ ab (ig zs i) ∧ ab (ig zs i) ≤ 30000
            unfold ab; split <;> omega
          have h0 : 0 ≤ sumTo (fun j => ab (ig zs j)) j := by
            clear this
            induction j with
            | zero => exact Int.le_refl _
            | succ j ih => rw [sumTo_succ]; have := ih (by omega); have := ab_nn (ig zs j); omega
          exact ⟨h0, by omega⟩
        clear hl
        go_wp2_with (go_at_call 19; refine (HE.out _ _ _ _ _ _ _ _ _ _ hn3 hz3.ints).mono ?_; rintro e w4 ⟨rfl, b4⟩)
        go_loopw [9, 10] (fun s i wr => ∃ j : Nat, j ≤ L ∧ s = .int .i64 (sumTo (fun j => ab (ig zs j)) j) ∧ i = .int .i64 j ∧ Below w4.heap.size w4 wr) (fun _ i _ => L - (intOf i).toNat)
        case atStart => exact ⟨0, by omega, rfl, rfl, Below.refl _ _⟩
        case round =>
          obtain ⟨j, hj, rfl, rfl, hb⟩ := hrel
          have hbj := hb20 j (by omega)
          by_cases hlt : j < L
          · have oz := (hz3.later b4).later hb
            obtain ⟨ga, rfl, hga⟩ := oz.pos (by omega)
            have cz := oz.cell hlt
            have hrj := hr j
            have hbj2 := hb20 (j + 1) (by omega)
            have HSJ : Hid (sumTo (fun j => ab (ig zs j)) (j + 1) = sumTo (fun j => ab (ig zs j)) j + ab (ig zs j)) := Lib.hid (sumTo_succ _ _)
            rw [HSJ.out] at hbj2
            go_wp2_with fail
            refine (size_any _ _ ⟨by omega, by omega⟩).mono ?_
            rintro e w' ⟨rfl, rfl⟩
            go_wp2_with fail
            go_roundw
            case rel => exact ⟨j + 1, by omega, by rw [HSJ.out], by go_num, hb⟩
            case measure => simp [intOf]; omega
          · have hjL : L = j := by omega
            have hbR : 2 * R = sumTo (fun j => ab (ig zs j)) j := by rw [HL.out, HZ.out, hjL]
            generalize sumTo (fun j => ab (ig zs j)) j = T at *
            have hT : T = 2 * R := hbR.symm
            subst hT
            clear hjL hbR
            go_wp2_with fail
            go_ret
            exact ⟨by simp, below_step (below_step t3 b4) hb⟩
    · have hK' : (K != 0) = true := by simp [hK]
      go_wp2_with fail
      go_ret
      exact ⟨rfl, t3⟩

end Go.Proofs.Ytioiebjgjimeiaa
