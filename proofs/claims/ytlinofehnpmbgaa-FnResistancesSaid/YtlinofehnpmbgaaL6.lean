/- the laws FnSplits, FnResistances -/
import Derived.Test.YtlinofehnpmbgaaSp
import Derived.Test.YtlinofehnpmbgaaDr9
namespace Go.Proofs.Ytlinofehnpmbgaa
open Go.RowKit

set_option maxHeartbeats 400000 in
theorem big_any (A : Option Addr) (n c : Nat) (w : World) :
    Calls Try.prog 21 #[.slice A n c] w fun e w' => e = .returned (.bool (decide (4096 < n))) ∧ w = w' := by
  by_cases h : 4096 < n
  · go_enter Try.func21, Try.ntmps21
    go_wp2_with fail
    go_ret
    exact ⟨ret_bool (by simp [h]; omega), rfl⟩
  · go_enter Try.func21, Try.ntmps21
    go_wp2_with fail
    go_ret
    exact ⟨ret_bool (by simp [h]; omega), rfl⟩

theorem sumW_split {zs : List Int} {f d : Int} (hr : Res zs) (h1 : 1 ≤ zs.length) (hn : zs.length ≤ 8) (hf : 0 ≤ f) (hf2 : f ≤ 30000) (hL : Least zs f d) : sumW (splitL zs f d) = f := by
  obtain ⟨a, b⟩ := splitL_ok hr h1 hn hf hf2 hL
  obtain ⟨d0, d1⟩ := hL.bound hr h1 hf hf2
  refine (sumW_eq (B := 1000000000) (by omega) (fun z hz => ?_) (by rw [splitL_len]; omega)).trans a
  obtain ⟨i, hi, rfl⟩ := List.getElem_of_mem hz
  have h3 := b i
  have h4 := ig_drv_bound hr (d := d) (by omega) (by omega) i
  rw [ig_lt hi] at h3
  omega

set_option maxHeartbeats 4000000 in
theorem lawSplits_any (A : Option Addr) (n c : Nat) (bs : List Int) (w : World) (h : Bytes w A n c bs) :
    Calls Try.prog 5 #[.slice A n c] w fun e w' => e = .returned (.bool true) ∧ Below w.heap.size w w' := by
  by_cases hbig : 4096 < n
  · have hb' : decide (4096 < n) = true := by simp [hbig]
    go_enter Try.func5, Try.ntmps5
    go_wp2_with (go_at_call 21; refine (big_any _ _ _ _).mono ?_; rintro e w' ⟨rfl, rfl⟩)
    go_ret
    exact ⟨rfl, Below.refl _ _⟩
  · have hb' : decide (4096 < n) = false := by simp [hbig]
    go_enter Try.func5, Try.ntmps5
    go_wp2_with fail
    refine (big_any _ _ _ _).mono ?_
    rintro e w' ⟨rfl, rfl⟩
    go_wp2_with fail
    refine (DrawSplitFlow_any _ _ _ _ _ h).mono ?_
    rintro e w1 ⟨A1, n1, c1, zs, f, rfl, o1, hn1, hf, b1⟩
    obtain ⟨d, hd0⟩ := isDrop_ex zs f
    have hd := Lib.hid hd0
    clear hd0
    go_wp2_with fail
    refine (implSplit_any _ _ _ _ _ d _ o1.ints hd.out).mono ?_
    rintro e w2 ⟨A2, c2, rfl, o2, f2, b2⟩
    have t2 := below_step b1 b2
    go_wp2_with fail
    refine (specSplit_any _ _ _ _ _ d _ (o1.later b2).ints hd.out).mono ?_
    rintro e w3 ⟨A3, c3, rfl, o3, f3, b3⟩
    have t3 := below_step t2 b3
    have o13 := (o1.later b2).later b3
    have o23 := o2.later b3
    have hee : eqL (splitR zs f d) (splitR zs f d) = true := by simp [eqL]
    by_cases hok : (dropR zs f d).2 = 0
    · obtain ⟨hz, hfb⟩ := dropR_zero hok
      have hL := hd.out hz hfb
      obtain ⟨l1, l8, hr⟩ := codeR_ok hz
      obtain ⟨f0, f1⟩ := inB_iff.1 hfb
      obtain ⟨d0, d1⟩ := hL.bound hr l1 f0 f1
      have E := dropR_ok (d := d) hz hfb
      have hS : splitR zs f d = splitL zs f d := by unfold splitR; rw [if_pos hok]
      have hsl : (splitR zs f d).length = n1 := by rw [hS, splitL_len]; exact o13.len
      have HPART := Lib.hid (splitL_ok hr l1 l8 f0 f1 hL).2
      have HSUM := Lib.hid (sumW_split hr l1 l8 f0 f1 hL)
      have HS := Lib.hid hS
      have hlen1 := Lib.hid o13.len
      have HE := Lib.hid E
      have HSL := Lib.hid hsl
      rw [hok]
      clear hok hfb hz E hS hL
      rw [hsl] at o23 o3 ⊢
      clear hsl
      go_wp2_with fail
      refine (likeInts_any _ _ _ _ _ _ _ _ _ o23.ints o3.ints).mono ?_
      rintro e w4 ⟨rfl, q4, rfl⟩
      have b4 := below_drew (Below.refl w3.heap.size w3) q4
      have t4 := below_step t3 b4
      have o14 := o13.later b4
      have o24 := o23.later b4
      go_wp2_with fail
      refine (implDropFor_any _ _ _ _ _ d _ o14.ints hd.out).mono ?_
      rintro e w5 ⟨rfl, b5⟩
      rw [HE.out]
      have t5 := below_step t4 b5
      have i1 := (o14.later b5).ints
      have i2 := (o24.later b5).ints
      have o25 := o24.later b5
      have hle := i1.le
      have hcap := i1.cap
      clear b4 b5 o14 o24 o13 o23 hee
      go_wp2_with fail
      go_loop [11] (fun i => ∃ j : Nat, j ≤ n1 ∧ i = .int .i64 j) (fun i => n1 - (intOf i).toNat)
      case atStart => exact ⟨0, by omega, rfl⟩
      case round =>
        obtain ⟨j, hj, rfl⟩ := hrel
        by_cases hlt : j < n1
        · obtain ⟨b, off, rfl, hbl, hc⟩ := i1.cells (by omega)
          obtain ⟨b', off', rfl, hbl', hc'⟩ := i2.cells (by omega)
          have hck := hc j hlt
          have hck' := hc' j hlt
          have hjl : j < zs.length := by rw [hlen1.out]; exact hlt
          have hres := hr.at_ hjl
          have HF := Lib.hid (flowFor_yes (k := ig zs j) (d := d) (inB_iff.2 hres) (inB_iff.2 ⟨d0, by omega⟩))
          have hp := HPART.out j
          rw [drv_ig hjl, ← HS.out] at hp
          obtain ⟨p1, p2, p3⟩ := hp
          have hrb := root_bound (d := d) (k := ig zs j) d0 (by omega) hres.1
          obtain ⟨v0, v1⟩ := hrb
          clear hc hc' hjl hres
          go_wp2_with fail
          refine (implFlowFor_any _ _ _).mono ?_
          rintro e w' ⟨rfl, rfl⟩
          rw [HF.out]
          go_wp2_with fail
          go_round
          case rel => exact ⟨j + 1, by omega, by go_num⟩
          case measure => simp [intOf]; omega
        · go_wp2_with fail
          refine (lawsSum_any _ _ _ _ _ i2).mono ?_
          rintro e w' ⟨rfl, rfl⟩
          rw [HS.out, HSUM.out]
          go_wp2_with fail
          go_ret
          exact ⟨rfl, t5⟩
    · have hne : ((dropR zs f d).2 != 0) = true := by simp [hok]
      clear hok
      go_wp2_with fail
      refine (likeInts_any _ _ _ _ _ _ _ _ _ o23.ints o3.ints).mono ?_
      rintro e w4 ⟨rfl, q4, rfl⟩
      go_wp2_with fail
      go_ret
      exact ⟨rfl, below_drew t3 _⟩

theorem best_facts {f d : Int} (h : (best f d).2 = 0) : inB f 0 30000 = true ∧ inB d 0 1000000000000000000 = true ∧ 1 ≤ (best f d).1 ∧ (best f d).1 ≤ 1000 ∧ f ≤ rt (d / (best f d).1) ∧ ((best f d).1 < 1000 → rt (d / ((best f d).1 + 1)) < f) := by
  have h1 : inB f 0 30000 = true ∧ inB d 0 1000000000000000000 = true := by
    unfold best at h
    split at h
    · rename_i hc; simpa using hc
    · simp at h
  obtain ⟨h1, h2⟩ := h1
  obtain ⟨f0, f1⟩ := inB_iff.1 h1
  obtain ⟨d0, d1⟩ := inB_iff.1 h2
  refine ⟨h1, h2, ?_⟩
  by_cases hz : f = 0
  · subst hz
    rw [best_zero h2]
    exact ⟨by simp, by simp, rt_nonneg _, by simp⟩
  · have hff : 0 < f * f := Int.mul_pos (by omega) (by omega)
    have q0 : 0 ≤ d / (f * f) := Int.ediv_nonneg d0 (by omega)
    have e := best_pos h1 h2 (show 1 ≤ f by omega)
    rw [e] at h ⊢
    split at h
    · simp at h
    · rename_i hne
      rw [if_neg hne]
      simp only
      refine ⟨by omega, by omega, ?_, fun hlt => ?_⟩
      · rw [le_rt_iff (by omega) d0 (by omega), Int.mul_comm]
        exact (Int.le_ediv_iff_mul_le hff).1 (by omega)
      · rcases Int.lt_or_le (rt (d / (min 1000 (d / (f * f)) + 1))) f with h' | h'
        · exact h'
        · rw [le_rt_iff (by omega) d0 (by omega), Int.mul_comm] at h'
          have := (Int.le_ediv_iff_mul_le hff).2 h'
          omega

theorem series_le {zs : List Int} {d : Int} (hz : codeR zs = 0) (hd : inB d 0 1000000000000000000 = true) : rt (d / sumW zs) ≤ par zs d := by
  obtain ⟨l1, l8, hr⟩ := codeR_ok hz
  obtain ⟨d0, d1⟩ := inB_iff.1 hd
  have hs : sumW zs = sum0 zs := sumW_eq (B := 1000) (by omega) (fun z hz => by have := hr z hz; omega) (by omega)
  rw [hs, par_eq hr l8 d0 d1]
  cases zs with
  | nil => simp at l1
  | cons z zs =>
    have hz0 := (hr z (List.mem_cons_self ..)).1
    have hn := sum0_nonneg (zs := zs) (fun x hx => by have := hr x (List.mem_cons_of_mem _ hx); omega)
    have b := sum0_nonneg (zs := drv zs d) drv_nonneg
    unfold drv at b
    simp only [drv, List.map_cons, sum0_cons]
    have hdiv : d / (z + sum0 zs) ≤ d / z := by
      have q : 0 ≤ d / (z + sum0 zs) := Int.ediv_nonneg d0 (by omega)
      refine (Int.le_ediv_iff_mul_le (by omega)).2 ?_
      have h1 := Int.ediv_mul_le d (b := z + sum0 zs) (by omega)
      have h2 := Int.mul_le_mul_of_nonneg_left (show z ≤ z + sum0 zs by omega) q
      omega
    have := rt_mono (Int.ediv_nonneg d0 (by omega)) hdiv
    omega

theorem series_fin (zs : List Int) (d : Int) : ((parR zs d).2 != 0) = true ∨ (((parR zs d).2 != 0) = false ∧ (((flowFor (seriesR zs).1 d).2 != 0) = true ∨ (((flowFor (seriesR zs).1 d).2 != 0) = false ∧ (flowFor (seriesR zs).1 d).1 ≤ (parR zs d).1))) := by
  by_cases h1 : (parR zs d).2 = 0
  · refine .inr ⟨by simp [h1], ?_⟩
    have hz : codeR zs = 0 := by
      unfold parR at h1
      split at h1
      · assumption
      · exact absurd h1 ‹_›
    have hd : inB d 0 1000000000000000000 = true := by
      unfold parR at h1
      rw [if_pos hz] at h1
      split at h1
      · assumption
      · simp at h1
    by_cases h2 : (flowFor (seriesR zs).1 d).2 = 0
    · refine .inr ⟨by simp [h2], ?_⟩
      have hs : seriesR zs = (sumW zs, 0) := by unfold seriesR; rw [if_pos hz]
      rw [hs] at h2 ⊢
      rw [parR_ok hz hd]
      have hk : inB (sumW zs) 1 1000 = true := by
        unfold flowFor at h2
        split at h2
        · rename_i hc; simp at hc; exact hc.1
        · simp at h2
      rw [flowFor_yes hk hd]
      exact series_le hz hd
    · exact .inl (by simp [h2])
  · exact .inl (by simp [h1])

set_option maxHeartbeats 4000000 in
theorem lawResistances_any (A : Option Addr) (n c : Nat) (bs : List Int) (w : World) (h : Bytes w A n c bs) :
    Calls Try.prog 4 #[.slice A n c] w fun e w' => e = .returned (.bool true) ∧ Below w.heap.size w w' := by
  by_cases hbig : 4096 < n
  · have hb' : decide (4096 < n) = true := by simp [hbig]
    go_enter Try.func4, Try.ntmps4
    go_wp2_with (go_at_call 21; refine (big_any _ _ _ _).mono ?_; rintro e w' ⟨rfl, rfl⟩)
    go_ret
    exact ⟨rfl, Below.refl _ _⟩
  · have hb' : decide (4096 < n) = false := by simp [hbig]
    go_enter Try.func4, Try.ntmps4
    go_wp2_with fail
    refine (big_any _ _ _ _).mono ?_
    rintro e w' ⟨rfl, rfl⟩
    go_wp2_with fail
    refine (DrawBestResistance_any _ _ _ _ _ h).mono ?_
    rintro e w1 ⟨f, dd, rfl, hf, hdd, b1⟩
    go_wp2_with fail
    refine (implBest_any _ _ _).mono ?_
    rintro e w' ⟨rfl, rfl⟩
    go_wp2_with fail
    refine (specBest_any _ _ _).mono ?_
    rintro e w' ⟨rfl, rfl⟩
    by_cases hok : (best f dd).2 = 0
    · obtain ⟨i1, i2, k1, k2, k3, k4⟩ := best_facts hok
      have HF := Lib.hid (flowFor_yes (k := (best f dd).1) (d := dd) (inB_iff.2 ⟨k1, k2⟩) i2)
      have hG : (best f dd).1 < 1000 → flowFor ((best f dd).1 + 1) dd = (rt (dd / ((best f dd).1 + 1)), 0) := fun hlt => flowFor_yes (inB_iff.2 ⟨by omega, by omega⟩) i2
      have HG := Lib.hid hG
      have K4 := Lib.hid k4
      rw [hok]
      clear hG k4 i1 i2 hok
      generalize (best f dd).1 = k at *
      by_cases hlt : k < 1000
      · have k4' := K4.out hlt
        go_wp2_with fail
        refine (implFlowFor_any _ _ _).mono ?_
        rintro e w' ⟨rfl, rfl⟩
        rw [HF.out]
        go_wp2_with fail
        refine (implFlowFor_any _ _ _).mono ?_
        rintro e w' ⟨rfl, rfl⟩
        rw [HG.out hlt]
        go_wp2_with fail
        refine (DrawParallelFlow_any _ _ _ _ _ (h.later b1)).mono ?_
        rintro e w2 ⟨A2, n2, c2, zs, d, rfl, o2, hn2, hd, b2⟩
        have t2 := below_step b1 b2
        clear HF HG K4
        go_wp2_with fail
        refine (implSeries_any _ _ _ _ _ o2.ints).mono ?_
        rintro e w' ⟨rfl, rfl⟩
        go_wp2_with fail
        refine (specSeries_any _ _ _ _ _ o2.ints).mono ?_
        rintro e w' ⟨rfl, rfl⟩
        go_wp2_with fail
        refine (implParallel_any _ _ _ _ _ _ o2.ints).mono ?_
        rintro e w3 ⟨rfl, b3⟩
        have t3 := below_step t2 b3
        go_wp2_with fail
        refine (specParallel_any _ _ _ _ _ _ (o2.later b3).ints).mono ?_
        rintro e w' ⟨rfl, rfl⟩
        have fin := series_fin zs d
        go_wp2_with fail
        refine (implFlowFor_any _ _ _).mono ?_
        rintro e w' ⟨rfl, rfl⟩
        rcases fin with fin | ⟨fa, fin | ⟨fb, fin⟩⟩
        all_goals
          go_wp2_with fail
          go_ret
          exact ⟨rfl, t3⟩
      · go_wp2_with fail
        refine (implFlowFor_any _ _ _).mono ?_
        rintro e w' ⟨rfl, rfl⟩
        rw [HF.out]
        go_wp2_with fail
        refine (implFlowFor_any _ _ _).mono ?_
        rintro e w' ⟨rfl, rfl⟩
        go_wp2_with fail
        refine (DrawParallelFlow_any _ _ _ _ _ (h.later b1)).mono ?_
        rintro e w2 ⟨A2, n2, c2, zs, d, rfl, o2, hn2, hd, b2⟩
        have t2 := below_step b1 b2
        clear HF HG K4
        go_wp2_with fail
        refine (implSeries_any _ _ _ _ _ o2.ints).mono ?_
        rintro e w' ⟨rfl, rfl⟩
        go_wp2_with fail
        refine (specSeries_any _ _ _ _ _ o2.ints).mono ?_
        rintro e w' ⟨rfl, rfl⟩
        go_wp2_with fail
        refine (implParallel_any _ _ _ _ _ _ o2.ints).mono ?_
        rintro e w3 ⟨rfl, b3⟩
        have t3 := below_step t2 b3
        go_wp2_with fail
        refine (specParallel_any _ _ _ _ _ _ (o2.later b3).ints).mono ?_
        rintro e w' ⟨rfl, rfl⟩
        have fin := series_fin zs d
        go_wp2_with fail
        refine (implFlowFor_any _ _ _).mono ?_
        rintro e w' ⟨rfl, rfl⟩
        rcases fin with fin | ⟨fa, fin | ⟨fb, fin⟩⟩
        all_goals
          go_wp2_with fail
          go_ret
          exact ⟨rfl, t3⟩
    · have hne : ((best f dd).2 == 0) = false := by simp [hok]
      clear hok
      go_wp2_with fail
      refine (DrawParallelFlow_any _ _ _ _ _ (h.later b1)).mono ?_
      rintro e w2 ⟨A2, n2, c2, zs, d, rfl, o2, hn2, hd, b2⟩
      have t2 := below_step b1 b2
      go_wp2_with fail
      refine (implSeries_any _ _ _ _ _ o2.ints).mono ?_
      rintro e w' ⟨rfl, rfl⟩
      go_wp2_with fail
      refine (specSeries_any _ _ _ _ _ o2.ints).mono ?_
      rintro e w' ⟨rfl, rfl⟩
      go_wp2_with fail
      refine (implParallel_any _ _ _ _ _ _ o2.ints).mono ?_
      rintro e w3 ⟨rfl, b3⟩
      have t3 := below_step t2 b3
      go_wp2_with fail
      refine (specParallel_any _ _ _ _ _ _ (o2.later b3).ints).mono ?_
      rintro e w' ⟨rfl, rfl⟩
      have fin := series_fin zs d
      go_wp2_with fail
      refine (implFlowFor_any _ _ _).mono ?_
      rintro e w' ⟨rfl, rfl⟩
      rcases fin with fin | ⟨fa, fin | ⟨fb, fin⟩⟩
      all_goals
        go_wp2_with fail
        go_ret
        exact ⟨rfl, t3⟩

end Go.Proofs.Ytlinofehnpmbgaa
