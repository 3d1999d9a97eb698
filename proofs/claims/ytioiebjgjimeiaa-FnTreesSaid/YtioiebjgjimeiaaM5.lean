/- TreeLevels -/
import Derived.Test.YtioiebjgjimeiaaM4
import Derived.Test.YtioiebjgjimeiaaI4
namespace Go.Proofs.Ytioiebjgjimeiaa
open Go.RowKit

noncomputable def rTL (net : Net) (zs : List Int) (root level : Int) : List Int × Int := if (rTF net zs).2 = 0 then (levL net (ffL net zs) root.toNat level, 0) else ([], (rTF net zs).2)
noncomputable def rTreeLevels (net : Net) (zs : List Int) (root level : Int) : List Int × Int := if codeS net zs = 0 then (if inB root 0 ((net.nodes.length : Int) - 1) then (if levB level then rTL net zs root level else ([], 2)) else ([], 2)) else ([], codeS net zs)
theorem rTF_zero {net : Net} {zs : List Int} (h : (rTF net zs).2 = 0) : treeB net = true ∧ evB net zs = true ∧ flowB net (ffL net zs) = true ∧ rTF net zs = (ffL net zs, 0) := by
  rw [flowB_ffL]
  unfold rTF rFF at h ⊢
  cases h1 : treeB net <;> cases h2 : evB net zs <;> cases h3 : allB (ffL net zs) (-30000) 30000 <;> rw [h1, h2, h3] at h <;> simp at h ⊢
theorem rTF_bad {net : Net} {zs : List Int} (h : (rTF net zs).2 ≠ 0) : rTF net zs = ([], (rTF net zs).2) := by
  unfold rTF rFF at h ⊢
  cases h1 : treeB net <;> cases h2 : evB net zs <;> cases h3 : allB (ffL net zs) (-30000) 30000 <;> rw [h1, h2, h3] at h <;> simp at h ⊢
theorem treeB_conn {net : Net} (h : treeB net = true) : (netG net).conn = true := by unfold treeB at h; simp at h; exact h.1
theorem rTreeLevels_len (net : Net) (zs : List Int) (root level : Int) (_h : zs.length ≤ 1048576) : (rTreeLevels net zs root level).1.length ≤ 1048576 := by
  unfold rTreeLevels rTL
  by_cases h0 : codeS net zs = 0
  · rw [if_pos h0]
    have := netB_sizes (codeS_zero h0).1
    split
    · split
      · split
        · show (levL _ _ _ _).length ≤ _
          rw [levL_len]; omega
        · simp
      · simp
    · simp
  · rw [if_neg h0]; simp

set_option maxRecDepth 100000 in
set_option maxHeartbeats 2000000 in
theorem implTreeLevels_any (A : Option Addr) (n c : Nat) (B : Option Addr) (m d : Nat) (net : Net) (C : Option Addr) (l e : Nat) (zs : List Int) (root : Int) (level : Int) (w : World) (h : NetAt w A n c B m d net) (hz : Ints w C l e zs) (_hroot : I64 root) (_hlevel : I64 level) :
    Calls Try.prog 41 #[.agg #[.slice A n c, .slice B m d], .slice C l e, .int .i64 root, .int .i64 level] w fun e w' => RetLI w (rTreeLevels net zs root level) e w' := by
  have HB := Lib.hid (bel1 w (.cells #[.slice A n c, .slice B m d] 27))
  have hnl := h.nodes.len
  have hnle : n ≤ 9223372036854775807 := by have := h.nodes.le; have := h.nodes.cap; omega
  by_cases h0 : codeS net zs = 0
  · obtain ⟨hv, hs⟩ := codeS_zero h0
    have HET : Hid (rTF net zs = rTF net zs) := Lib.hid (by rfl)
    rcases hb1 : inB root 0 ((n : Int) - 1) with _ | _
    · have HR : Hid (rTreeLevels net zs root level = ([], 2)) := Lib.hid (by unfold rTreeLevels; rw [if_pos h0, hnl, hb1]; rfl)
      go_enter Try.func41, Try.ntmps41
      go_wp2_with fail
      refine (checkSupplies_is _ _ _ _ _ _ _ _ _ net zs _ _ (h.later HB.out) (hz.later HB.out) h0).mono ?_
      rintro e w1 ⟨rfl, b1⟩
      have t1 := below_step HB.out b1
      have s1 := b1
      obtain ⟨k0, k1⟩ := box_cells s1
      go_wp2_with fail
      refine (isNodeOf_is _ _ _ _ _ _ root _ _ hnle hb1).mono ?_
      rintro e w2 ⟨rfl, b2⟩
      clear k0 k1
      have t2 := below_step t1 b2
      have s2 := below_step s1 b2
      obtain ⟨k0, k1⟩ := box_cells s2
      go_wp2_with fail
      go_ret2
      exact retLI_nil rfl HR.out t2
    · rcases hL : levB level with _ | _
      · have HR : Hid (rTreeLevels net zs root level = ([], 2)) := Lib.hid (by unfold rTreeLevels; rw [if_pos h0, hnl, hb1, hL]; rfl)
        go_enter Try.func41, Try.ntmps41
        go_wp2_with fail
        refine (checkSupplies_is _ _ _ _ _ _ _ _ _ net zs _ _ (h.later HB.out) (hz.later HB.out) h0).mono ?_
        rintro e w1 ⟨rfl, b1⟩
        have t1 := below_step HB.out b1
        have s1 := b1
        obtain ⟨k0, k1⟩ := box_cells s1
        go_wp2_with fail
        refine (isNodeOf_is _ _ _ _ _ _ root _ _ hnle hb1).mono ?_
        rintro e w2 ⟨rfl, b2⟩
        clear k0 k1
        have t2 := below_step t1 b2
        have s2 := below_step s1 b2
        obtain ⟨k0, k1⟩ := box_cells s2
        go_wp2_with fail
        refine (isLevel_is _ _ _ hL).mono ?_
        rintro e w' ⟨rfl, rfl⟩
        clear k0 k1
        obtain ⟨k0, k1⟩ := box_cells s2
        go_wp2_with fail
        go_ret2
        exact retLI_nil rfl HR.out t2
      · obtain ⟨rt, rfl, hrn⟩ := inB_nat hb1
        have hlim := levB_lim hL
        by_cases hk : (rTF net zs).2 = 0
        · obtain ⟨hTr, hE, hff, hT⟩ := rTF_zero hk
          have hcn := treeB_conn hTr
          have HR : Hid (rTreeLevels net zs rt level = (levL net (ffL net zs) rt level, 0)) := Lib.hid (by unfold rTreeLevels rTL; rw [if_pos h0, hnl, hb1, hL, if_pos hk, Int.toNat_natCast]; rfl)
          clear hk hTr hE
          go_enter Try.func41, Try.ntmps41
          go_wp2_with fail
          refine (checkSupplies_is _ _ _ _ _ _ _ _ _ net zs _ _ (h.later HB.out) (hz.later HB.out) h0).mono ?_
          rintro e w1 ⟨rfl, b1⟩
          have t1 := below_step HB.out b1
          have s1 := b1
          obtain ⟨k0, k1⟩ := box_cells s1
          go_wp2_with fail
          refine (isNodeOf_is _ _ _ _ _ _ rt _ _ hnle hb1).mono ?_
          rintro e w2 ⟨rfl, b2⟩
          clear k0 k1
          have t2 := below_step t1 b2
          have s2 := below_step s1 b2
          obtain ⟨k0, k1⟩ := box_cells s2
          go_wp2_with fail
          refine (isLevel_is _ _ _ hL).mono ?_
          rintro e w' ⟨rfl, rfl⟩
          clear k0 k1
          obtain ⟨k0, k1⟩ := box_cells s2
          go_wp2_with fail
          refine (treeFlows_any _ _ _ _ _ _ net _ _ _ zs _ (h.later t2) (hz.later t2) h0).mono ?_
          rintro e w4 ⟨Ax, cx, rfl, ox, fx, b4⟩
          clear k0 k1
          have t4 := below_step t2 b4
          have s4 := below_step s2 b4
          obtain ⟨k0, k1⟩ := box_cells s4
          simp only [hT] at ox ⊢
          go_wp2_with fail
          refine (forestLevels_any _ _ _ _ _ _ net _ _ _ (ffL net zs) rt level _ (h.later t4) ox.ints hv hff hrn hlim).mono ?_
          rintro e w5 ⟨Al, rfl, ol, fl, b5⟩
          clear k0 k1
          have t5 := below_step t4 b5
          have s5 := below_step s4 b5
          obtain ⟨k0, k1⟩ := box_cells s5
          go_wp2_with fail
          go_ret2
          exact retLI_own rfl HR.out ol (fresh_up fl t4.size) t5
        · have HR0 : Hid (rTreeLevels net zs rt level = ([], (rTF net zs).2)) := Lib.hid (by unfold rTreeLevels rTL; rw [if_pos h0, hnl, hb1, hL, if_neg hk]; rfl)
          have hT := rTF_bad hk
          obtain ⟨k, hk2⟩ : ∃ k, (rTF net zs).2 = k := ⟨_, rfl⟩
          rw [hk2] at hT hk
          have HR : Hid (rTreeLevels net zs rt level = ([], k)) := Lib.hid (by rw [HR0.out, hk2])
          have hne : (k != 0) = true := by simp [hk]
          have hT2 := hT
          clear hk2 hk HR0
          go_enter Try.func41, Try.ntmps41
          go_wp2_with fail
          refine (checkSupplies_is _ _ _ _ _ _ _ _ _ net zs _ _ (h.later HB.out) (hz.later HB.out) h0).mono ?_
          rintro e w1 ⟨rfl, b1⟩
          have t1 := below_step HB.out b1
          have s1 := b1
          obtain ⟨k0, k1⟩ := box_cells s1
          go_wp2_with fail
          refine (isNodeOf_is _ _ _ _ _ _ rt _ _ hnle hb1).mono ?_
          rintro e w2 ⟨rfl, b2⟩
          clear k0 k1
          have t2 := below_step t1 b2
          have s2 := below_step s1 b2
          obtain ⟨k0, k1⟩ := box_cells s2
          go_wp2_with fail
          refine (isLevel_is _ _ _ hL).mono ?_
          rintro e w' ⟨rfl, rfl⟩
          clear k0 k1
          obtain ⟨k0, k1⟩ := box_cells s2
          go_wp2_with fail
          refine (treeFlows_any _ _ _ _ _ _ net _ _ _ zs _ (h.later t2) (hz.later t2) h0).mono ?_
          rintro e w4 ⟨Ax, cx, rfl, ox, fx, b4⟩
          clear k0 k1
          have t4 := below_step t2 b4
          have s4 := below_step s2 b4
          obtain ⟨k0, k1⟩ := box_cells s4
          simp only [hT2] at ox ⊢
          go_wp2_with fail
          go_ret2
          exact retLI_nil rfl HR.out t4
  · obtain ⟨k, hk⟩ : ∃ k, codeS net zs = k := ⟨_, rfl⟩
    rw [hk] at h0
    have hne : (k != 0) = true := by simp [h0]
    have hne2 : (k == 0) = false := by simp [h0]
    have HR : Hid (rTreeLevels net zs root level = ([], k)) := Lib.hid (by unfold rTreeLevels; rw [hk, if_neg h0])
    go_enter Try.func41, Try.ntmps41
    go_wp2_with fail
    refine (checkSupplies_is _ _ _ _ _ _ _ _ _ net zs _ _ (h.later HB.out) (hz.later HB.out) hk).mono ?_
    rintro e w1 ⟨rfl, b1⟩
    have t1 := below_step HB.out b1
    have s1 := b1
    obtain ⟨k0, k1⟩ := box_cells s1
    go_wp2_with fail
    go_ret2
    exact retLI_nil rfl HR.out t1

set_option maxRecDepth 100000 in
set_option maxHeartbeats 2000000 in
theorem specTreeLevels_any (A : Option Addr) (n c : Nat) (B : Option Addr) (m d : Nat) (net : Net) (C : Option Addr) (l e : Nat) (zs : List Int) (root : Int) (level : Int) (w : World) (h : NetAt w A n c B m d net) (hz : Ints w C l e zs) (_hroot : I64 root) (_hlevel : I64 level) :
    Calls Try.prog 38 #[.agg #[.slice A n c, .slice B m d], .slice C l e, .int .i64 root, .int .i64 level] w fun e w' => RetLI w (rTreeLevels net zs root level) e w' := by
  have HB := Lib.hid (bel1 w (.cells #[.slice A n c, .slice B m d] 27))
  have hnl := h.nodes.len
  have hnle : n ≤ 9223372036854775807 := by have := h.nodes.le; have := h.nodes.cap; omega
  by_cases h0 : codeS net zs = 0
  · obtain ⟨hv, hs⟩ := codeS_zero h0
    have HET : Hid (rTreeFlows net zs = rTF net zs) := Lib.hid (by unfold rTreeFlows; rw [if_pos h0])
    rcases hb1 : inB root 0 ((n : Int) - 1) with _ | _
    · have HR : Hid (rTreeLevels net zs root level = ([], 2)) := Lib.hid (by unfold rTreeLevels; rw [if_pos h0, hnl, hb1]; rfl)
      go_enter Try.func38, Try.ntmps38
      go_wp2_with fail
      refine (l06Code_is _ _ _ _ _ _ _ _ _ net zs _ _ (h.later HB.out) (hz.later HB.out) h0).mono ?_
      rintro e w1 ⟨rfl, b1⟩
      have t1 := below_step HB.out b1
      have s1 := b1
      obtain ⟨k0, k1⟩ := box_cells s1
      go_wp2_with fail
      refine (l02Node_is _ _ _ _ _ _ root _ _ hnle hb1).mono ?_
      rintro e w2 ⟨rfl, b2⟩
      clear k0 k1
      have t2 := below_step t1 b2
      have s2 := below_step s1 b2
      obtain ⟨k0, k1⟩ := box_cells s2
      go_wp2_with fail
      go_ret2
      exact retLI_nil rfl HR.out t2
    · rcases hL : levB level with _ | _
      · have HR : Hid (rTreeLevels net zs root level = ([], 2)) := Lib.hid (by unfold rTreeLevels; rw [if_pos h0, hnl, hb1, hL]; rfl)
        go_enter Try.func38, Try.ntmps38
        go_wp2_with fail
        refine (l06Code_is _ _ _ _ _ _ _ _ _ net zs _ _ (h.later HB.out) (hz.later HB.out) h0).mono ?_
        rintro e w1 ⟨rfl, b1⟩
        have t1 := below_step HB.out b1
        have s1 := b1
        obtain ⟨k0, k1⟩ := box_cells s1
        go_wp2_with fail
        refine (l02Node_is _ _ _ _ _ _ root _ _ hnle hb1).mono ?_
        rintro e w2 ⟨rfl, b2⟩
        clear k0 k1
        have t2 := below_step t1 b2
        have s2 := below_step s1 b2
        obtain ⟨k0, k1⟩ := box_cells s2
        go_wp2_with fail
        refine (l07Level_is _ _ _ hL).mono ?_
        rintro e w' ⟨rfl, rfl⟩
        clear k0 k1
        obtain ⟨k0, k1⟩ := box_cells s2
        go_wp2_with fail
        go_ret2
        exact retLI_nil rfl HR.out t2
      · obtain ⟨rt, rfl, hrn⟩ := inB_nat hb1
        have hlim := levB_lim hL
        by_cases hk : (rTF net zs).2 = 0
        · obtain ⟨hTr, hE, hff, hT⟩ := rTF_zero hk
          have hcn := treeB_conn hTr
          have HR : Hid (rTreeLevels net zs rt level = (levL net (ffL net zs) rt level, 0)) := Lib.hid (by unfold rTreeLevels rTL; rw [if_pos h0, hnl, hb1, hL, if_pos hk, Int.toNat_natCast]; rfl)
          clear hk hTr hE
          go_enter Try.func38, Try.ntmps38
          go_wp2_with fail
          refine (l06Code_is _ _ _ _ _ _ _ _ _ net zs _ _ (h.later HB.out) (hz.later HB.out) h0).mono ?_
          rintro e w1 ⟨rfl, b1⟩
          have t1 := below_step HB.out b1
          have s1 := b1
          obtain ⟨k0, k1⟩ := box_cells s1
          go_wp2_with fail
          refine (l02Node_is _ _ _ _ _ _ rt _ _ hnle hb1).mono ?_
          rintro e w2 ⟨rfl, b2⟩
          clear k0 k1
          have t2 := below_step t1 b2
          have s2 := below_step s1 b2
          obtain ⟨k0, k1⟩ := box_cells s2
          go_wp2_with fail
          refine (l07Level_is _ _ _ hL).mono ?_
          rintro e w' ⟨rfl, rfl⟩
          clear k0 k1
          obtain ⟨k0, k1⟩ := box_cells s2
          go_wp2_with fail
          refine (specTreeFlows_any _ _ _ _ _ _ net _ _ _ zs _ (h.later t2) (hz.later t2)).mono ?_
          rintro e w4 ⟨Ax, cx, rfl, ox, fx, b4⟩
          clear k0 k1
          have t4 := below_step t2 b4
          have s4 := below_step s2 b4
          obtain ⟨k0, k1⟩ := box_cells s4
          simp only [HET.out, hT] at ox ⊢
          go_wp2_with fail
          refine (l07Levels_any _ _ _ _ _ _ net _ _ _ (ffL net zs) rt level _ (h.later t4) ox.ints hv hff hcn hrn hlim).mono ?_
          rintro e w5 ⟨Al, rfl, ol, fl, b5⟩
          clear k0 k1
          have t5 := below_step t4 b5
          have s5 := below_step s4 b5
          obtain ⟨k0, k1⟩ := box_cells s5
          go_wp2_with fail
          go_ret2
          exact retLI_own rfl HR.out ol (fresh_up fl t4.size) t5
        · have HR0 : Hid (rTreeLevels net zs rt level = ([], (rTF net zs).2)) := Lib.hid (by unfold rTreeLevels rTL; rw [if_pos h0, hnl, hb1, hL, if_neg hk]; rfl)
          have hT := rTF_bad hk
          obtain ⟨k, hk2⟩ : ∃ k, (rTF net zs).2 = k := ⟨_, rfl⟩
          rw [hk2] at hT hk
          have HR : Hid (rTreeLevels net zs rt level = ([], k)) := Lib.hid (by rw [HR0.out, hk2])
          have hne : (k != 0) = true := by simp [hk]
          have hT2 := hT
          clear hk2 hk HR0
          go_enter Try.func38, Try.ntmps38
          go_wp2_with fail
          refine (l06Code_is _ _ _ _ _ _ _ _ _ net zs _ _ (h.later HB.out) (hz.later HB.out) h0).mono ?_
          rintro e w1 ⟨rfl, b1⟩
          have t1 := below_step HB.out b1
          have s1 := b1
          obtain ⟨k0, k1⟩ := box_cells s1
          go_wp2_with fail
          refine (l02Node_is _ _ _ _ _ _ rt _ _ hnle hb1).mono ?_
          rintro e w2 ⟨rfl, b2⟩
          clear k0 k1
          have t2 := below_step t1 b2
          have s2 := below_step s1 b2
          obtain ⟨k0, k1⟩ := box_cells s2
          go_wp2_with fail
          refine (l07Level_is _ _ _ hL).mono ?_
          rintro e w' ⟨rfl, rfl⟩
          clear k0 k1
          obtain ⟨k0, k1⟩ := box_cells s2
          go_wp2_with fail
          refine (specTreeFlows_any _ _ _ _ _ _ net _ _ _ zs _ (h.later t2) (hz.later t2)).mono ?_
          rintro e w4 ⟨Ax, cx, rfl, ox, fx, b4⟩
          clear k0 k1
          have t4 := below_step t2 b4
          have s4 := below_step s2 b4
          obtain ⟨k0, k1⟩ := box_cells s4
          simp only [HET.out, hT2] at ox ⊢
          go_wp2_with fail
          go_ret2
          exact retLI_nil rfl HR.out t4
  · obtain ⟨k, hk⟩ : ∃ k, codeS net zs = k := ⟨_, rfl⟩
    rw [hk] at h0
    have hne : (k != 0) = true := by simp [h0]
    have hne2 : (k == 0) = false := by simp [h0]
    have HR : Hid (rTreeLevels net zs root level = ([], k)) := Lib.hid (by unfold rTreeLevels; rw [hk, if_neg h0])
    go_enter Try.func38, Try.ntmps38
    go_wp2_with fail
    refine (l06Code_is _ _ _ _ _ _ _ _ _ net zs _ _ (h.later HB.out) (hz.later HB.out) hk).mono ?_
    rintro e w1 ⟨rfl, b1⟩
    have t1 := below_step HB.out b1
    have s1 := b1
    obtain ⟨k0, k1⟩ := box_cells s1
    go_wp2_with fail
    go_ret2
    exact retLI_nil rfl HR.out t1

end Go.Proofs.Ytioiebjgjimeiaa
