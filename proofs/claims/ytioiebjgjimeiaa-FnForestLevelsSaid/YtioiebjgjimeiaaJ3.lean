/- OverLimit -/
import Derived.Test.YtioiebjgjimeiaaJ4
import Derived.Test.YtioiebjgjimeiaaI7
namespace Go.Proofs.Ytioiebjgjimeiaa
open Go.RowKit

def ovB (net : Net) (zs : List Int) (i : Nat) : Bool := decide ((pp net.pipes i).lim < ab (ig zs i))
def ovK (net : Net) (zs : List Int) (k : Nat) : List Nat := (List.range k).filter (ovB net zs)
theorem filt_succ (p : Nat → Bool) (k : Nat) : (List.range (k + 1)).filter p = if p k then (List.range k).filter p ++ [k] else (List.range k).filter p := by
  rw [List.range_succ, List.filter_append]
  by_cases h : p k = true
  · simp [h]
  · simp [h]
theorem filt_len (p : Nat → Bool) (k : Nat) : ((List.range k).filter p).length ≤ k := by
  have := List.length_filter_le p (List.range k)
  simpa using this
def rOverLimit (net : Net) (zs : List Int) : List Int × Int := if codeF net zs = 0 then (nl (ovK net zs net.pipes.length), 0) else ([], codeF net zs)
theorem rOverLimit_len (net : Net) (zs : List Int) (_h : zs.length ≤ 1048576) : (rOverLimit net zs).1.length ≤ 1048576 := by
  unfold rOverLimit
  by_cases hz0 : codeF net zs = 0
  · rw [if_pos hz0]
    have := netB_sizes (codeF_zero hz0).1
    have h2 := filt_len (ovB net zs) net.pipes.length
    show (nl (ovK net zs net.pipes.length)).length ≤ _
    rw [nl_len]; unfold ovK; omega
  · rw [if_neg hz0]; simp
theorem push_filt {w0 wr wx w3 : World} {A5 A3 : Option Addr} {c3 : Nat} {p : Nat → Bool} {k : Nat} {o : Obj} (hp : p k = true) (fo : Fresh w0.heap.size A5) (hb : Below w0.heap.size w0 wx) (_hx : Below wr.heap.size wr wx)
    (hg3 : (wx.alloc o).grownBy w3 (A5.map (·.block))) (hb3 : A3.map (·.block) = A5.map (·.block) ∨ A3.map (·.block) = some (wx.alloc o).heap.size) (ho3 : Own w3 A3 (((List.range k).filter p).length + 1) c3 (nl ((List.range k).filter p) ++ [(k : Int)])) :
    Own w3 A3 ((List.range (k + 1)).filter p).length c3 (nl ((List.range (k + 1)).filter p)) ∧ Fresh w0.heap.size A3 ∧ Below w0.heap.size w0 w3 ∧ ((List.range (k + 1)).filter p).length = ((List.range k).filter p).length + 1 := by
  have t2 := below_step hb (bel1 wx o)
  have e : (List.range (k + 1)).filter p = (List.range k).filter p ++ [k] := by rw [filt_succ, if_pos hp]
  have hl : ((List.range (k + 1)).filter p).length = ((List.range k).filter p).length + 1 := by rw [e]; simp
  refine ⟨?_, fresh_app fo t2.size hb3, below_app t2 fo hg3, hl⟩
  rw [hl, e, nl_snoc]; exact ho3

theorem cell_newd (w : World) (o : Obj) (q : Nat) (v : Value) (T : TypeId) : (((w.alloc o).drewN q).alloc (.cells #[v] T)).cell? ⟨w.heap.size + 1, 0, none⟩ = some v := by
  rw [← size_alloc1 w o]; exact cell_new1 ((w.alloc o).drewN q) v T
theorem cell_newd0 (w : World) (q : Nat) (v : Value) (T : TypeId) : ((w.drewN q).alloc (.cells #[v] T)).cell? ⟨w.heap.size, 0, none⟩ = some v := cell_new1 (w.drewN q) v T

end Go.Proofs.Ytioiebjgjimeiaa

/- ForestLevels, MiddleLevel, TightNodes -/
namespace Go.Proofs.Ytioiebjgjimeiaa
open Go.RowKit

set_option maxHeartbeats 2000000 in
theorem implForestLevels_any (A : Option Addr) (n c : Nat) (B : Option Addr) (m d : Nat) (net : Net) (C : Option Addr) (l e : Nat) (zs : List Int) (root : Int) (level : Int) (w : World) (h : NetAt w A n c B m d net) (hz : Ints w C l e zs) (hroot : I64 root) (_hlevel : I64 level) :
    Calls Try.prog 53 #[.agg #[.slice A n c, .slice B m d], .slice C l e, .int .i64 root, .int .i64 level] w fun e w' => RetLI w (rForestLevels net zs root level) e w' := by
  have HB := Lib.hid (bel1 w (.cells #[.slice A n c, .slice B m d] 27))
  have hnl := h.nodes.len
  by_cases h0 : codeT net zs level [root] = 0
  · obtain ⟨hv, hs, hA, hLv, hC⟩ := codeT_zero h0
    rw [allB_one, hnl] at hA
    obtain ⟨rt, rfl, hrn⟩ := inB_nat hA
    have hlim := levB_lim hLv
    have hn24 := (netB_sizes hv).2.1
    rw [hnl] at hn24
    have HR : Hid (rForestLevels net zs rt level = (levL net zs rt level, 0)) := Lib.hid (by unfold rForestLevels; rw [if_pos h0, Int.toNat_natCast])
    go_enter Try.func53, Try.ntmps53
    go_wp2_with fail
    refine (checkForest_is _ _ _ _ _ _ net _ _ _ zs level _ _ _ [(rt : Int)] _ _ (h.later (bel2 w (.cells #[.slice A n c, .slice B m d] 27) (.cells #[.int .i64 rt] 2))) (hz.later (bel2 w (.cells #[.slice A n c, .slice B m d] 27) (.cells #[.int .i64 rt] 2))) (ints_lit1 w (.cells #[.slice A n c, .slice B m d] 27) hroot) h0).mono ?_
    rintro e w1 ⟨rfl, b1⟩
    have t1 := below_step (bel2 w (.cells #[.slice A n c, .slice B m d] 27) (.cells #[.int .i64 rt] 2)) b1
    have s1 := below_step (bel1 (w.alloc (.cells #[.slice A n c, .slice B m d] 27)) (.cells #[.int .i64 rt] 2)) b1
    obtain ⟨k0, k1⟩ := box_cells s1
    go_wp2_with fail
    refine (forestLevels_any _ _ _ _ _ _ net _ _ _ zs rt level _ (h.later t1) (hz.later t1) hv hs hrn hlim).mono ?_
    rintro e w2 ⟨Al, rfl, ol, fl, b2⟩
    clear k0 k1
    have t2 := below_step t1 b2
    have s2 := below_step s1 b2
    obtain ⟨k0, k1⟩ := box_cells s2
    go_wp2_with fail
    go_ret2
    exact retLI_own rfl HR.out ol (fresh_up fl t1.size) t2
  · obtain ⟨k, hk⟩ : ∃ k, codeT net zs level [root] = k := ⟨_, rfl⟩
    rw [hk] at h0
    have hne : (k != 0) = true := by simp [h0]
    have HR : Hid (rForestLevels net zs root level = ([], k)) := Lib.hid (by unfold rForestLevels; rw [hk, if_neg h0])
    go_enter Try.func53, Try.ntmps53
    go_wp2_with fail
    refine (checkForest_is _ _ _ _ _ _ net _ _ _ zs level _ _ _ [root] _ _ (h.later (bel2 w (.cells #[.slice A n c, .slice B m d] 27) (.cells #[.int .i64 root] 2))) (hz.later (bel2 w (.cells #[.slice A n c, .slice B m d] 27) (.cells #[.int .i64 root] 2))) (ints_lit1 w (.cells #[.slice A n c, .slice B m d] 27) hroot) hk).mono ?_
    rintro e w1 ⟨rfl, b1⟩
    have t1 := below_step (bel2 w (.cells #[.slice A n c, .slice B m d] 27) (.cells #[.int .i64 root] 2)) b1
    have s1 := below_step (bel1 (w.alloc (.cells #[.slice A n c, .slice B m d] 27)) (.cells #[.int .i64 root] 2)) b1
    obtain ⟨k0, k1⟩ := box_cells s1
    go_wp2_with fail
    go_ret2
    exact retLI_nil rfl HR.out t1

theorem specForestLevels_any' (A : Option Addr) (n c : Nat) (B : Option Addr) (m d : Nat) (net : Net) (C : Option Addr) (l e : Nat) (zs : List Int) (root level : Int) (w : World) (h : NetAt w A n c B m d net) (hz : Ints w C l e zs) (_hroot : I64 root) (_hlevel : I64 level) :
    Calls Try.prog 54 #[.agg #[.slice A n c, .slice B m d], .slice C l e, .int .i64 root, .int .i64 level] w fun e w' => RetLI w (rForestLevels net zs root level) e w' := specForestLevels_any A n c B m d net C l e zs root level w h hz
theorem rForestLevels_len (net : Net) (zs : List Int) (root level : Int) (_h : zs.length ≤ 1048576) : (rForestLevels net zs root level).1.length ≤ 1048576 := by
  unfold rForestLevels
  by_cases h0 : codeT net zs level [root] = 0
  · rw [if_pos h0]
    have := netB_sizes (codeT_zero h0).1
    show (levL _ _ _ _).length ≤ _
    rw [levL_len]; omega
  · rw [if_neg h0]; simp

/-! ### MiddleLevel -/
def rMiddleLevel (net : Net) (zs : List Int) (root : Int) : Int × Int := if (rRootRange net zs root).2.2 = 0 then (((rRootRange net zs root).1 + (rRootRange net zs root).2.1) / 2, 0) else (0, (rRootRange net zs root).2.2)
theorem rRootRange_lim (net : Net) (zs : List Int) (root : Int) : -43200000000000 ≤ (rRootRange net zs root).1 ∧ (rRootRange net zs root).1 ≤ 43200100000000 ∧ -43200000000000 ≤ (rRootRange net zs root).2.1 ∧ (rRootRange net zs root).2.1 ≤ 43200100000000 := by
  unfold rRootRange
  by_cases h0 : codeT net zs 0 [root] = 0
  · rw [if_pos h0]
    obtain ⟨hv, hs, _⟩ := codeT_zero h0
    have h1 := rlo_bnd (root := root.toNat) hv hs (net.nodes.length - 1)
    have h2 := rhi_bnd (root := root.toNat) hv hs (net.nodes.length - 1)
    unfold rngR
    split
    · exact ⟨by decide, by decide, by decide, by decide⟩
    · exact ⟨h1.1, h1.2, h2.1, h2.2⟩
  · rw [if_neg h0]; exact ⟨by simp, by simp, by simp, by simp⟩
theorem fdiv2 (s : Int) : (if s.tmod 2 < 0 then s.tdiv 2 - 1 else s.tdiv 2) = s / 2 := by
  have h1 := Int.tmod_add_mul_tdiv s 2
  have h2 : -2 < s.tmod 2 ∧ s.tmod 2 < 2 := by
    have := Int.tmod_lt_of_pos s (b := 2) (by decide)
    have h3 : -s.tmod 2 < 2 := by rw [← Int.neg_tmod]; exact Int.tmod_lt_of_pos (-s) (by decide)
    omega
  have h3 : 0 ≤ s → 0 ≤ s.tmod 2 := fun h => Int.tmod_nonneg 2 h
  have h4 : s ≤ 0 → s.tmod 2 ≤ 0 := fun h => by
    have : 0 ≤ (-s).tmod 2 := Int.tmod_nonneg 2 (by omega)
    rw [Int.neg_tmod] at this
    omega
  split <;> omega

/-! ### TightNodes -/
def tgB (net : Net) (L : List Int) (i : Nat) : Bool := decide (ig L i = ndl net i) || decide (ig L i = ndh net i)
def tgK (net : Net) (L : List Int) (k : Nat) : List Nat := (List.range k).filter (tgB net L)
def rTightNodes (net : Net) (zs : List Int) (root level : Int) : List Int × Int := if codeT net zs level [root] = 0 then (nl (tgK net (levL net zs root.toNat level) net.nodes.length), 0) else ([], codeT net zs level [root])
theorem rTightNodes_len (net : Net) (zs : List Int) (root level : Int) (_h : zs.length ≤ 1048576) : (rTightNodes net zs root level).1.length ≤ 1048576 := by
  unfold rTightNodes
  by_cases h0 : codeT net zs level [root] = 0
  · rw [if_pos h0]
    have := netB_sizes (codeT_zero h0).1
    have h2 := filt_len (tgB net (levL net zs root.toNat level)) net.nodes.length
    show (nl (tgK _ _ _)).length ≤ _
    rw [nl_len]; unfold tgK; omega
  · rw [if_neg h0]; simp

end Go.Proofs.Ytioiebjgjimeiaa
