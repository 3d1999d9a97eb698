/- ForestLevels, MiddleLevel, TightNodes -/
import Derived.Test.YtahmhmicegjdkaaI7
import Derived.Test.YtahmhmicegjdkaaJ2
namespace Go.Proofs.Ytahmhmicegjdkaa
open Go.RowKit

set_option maxHeartbeats 2000000 in
theorem implForestLevels_any (A : Option Addr) (n c : Nat) (B : Option Addr) (m d : Nat) (net : Net) (C : Option Addr) (l e : Nat) (zs : List Int) (root : Int) (level : Int) (w : World) (h : NetAt w A n c B m d net) (hz : Ints w C l e zs) (hroot : I64 root) (_hlevel : I64 level) :
    Calls Try.prog 38 #[.agg #[.slice A n c, .slice B m d], .slice C l e, .int .i64 root, .int .i64 level] w fun e w' => RetLI w (rForestLevels net zs root level) e w' := by
  have HB := Lib.hid (bel1 w (.cells #[.slice A n c, .slice B m d] 32))
  have hnl := h.nodes.len
  by_cases h0 : codeT net zs level [root] = 0
  · obtain ⟨hv, hs, hA, hLv, hC⟩ := codeT_zero h0
    rw [allB_one, hnl] at hA
    obtain ⟨rt, rfl, hrn⟩ := inB_nat hA
    have hlim := levB_lim hLv
    have hn24 := (netB_sizes hv).2.1
    rw [hnl] at hn24
    have HR : Hid (rForestLevels net zs rt level = (levL net zs rt level, 0)) := Lib.hid (by unfold rForestLevels; rw [if_pos h0, Int.toNat_natCast])
    go_enter Try.func38, Try.ntmps38
    go_wp2_with fail
    refine (checkForest_is _ _ _ _ _ _ net _ _ _ zs level _ _ _ [(rt : Int)] _ _ (h.later (bel2 w (.cells #[.slice A n c, .slice B m d] 32) (.cells #[.int .i64 rt] 2))) (hz.later (bel2 w (.cells #[.slice A n c, .slice B m d] 32) (.cells #[.int .i64 rt] 2))) (ints_lit1 w (.cells #[.slice A n c, .slice B m d] 32) hroot) h0).mono ?_
    rintro e w1 ⟨rfl, b1⟩
    have t1 := below_step (bel2 w (.cells #[.slice A n c, .slice B m d] 32) (.cells #[.int .i64 rt] 2)) b1
    have s1 := below_step (bel1 (w.alloc (.cells #[.slice A n c, .slice B m d] 32)) (.cells #[.int .i64 rt] 2)) b1
    obtain ⟨k0, k1⟩ := box_cells s1
    go_wp2_with fail
    refine (forestLevels_any _ _ _ _ _ _ net _ _ _ zs rt level _ (h.later t1) (hz.later t1) hv hs hrn hlim).mono ?_
    rintro e w2 ⟨Al, rfl, ol, fl, b2⟩
    clear k0 k1
    have t2 := below_step t1 b2
    have s2 := below_step s1 b2
    obtain ⟨k0, k1⟩ := box_cells s2
    go_wp2_with fail
    go_ret2
    exact retLI_own rfl HR.out ol (fresh_up fl t1.size) t2
  · obtain ⟨k, hk⟩ : ∃ k, codeT net zs level [root] = k := ⟨_, rfl⟩
    rw [hk] at h0
    have hne : (k != 0) = true := by simp [h0]
    have HR : Hid (rForestLevels net zs root level = ([], k)) := Lib.hid (by unfold rForestLevels; rw [hk, if_neg h0])
    go_enter Try.func38, Try.ntmps38
    go_wp2_with fail
    refine (checkForest_is _ _ _ _ _ _ net _ _ _ zs level _ _ _ [root] _ _ (h.later (bel2 w (.cells #[.slice A n c, .slice B m d] 32) (.cells #[.int .i64 root] 2))) (hz.later (bel2 w (.cells #[.slice A n c, .slice B m d] 32) (.cells #[.int .i64 root] 2))) (ints_lit1 w (.cells #[.slice A n c, .slice B m d] 32) hroot) hk).mono ?_
    rintro e w1 ⟨rfl, b1⟩
    have t1 := below_step (bel2 w (.cells #[.slice A n c, .slice B m d] 32) (.cells #[.int .i64 root] 2)) b1
    have s1 := below_step (bel1 (w.alloc (.cells #[.slice A n c, .slice B m d] 32)) (.cells #[.int .i64 root] 2)) b1
    obtain ⟨k0, k1⟩ := box_cells s1
    go_wp2_with fail
    go_ret2
    exact retLI_nil rfl HR.out t1

theorem specForestLevels_any' (A : Option Addr) (n c : Nat) (B : Option Addr) (m d : Nat) (net : Net) (C : Option Addr) (l e : Nat) (zs : List Int) (root level : Int) (w : World) (h : NetAt w A n c B m d net) (hz : Ints w C l e zs) (_hroot : I64 root) (_hlevel : I64 level) :
    Calls Try.prog 37 #[.agg #[.slice A n c, .slice B m d], .slice C l e, .int .i64 root, .int .i64 level] w fun e w' => RetLI w (rForestLevels net zs root level) e w' := specForestLevels_any A n c B m d net C l e zs root level w h hz
theorem rForestLevels_len (net : Net) (zs : List Int) (root level : Int) (_h : zs.length ≤ 1048576) : (rForestLevels net zs root level).1.length ≤ 1048576 := by
  unfold rForestLevels
  by_cases h0 : codeT net zs level [root] = 0
  · rw [if_pos h0]
    have := netB_sizes (codeT_zero h0).1
    show (levL _ _ _ _).length ≤ _
    rw [levL_len]; omega
  · rw [if_neg h0]; simp

/-! ### MiddleLevel -/
def rMiddleLevel (net : Net) (zs : List Int) (root : Int) : Int × Int := if (rRootRange net zs root).2.2 = 0 then (((rRootRange net zs root).1 + (rRootRange net zs root).2.1) / 2, 0) else (0, (rRootRange net zs root).2.2)
theorem rRootRange_lim (net : Net) (zs : List Int) (root : Int) : -43200000000000 ≤ (rRootRange net zs root).1 ∧ (rRootRange net zs root).1 ≤ 43200100000000 ∧ -43200000000000 ≤ (rRootRange net zs root).2.1 ∧ (rRootRange net zs root).2.1 ≤ 43200100000000 := by
  unfold rRootRange
  by_cases h0 : codeT net zs 0 [root] = 0
  · rw [if_pos h0]
    obtain ⟨hv, hs, _⟩ := codeT_zero h0
    have h1 := rlo_bnd (root := root.toNat) hv hs (net.nodes.length - 1)
    have h2 := rhi_bnd (root := root.toNat) hv hs (net.nodes.length - 1)
    unfold rngR
    split
    · exact ⟨by decide, by decide, by decide, by decide⟩
    · exact ⟨h1.1, h1.2, h2.1, h2.2⟩
  · rw [if_neg h0]; exact ⟨by simp, by simp, by simp, by simp⟩
theorem fdiv2 (s : Int) : (if s.tmod 2 < 0 then s.tdiv 2 - 1 else s.tdiv 2) = s / 2 := by
  have h1 := Int.tmod_add_mul_tdiv s 2
  have h2 : -2 < s.tmod 2 ∧ s.tmod 2 < 2 := by
    have := Int.tmod_lt_of_pos s (b := 2) (by decide)
    have h3 : -s.tmod 2 < 2 := by rw [← Int.neg_tmod]; exact Int.tmod_lt_of_pos (-s) (by decide)
    omega
  have h3 : 0 ≤ s → 0 ≤ s.tmod 2 := fun h => Int.tmod_nonneg 2 h
  have h4 : s ≤ 0 → s.tmod 2 ≤ 0 := fun h => by
    have : 0 ≤ (-s).tmod 2 := Int.tmod_nonneg 2 (by omega)
    rw [Int.neg_tmod] at this
    omega
  split <;> omega

set_option maxHeartbeats 1000000 in
theorem floorDiv_two (s : Int) (w : World) (hs : -9000000000000000000 ≤ s ∧ s ≤ 9000000000000000000) :
    Calls Try.prog 98 #[.int .i64 s, .int .i64 2] w fun e w' => e = .returned (.int .i64 (s / 2)) ∧ w = w' := by
  have HD := Lib.hid (fdiv2 s)
  have h1 := Int.tmod_add_mul_tdiv s 2
  have h2 : -2 < s.tmod 2 ∧ s.tmod 2 < 2 := by
    have := Int.tmod_lt_of_pos s (b := 2) (by decide)
    have h3 : -s.tmod 2 < 2 := by rw [← Int.neg_tmod]; exact Int.tmod_lt_of_pos (-s) (by decide)
    omega
  by_cases hn : s.tmod 2 < 0
  · rw [if_pos hn] at HD
    go_enter Try.func98, Try.ntmps98
    go_wp2_with fail
    go_ret
    exact ⟨ret_int HD.out, rfl⟩
  · rw [if_neg hn] at HD
    go_enter Try.func98, Try.ntmps98
    go_wp2_with fail
    go_ret
    exact ⟨ret_int HD.out, rfl⟩

set_option maxHeartbeats 1000000 in
theorem l01Floor_two (s : Int) (w : World) (hs : -9000000000000000000 ≤ s ∧ s ≤ 9000000000000000000) :
    Calls Try.prog 97 #[.int .i64 s, .int .i64 2] w fun e w' => e = .returned (.int .i64 (s / 2)) ∧ w = w' := by
  have HD := Lib.hid (fdiv2 s)
  have h1 := Int.tmod_add_mul_tdiv s 2
  have h2 : -2 < s.tmod 2 ∧ s.tmod 2 < 2 := by
    have := Int.tmod_lt_of_pos s (b := 2) (by decide)
    have h3 : -s.tmod 2 < 2 := by rw [← Int.neg_tmod]; exact Int.tmod_lt_of_pos (-s) (by decide)
    omega
  by_cases hn : s.tmod 2 < 0
  · rw [if_pos hn] at HD
    go_enter Try.func97, Try.ntmps97
    go_wp2_with fail
    go_ret
    exact ⟨ret_int HD.out, rfl⟩
  · rw [if_neg hn] at HD
    go_enter Try.func97, Try.ntmps97
    go_wp2_with fail
    go_ret
    exact ⟨ret_int HD.out, rfl⟩

set_option maxHeartbeats 2000000 in
theorem implMiddleLevel_any (A : Option Addr) (n c : Nat) (B : Option Addr) (m d : Nat) (net : Net) (C : Option Addr) (l e : Nat) (zs : List Int) (root : Int) (w : World) (h : NetAt w A n c B m d net) (hz : Ints w C l e zs) (hroot : I64 root) :
    Calls Try.prog 40 #[.agg #[.slice A n c, .slice B m d], .slice C l e, .int .i64 root] w fun e w' => e = .returned (.tuple #[.int .i64 (rMiddleLevel net zs root).1, .int .i64 (rMiddleLevel net zs root).2]) ∧ Below w.heap.size w w' := by
  have HB := Lib.hid (bel1 w (.cells #[.slice A n c, .slice B m d] 32))
  have hlim := rRootRange_lim net zs root
  have hrr := fun A n c B m d C l e w h0 h1 => implRootRange_any A n c B m d net C l e zs root w h0 h1 hroot
  have HM : Hid (rMiddleLevel net zs root = if (rRootRange net zs root).2.2 = 0 then (((rRootRange net zs root).1 + (rRootRange net zs root).2.1) / 2, 0) else (0, (rRootRange net zs root).2.2)) := Lib.hid rfl
  generalize (rRootRange net zs root).1 = P at *
  generalize (rRootRange net zs root).2.1 = Q at *
  generalize (rRootRange net zs root).2.2 = K at *
  have HRR := Lib.hid hrr
  clear hrr
  by_cases hK : K = 0
  · subst hK
    have HR : Hid (rMiddleLevel net zs root = ((P + Q) / 2, 0)) := Lib.hid (by rw [HM.out]; rfl)
    clear HM
    go_enter Try.func40, Try.ntmps40
    go_wp2_with fail
    refine (HRR.out _ _ _ _ _ _ _ _ _ _ (h.later HB.out) (hz.later HB.out)).mono ?_
    rintro e w1 ⟨rfl, b1⟩
    have t1 := below_step HB.out b1
    have s1 := b1
    obtain ⟨k0, k1⟩ := box_cells s1
    go_wp2_with fail
    refine (floorDiv_two _ _ (by omega)).mono ?_
    rintro e w' ⟨rfl, rfl⟩
    clear k0 k1
    go_wp2_with fail
    go_ret2
    exact ⟨by rw [HR.out]; rfl, t1⟩
  · have hne : (K != 0) = true := by simp [hK]
    have HR : Hid (rMiddleLevel net zs root = (0, K)) := Lib.hid (by rw [HM.out, if_neg hK])
    clear HM
    go_enter Try.func40, Try.ntmps40
    go_wp2_with fail
    refine (HRR.out _ _ _ _ _ _ _ _ _ _ (h.later HB.out) (hz.later HB.out)).mono ?_
    rintro e w1 ⟨rfl, b1⟩
    have t1 := below_step HB.out b1
    have s1 := b1
    obtain ⟨k0, k1⟩ := box_cells s1
    go_wp2_with fail
    go_ret2
    exact ⟨by rw [HR.out]; rfl, t1⟩

set_option maxHeartbeats 2000000 in
theorem specMiddleLevel_any (A : Option Addr) (n c : Nat) (B : Option Addr) (m d : Nat) (net : Net) (C : Option Addr) (l e : Nat) (zs : List Int) (root : Int) (w : World) (h : NetAt w A n c B m d net) (hz : Ints w C l e zs) (hroot : I64 root) :
    Calls Try.prog 39 #[.agg #[.slice A n c, .slice B m d], .slice C l e, .int .i64 root] w fun e w' => e = .returned (.tuple #[.int .i64 (rMiddleLevel net zs root).1, .int .i64 (rMiddleLevel net zs root).2]) ∧ Below w.heap.size w w' := by
  have HB := Lib.hid (bel1 w (.cells #[.slice A n c, .slice B m d] 32))
  have hlim := rRootRange_lim net zs root
  have hrr := fun A n c B m d C l e w h0 h1 => specRootRange_any A n c B m d net C l e zs root w h0 h1 hroot
  have HM : Hid (rMiddleLevel net zs root = if (rRootRange net zs root).2.2 = 0 then (((rRootRange net zs root).1 + (rRootRange net zs root).2.1) / 2, 0) else (0, (rRootRange net zs root).2.2)) := Lib.hid rfl
  generalize (rRootRange net zs root).1 = P at *
  generalize (rRootRange net zs root).2.1 = Q at *
  generalize (rRootRange net zs root).2.2 = K at *
  have HRR := Lib.hid hrr
  clear hrr
  by_cases hK : K = 0
  · subst hK
    have HR : Hid (rMiddleLevel net zs root = ((P + Q) / 2, 0)) := Lib.hid (by rw [HM.out]; rfl)
    clear HM
    go_enter Try.func39, Try.ntmps39
    go_wp2_with fail
    refine (HRR.out _ _ _ _ _ _ _ _ _ _ (h.later HB.out) (hz.later HB.out)).mono ?_
    rintro e w1 ⟨rfl, b1⟩
    have t1 := below_step HB.out b1
    have s1 := b1
    obtain ⟨k0, k1⟩ := box_cells s1
    go_wp2_with fail
    refine (l01Floor_two _ _ (by omega)).mono ?_
    rintro e w' ⟨rfl, rfl⟩
    clear k0 k1
    go_wp2_with fail
    go_ret2
    exact ⟨by rw [HR.out]; rfl, t1⟩
  · have hne : (K != 0) = true := by simp [hK]
    have HR : Hid (rMiddleLevel net zs root = (0, K)) := Lib.hid (by rw [HM.out, if_neg hK])
    clear HM
    go_enter Try.func39, Try.ntmps39
    go_wp2_with fail
    refine (HRR.out _ _ _ _ _ _ _ _ _ _ (h.later HB.out) (hz.later HB.out)).mono ?_
    rintro e w1 ⟨rfl, b1⟩
    have t1 := below_step HB.out b1
    have s1 := b1
    obtain ⟨k0, k1⟩ := box_cells s1
    go_wp2_with fail
    go_ret2
    exact ⟨by rw [HR.out]; rfl, t1⟩

/-! ### TightNodes -/
def tgB (net : Net) (L : List Int) (i : Nat) : Bool := decide (ig L i = ndl net i) || decide (ig L i = ndh net i)
def tgK (net : Net) (L : List Int) (k : Nat) : List Nat := (List.range k).filter (tgB net L)
def rTightNodes (net : Net) (zs : List Int) (root level : Int) : List Int × Int := if codeT net zs level [root] = 0 then (nl (tgK net (levL net zs root.toNat level) net.nodes.length), 0) else ([], codeT net zs level [root])
theorem rTightNodes_len (net : Net) (zs : List Int) (root level : Int) (_h : zs.length ≤ 1048576) : (rTightNodes net zs root level).1.length ≤ 1048576 := by
  unfold rTightNodes
  by_cases h0 : codeT net zs level [root] = 0
  · rw [if_pos h0]
    have := netB_sizes (codeT_zero h0).1
    have h2 := filt_len (tgB net (levL net zs root.toNat level)) net.nodes.length
    show (nl (tgK _ _ _)).length ≤ _
    rw [nl_len]; unfold tgK; omega
  · rw [if_neg h0]; simp

set_option maxRecDepth 100000 in
set_option maxHeartbeats 4000000 in
theorem implTightNodes_any (A : Option Addr) (n c : Nat) (B : Option Addr) (m d : Nat) (net : Net) (C : Option Addr) (l e : Nat) (zs : List Int) (root : Int) (level : Int) (w : World) (h : NetAt w A n c B m d net) (hz : Ints w C l e zs) (hroot : I64 root) (_hlevel : I64 level) :
    Calls Try.prog 49 #[.agg #[.slice A n c, .slice B m d], .slice C l e, .int .i64 root, .int .i64 level] w fun e w' => RetLI w (rTightNodes net zs root level) e w' := by
  have HB := Lib.hid (bel1 w (.cells #[.slice A n c, .slice B m d] 32))
  have hnl := h.nodes.len
  by_cases h0 : codeT net zs level [root] = 0
  · obtain ⟨hv, hs, hA, hLv, hC⟩ := codeT_zero h0
    rw [allB_one, hnl] at hA
    obtain ⟨rt, rfl, hrn⟩ := inB_nat hA
    have hlim := levB_lim hLv
    have hn24 := (netB_sizes hv).2.1
    rw [hnl] at hn24
    have hnle := h.nodes.le
    have hncap := h.nodes.cap
    have HR : Hid (rTightNodes net zs rt level = (nl (tgK net (levL net zs rt level) n), 0)) := Lib.hid (by unfold rTightNodes; rw [if_pos h0, Int.toNat_natCast, hnl])
    go_enter Try.func49, Try.ntmps49
    go_wp2_with fail
    refine (checkForest_is _ _ _ _ _ _ net _ _ _ zs level _ _ _ [(rt : Int)] _ _ (h.later (bel2 w (.cells #[.slice A n c, .slice B m d] 32) (.cells #[.int .i64 rt] 2))) (hz.later (bel2 w (.cells #[.slice A n c, .slice B m d] 32) (.cells #[.int .i64 rt] 2))) (ints_lit1 w (.cells #[.slice A n c, .slice B m d] 32) hroot) h0).mono ?_
    rintro e w1 ⟨rfl, b1⟩
    have t1 := below_step (bel2 w (.cells #[.slice A n c, .slice B m d] 32) (.cells #[.int .i64 rt] 2)) b1
    have s1 := below_step (bel1 (w.alloc (.cells #[.slice A n c, .slice B m d] 32)) (.cells #[.int .i64 rt] 2)) b1
    obtain ⟨k0, k1⟩ := box_cells s1
    go_wp2_with fail
    refine (forestLevels_any _ _ _ _ _ _ net _ _ _ zs rt level _ (h.later t1) (hz.later t1) hv hs hrn hlim).mono ?_
    rintro e w2 ⟨Al, rfl, ol, fl, b2⟩
    clear k0 k1
    have t2 := below_step t1 b2
    have s2 := below_step s1 b2
    obtain ⟨k0, k1⟩ := box_cells s2
    obtain ⟨L, hL⟩ : ∃ L, L = levL net zs rt level := ⟨_, rfl⟩
    rw [← hL] at ol HR
    clear hL
    obtain ⟨g, rfl, hg⟩ := ol.pos (by omega)
    obtain ⟨wb, rfl⟩ : ∃ wb, wb = w2 := ⟨_, rfl⟩
    clear k0 k1
    have hw2 := t2.size
    go_wp2_with fail
    go_loopw [11, 29] (fun o i wr => ∃ (k : Nat) (Ao : Option Addr) (co : Nat), k ≤ n ∧ o = .slice Ao (tgK net L k).length co ∧ i = .int .i64 k ∧ Own wr Ao (tgK net L k).length co (nl (tgK net L k)) ∧ Fresh wb.heap.size Ao ∧ Below wb.heap.size wb wr) (fun _ i _ => n - (intOf i).toNat)
    case atStart => exact ⟨0, none, 0, by omega, rfl, rfl, Own.nil, (fun a ha => by cases ha), Below.refl _ _⟩
    case round =>
      obtain ⟨k, Ao, co, hk, rfl, rfl, oo, fo, hb0⟩ := hrel
      have hb := below_step t2 hb0
      have hx := below_step s2 hb0
      by_cases hlt : k < n
      · obtain ⟨bn, offn, rfl, hbln, hcn⟩ := (h.nodes.later hb).cells (by omega)
        obtain ⟨c0, c1, c2⟩ := hcn k hlt
        clear hcn
        change _ = some (Value.int IntKind.i64 (ndl net k)) at c1
        change _ = some (Value.int IntKind.i64 (ndh net k)) at c2
        have olr := (ol.later hb0)
        have ck := olr.cell hlt
        have hbs := hb.size
        have hlk := filt_len (tgB net L) k
        change (tgK net L k).length ≤ k at hlk
        obtain ⟨k0, k1⟩ := box_cells hx
        by_cases g1 : ig L k = ndl net k
        · have HOV : Hid (tgB net L k = true) := Lib.hid (by unfold tgB; simp [g1])
          have g1' : (ig L k == ndl net k) = true := by simp [g1]
          clear g1
          generalize ig L k = V at *
          generalize ndl net k = lo at *
          generalize ndh net k = hi at *
          go_wp2_with (at_builtin; refine law_append _ rfl _ _ rfl Ao _ co _ rfl ((oo.later (Below.refl _ _)).later (bel1 _ _)) _ _ k ⟨by omega, by omega⟩ rfl (cell_new1 _ _ _) (by omega) ?_; intro A3 c3 w3 ho3 hg3 hb3; obtain ⟨r1, r2, r3, r4⟩ := push_filt (wr := wr) (k := k) HOV.out fo (hb0) (Below.refl _ _) hg3 hb3 ho3)
          go_roundw
          case rel => exact ⟨k + 1, A3, c3, by omega, by show _ = Value.slice A3 ((List.range (k + 1)).filter (tgB net L)).length c3; rw [r4]; rfl, by go_num, r1, r2, r3⟩
          case measure => simp [intOf]; omega
        · have g1' : (ig L k == ndl net k) = false := by simp [g1]
          by_cases g2 : ig L k = ndh net k
          · have HOV : Hid (tgB net L k = true) := Lib.hid (by unfold tgB; simp [g2])
            have g2' : (ig L k == ndh net k) = true := by simp [g2]
            clear g1 g2
            generalize ig L k = V at *
            generalize ndl net k = lo at *
            generalize ndh net k = hi at *
            go_wp2_with (at_builtin; refine law_append _ rfl _ _ rfl Ao _ co _ rfl ((oo.later (Below.refl _ _)).later (bel1 _ _)) _ _ k ⟨by omega, by omega⟩ rfl (cell_new1 _ _ _) (by omega) ?_; intro A3 c3 w3 ho3 hg3 hb3; obtain ⟨r1, r2, r3, r4⟩ := push_filt (wr := wr) (k := k) HOV.out fo (hb0) (Below.refl _ _) hg3 hb3 ho3)
            go_roundw
            case rel => exact ⟨k + 1, A3, c3, by omega, by show _ = Value.slice A3 ((List.range (k + 1)).filter (tgB net L)).length c3; rw [r4]; rfl, by go_num, r1, r2, r3⟩
            case measure => simp [intOf]; omega
          · have hov : tgB net L k = false := by unfold tgB; simp [g1, g2]
            have HS2 : Hid (tgK net L (k + 1) = tgK net L k) := Lib.hid (by unfold tgK; rw [filt_succ, hov]; rfl)
            have g2' : (ig L k == ndh net k) = false := by simp [g2]
            clear g1 g2 hov
            generalize ig L k = V at *
            generalize ndl net k = lo at *
            generalize ndh net k = hi at *
            go_wp2_with fail
            go_roundw
            case rel => exact ⟨k + 1, Ao, co, by omega, by rw [HS2.out], by go_num, by rw [HS2.out]; exact oo.later (Below.refl _ _), fo, hb0⟩
            case measure => simp [intOf]; omega
      · have hkn : n = k := by omega
        subst hkn
        go_wp2_with fail
        go_ret2
        exact retLI_own rfl HR.out oo (fresh_up fo hw2) hb
  · obtain ⟨k, hk⟩ : ∃ k, codeT net zs level [root] = k := ⟨_, rfl⟩
    rw [hk] at h0
    have hne : (k != 0) = true := by simp [h0]
    have HR : Hid (rTightNodes net zs root level = ([], k)) := Lib.hid (by unfold rTightNodes; rw [hk, if_neg h0])
    go_enter Try.func49, Try.ntmps49
    go_wp2_with fail
    refine (checkForest_is _ _ _ _ _ _ net _ _ _ zs level _ _ _ [root] _ _ (h.later (bel2 w (.cells #[.slice A n c, .slice B m d] 32) (.cells #[.int .i64 root] 2))) (hz.later (bel2 w (.cells #[.slice A n c, .slice B m d] 32) (.cells #[.int .i64 root] 2))) (ints_lit1 w (.cells #[.slice A n c, .slice B m d] 32) hroot) hk).mono ?_
    rintro e w1 ⟨rfl, b1⟩
    have t1 := below_step (bel2 w (.cells #[.slice A n c, .slice B m d] 32) (.cells #[.int .i64 root] 2)) b1
    have s1 := below_step (bel1 (w.alloc (.cells #[.slice A n c, .slice B m d] 32)) (.cells #[.int .i64 root] 2)) b1
    obtain ⟨k0, k1⟩ := box_cells s1
    go_wp2_with fail
    go_ret2
    exact retLI_nil rfl HR.out t1

set_option maxRecDepth 100000 in
set_option maxHeartbeats 4000000 in
theorem specTightNodes_any (A : Option Addr) (n c : Nat) (B : Option Addr) (m d : Nat) (net : Net) (C : Option Addr) (l e : Nat) (zs : List Int) (root : Int) (level : Int) (w : World) (h : NetAt w A n c B m d net) (hz : Ints w C l e zs) (_hroot : I64 root) (_hlevel : I64 level) :
    Calls Try.prog 48 #[.agg #[.slice A n c, .slice B m d], .slice C l e, .int .i64 root, .int .i64 level] w fun e w' => RetLI w (rTightNodes net zs root level) e w' := by
  have HB := Lib.hid (bel1 w (.cells #[.slice A n c, .slice B m d] 32))
  have hnl := h.nodes.len
  by_cases h0 : codeT net zs level [root] = 0
  · obtain ⟨hv, hs, hA, hLv, hC⟩ := codeT_zero h0
    rw [allB_one, hnl] at hA
    obtain ⟨rt, rfl, hrn⟩ := inB_nat hA
    have hlim := levB_lim hLv
    have hn24 := (netB_sizes hv).2.1
    rw [hnl] at hn24
    have hnle := h.nodes.le
    have hncap := h.nodes.cap
    have HR : Hid (rTightNodes net zs rt level = (nl (tgK net (levL net zs rt level) n), 0)) := Lib.hid (by unfold rTightNodes; rw [if_pos h0, Int.toNat_natCast, hnl])
    go_enter Try.func48, Try.ntmps48
    go_wp2_with fail
    refine (specForestLevels_ok _ _ _ _ _ _ net _ _ _ zs rt level _ (h.later HB.out) (hz.later HB.out) h0).mono ?_
    rintro e w1 ⟨Al, cl, rfl, ol, fl, b1⟩
    have t1 := below_step HB.out b1
    have s1 := b1
    obtain ⟨k0, k1⟩ := box_cells s1
    obtain ⟨L, hL⟩ : ∃ L, L = levL net zs rt level := ⟨_, rfl⟩
    rw [← hL] at ol HR
    clear hL
    obtain ⟨g, rfl, hg⟩ := ol.pos (by omega)
    obtain ⟨wb, rfl⟩ : ∃ wb, wb = w1 := ⟨_, rfl⟩
    clear k0 k1
    have hw2 := t1.size
    have o0 := own_lit0 wb
    go_wp2_with fail
    go_loopw [12, 13] (fun o i wr => ∃ (k : Nat) (Ao : Option Addr) (co : Nat), k ≤ n ∧ o = .slice Ao (tgK net L k).length co ∧ i = .int .i64 k ∧ Own wr Ao (tgK net L k).length co (nl (tgK net L k)) ∧ Fresh wb.heap.size Ao ∧ Below wb.heap.size wb wr) (fun _ i _ => n - (intOf i).toNat)
    case atStart => exact ⟨0, some ⟨wb.heap.size, 0, none⟩, 0, by omega, rfl, rfl, o0, (fun a ha => by injection ha with ha; subst ha; exact Nat.le_refl _), bel1 _ _⟩
    case round =>
      obtain ⟨k, Ao, co, hk, rfl, rfl, oo, fo, hb0⟩ := hrel
      clear o0
      have hb := below_step t1 hb0
      have hx := below_step s1 hb0
      by_cases hlt : k < n
      · obtain ⟨bn, offn, rfl, hbln, hcn⟩ := (h.nodes.later hb).cells (by omega)
        obtain ⟨c0, c1, c2⟩ := hcn k hlt
        clear hcn
        change _ = some (Value.int IntKind.i64 (ndl net k)) at c1
        change _ = some (Value.int IntKind.i64 (ndh net k)) at c2
        have olr := (ol.later hb0)
        have ck := olr.cell hlt
        have hbs := hb.size
        have hlk := filt_len (tgB net L) k
        change (tgK net L k).length ≤ k at hlk
        obtain ⟨k0, k1⟩ := box_cells hx
        by_cases g1 : ig L k = ndl net k
        · have HOV : Hid (tgB net L k = true) := Lib.hid (by unfold tgB; simp [g1])
          have g1' : (ig L k == ndl net k) = true := by simp [g1]
          clear g1
          generalize ig L k = V at *
          generalize ndl net k = lo at *
          generalize ndh net k = hi at *
          go_wp2_with fail
          go_quiet (fail)
          go_wp2_with (at_builtin; refine law_append _ rfl _ _ rfl Ao _ co _ rfl ((oo.later (below_drew (Below.refl _ _) _)).later (bel1 _ _)) _ _ k ⟨by omega, by omega⟩ rfl (cell_newd0 _ _ _ _) (by omega) ?_; intro A3 c3 w3 ho3 hg3 hb3; obtain ⟨r1, r2, r3, r4⟩ := push_filt (wr := wr) (k := k) HOV.out fo (below_drew hb0 _) (below_drew (Below.refl _ _) _) hg3 hb3 ho3)
          go_roundw
          case rel => exact ⟨k + 1, A3, c3, by omega, by show _ = Value.slice A3 ((List.range (k + 1)).filter (tgB net L)).length c3; rw [r4]; rfl, by go_num, r1, r2, r3⟩
          case measure => simp [intOf]; omega
        · have g1' : (ig L k == ndl net k) = false := by simp [g1]
          by_cases g2 : ig L k = ndh net k
          · have HOV : Hid (tgB net L k = true) := Lib.hid (by unfold tgB; simp [g2])
            have g2' : (ig L k == ndh net k) = true := by simp [g2]
            clear g1 g2
            generalize ig L k = V at *
            generalize ndl net k = lo at *
            generalize ndh net k = hi at *
            go_wp2_with fail
            go_quiet (fail)
            go_wp2_with (at_builtin; refine law_append _ rfl _ _ rfl Ao _ co _ rfl ((oo.later (below_drew (Below.refl _ _) _)).later (bel1 _ _)) _ _ k ⟨by omega, by omega⟩ rfl (cell_newd0 _ _ _ _) (by omega) ?_; intro A3 c3 w3 ho3 hg3 hb3; obtain ⟨r1, r2, r3, r4⟩ := push_filt (wr := wr) (k := k) HOV.out fo (below_drew hb0 _) (below_drew (Below.refl _ _) _) hg3 hb3 ho3)
            go_roundw
            case rel => exact ⟨k + 1, A3, c3, by omega, by show _ = Value.slice A3 ((List.range (k + 1)).filter (tgB net L)).length c3; rw [r4]; rfl, by go_num, r1, r2, r3⟩
            case measure => simp [intOf]; omega
          · have hov : tgB net L k = false := by unfold tgB; simp [g1, g2]
            have HS2 : Hid (tgK net L (k + 1) = tgK net L k) := Lib.hid (by unfold tgK; rw [filt_succ, hov]; rfl)
            have g2' : (ig L k == ndh net k) = false := by simp [g2]
            clear g1 g2 hov
            generalize ig L k = V at *
            generalize ndl net k = lo at *
            generalize ndh net k = hi at *
            go_wp2_with fail
            go_quiet (fail)
            go_wp2_with fail
            go_roundw
            case rel => exact ⟨k + 1, Ao, co, by omega, by rw [HS2.out], by go_num, by rw [HS2.out]; exact oo.later (below_drew (Below.refl _ _) _), fo, below_drew hb0 _⟩
            case measure => simp [intOf]; omega
      · have hkn : n = k := by omega
        subst hkn
        go_wp2_with fail
        go_ret2
        exact retLI_own rfl HR.out oo (fresh_up fo hw2) hb
  · obtain ⟨k, hk⟩ : ∃ k, codeT net zs level [root] = k := ⟨_, rfl⟩
    rw [hk] at h0
    have hne : (k != 0) = true := by simp [h0]
    have HR : Hid (rTightNodes net zs root level = ([], k)) := Lib.hid (by unfold rTightNodes; rw [hk, if_neg h0])
    go_enter Try.func48, Try.ntmps48
    go_wp2_with fail
    refine (specForestLevels_bad _ _ _ _ _ _ net _ _ _ zs root level k _ (h.later HB.out) (hz.later HB.out) hk h0).mono ?_
    rintro e w1 ⟨Al, cl, rfl, b1⟩
    have t1 := below_step HB.out b1
    have s1 := b1
    obtain ⟨k0, k1⟩ := box_cells s1
    go_wp2_with fail
    go_ret2
    exact retLI_nil rfl HR.out t1

end Go.Proofs.Ytahmhmicegjdkaa
