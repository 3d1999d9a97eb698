/- GapBetween, LowestNode -/
import Derived.Test.YtioiebjgjimeiaaI3
namespace Go.Proofs.Ytioiebjgjimeiaa
open Go.RowKit

theorem ints_lit1 (w : World) (o : Obj) {a : Int} (ha : I64 a) : Ints ((w.alloc o).alloc (.cells #[.int .i64 a] 2)) (some ⟨w.heap.size + 1, 0, none⟩) 1 1 [a] := by
  rw [← size_alloc1 w o]
  exact (own_lit (w.alloc o) a ha).ints
theorem ints_lit2 (w : World) (o : Obj) {a b : Int} (ha : I64 a) (hb : I64 b) : Ints ((w.alloc o).alloc (.cells #[.int .i64 a, .int .i64 b] 2)) (some ⟨w.heap.size + 1, 0, none⟩) 2 2 [a, b] := by
  rw [← size_alloc1 w o]
  have g := heap_alloc_new (w.alloc o) (.cells #[.int .i64 a, .int .i64 b] 2)
  refine ⟨rfl, by omega, by omega, ?_, fun _ => ⟨(w.alloc o).heap.size, 0, rfl, by simp, fun j hj => ?_⟩⟩
  · intro z hz
    simp at hz
    rcases hz with rfl | rfl
    · exact ha
    · exact hb
  · match j, hj with
    | 0, _ => rw [cell_blk g]; rfl
    | 1, _ => rw [cell_blk g]; rfl
theorem allB_one {a lo hi : Int} : allB [a] lo hi = inB a lo hi := by unfold allB; simp
theorem allB_two {a b lo hi : Int} : allB [a, b] lo hi = (inB a lo hi && inB b lo hi) := by unfold allB; simp
theorem inB_nat {a : Int} {n : Nat} (h : inB a 0 ((n : Int) - 1) = true) : ∃ a' : Nat, a = a' ∧ a' < n := by
  unfold inB at h
  simp at h
  exact ⟨a.toNat, by omega, by omega⟩

theorem l04Count_one (A : Option Addr) (n c : Nat) (B : Option Addr) (m d : Nat) (net : Net) (w : World) (h : NetAt w A n c B m d net) (ok : NetOK net) (hc : (netG net).conn = true) :
    Calls Try.prog 121 #[.agg #[.slice A n c, .slice B m d]] w fun e w' => e = .returned (.int .i64 1) ∧ Below w.heap.size w w' := by
  have hn : (netG net).n = n := h.nodes.len
  have h0 : 0 < (netG net).n := by have := ok.n1; show 0 < net.nodes.length; omega
  have := (Gr.cnt_conn ok.g h0).2 hc
  rw [hn] at this
  exact (l04Count_any A n c B m d net w h ok).mono fun e w' ⟨h1, h2⟩ => ⟨by rw [h1, this]; rfl, h2⟩

theorem l04Count_other (A : Option Addr) (n c : Nat) (B : Option Addr) (m d : Nat) (net : Net) (w : World) (h : NetAt w A n c B m d net) (ok : NetOK net) (hc : (netG net).conn = false) :
    Calls Try.prog 121 #[.agg #[.slice A n c, .slice B m d]] w fun e w' => ∃ k : Int, e = .returned (.int .i64 k) ∧ (k != 1) = true ∧ Below w.heap.size w w' := by
  have hn : (netG net).n = n := h.nodes.len
  have h0 : 0 < (netG net).n := by have := ok.n1; show 0 < net.nodes.length; omega
  have h1 : (netG net).cnt n ≠ 1 := fun e => by
    rw [← hn] at e
    rw [(Gr.cnt_conn ok.g h0).1 e] at hc
    cases hc
  refine (l04Count_any A n c B m d net w h ok).mono ?_
  rintro e w' ⟨rfl, h2⟩
  exact ⟨_, rfl, by simp; omega, h2⟩

def rForestLevels (net : Net) (zs : List Int) (root level : Int) : List Int × Int := if codeT net zs level [root] = 0 then (levL net zs root.toNat level, 0) else ([], codeT net zs level [root])

set_option maxHeartbeats 2000000 in
theorem specForestLevels_any (A : Option Addr) (n c : Nat) (B : Option Addr) (m d : Nat) (net : Net) (C : Option Addr) (l e : Nat) (zs : List Int) (root : Int) (level : Int) (w : World) (h : NetAt w A n c B m d net) (hz : Ints w C l e zs) :
    Calls Try.prog 54 #[.agg #[.slice A n c, .slice B m d], .slice C l e, .int .i64 root, .int .i64 level] w fun e w' => RetLI w (rForestLevels net zs root level) e w' := by
  have HB := Lib.hid (bel1 w (.cells #[.slice A n c, .slice B m d] 27))
  have hnl := h.nodes.len
  have hnle : n ≤ 9223372036854775807 := by have := h.nodes.le; have := h.nodes.cap; omega
  rcases codeT_cases net zs level [root] with ⟨hF0, e⟩ | ⟨hF, hN, e⟩ | ⟨hF, hN, hA, hL, e⟩ | ⟨hF, hN, hA, hL, hC, e⟩ | ⟨hF, hN, hA, hL, hC, e⟩
  · obtain ⟨k, hF⟩ : ∃ k, codeF net zs = k := ⟨_, rfl⟩
    have hk0 : k ≠ 0 := by rw [← hF]; exact hF0
    have hne : (k != 0) = true := by simp [hk0]
    have hne2 : (k == 0) = false := by simp [hk0]
    have HR : Hid (rForestLevels net zs root level = ([], k)) := Lib.hid (by unfold rForestLevels; rw [e, hF, if_neg hk0])
    clear e hF0
    go_enter Try.func54, Try.ntmps54
    go_wp2_with fail
    refine (l05Code_is _ _ _ _ _ _ _ _ _ net zs _ _ (h.later HB.out) (hz.later HB.out) hF).mono ?_
    rintro e w1 ⟨rfl, b1⟩
    have t1 := below_step HB.out b1
    have s1 := b1
    obtain ⟨k0, k1⟩ := box_cells s1
    go_wp2_with fail
    go_ret2
    exact retLI_nil rfl HR.out t1
  · have HR : Hid (rForestLevels net zs root level = ([], 2)) := Lib.hid (by unfold rForestLevels; rw [e]; rfl)
    have hb1 : inB root 0 ((n : Int) - 1) = false := by
      unfold codeN at hN
      rw [(codeF_zero hF).1, allB_one, hnl] at hN
      cases hx : inB root 0 ((n : Int) - 1) with
      | false => rfl
      | true => rw [hx] at hN; simp at hN
    clear e hN
    go_enter Try.func54, Try.ntmps54
    go_wp2_with fail
    refine (l05Code_is _ _ _ _ _ _ _ _ _ net zs _ _ (h.later HB.out) (hz.later HB.out) hF).mono ?_
    rintro e w1 ⟨rfl, b1⟩
    have t1 := below_step HB.out b1
    have s1 := b1
    obtain ⟨k0, k1⟩ := box_cells s1
    go_wp2_with fail
    refine (l02Node_is _ _ _ _ _ _ root _ _ hnle hb1).mono ?_
    rintro e w2 ⟨rfl, b2⟩
    clear k0 k1
    have t2 := below_step t1 b2
    have s2 := below_step s1 b2
    obtain ⟨k0, k1⟩ := box_cells s2
    go_wp2_with fail
    go_ret2
    exact retLI_nil rfl HR.out t2
  · have HR : Hid (rForestLevels net zs root level = ([], 2)) := Lib.hid (by unfold rForestLevels; rw [e]; rfl)
    have hb1 : inB root 0 ((n : Int) - 1) = true := by rw [allB_one, hnl] at hA; exact hA
    clear e hN hA
    go_enter Try.func54, Try.ntmps54
    go_wp2_with fail
    refine (l05Code_is _ _ _ _ _ _ _ _ _ net zs _ _ (h.later HB.out) (hz.later HB.out) hF).mono ?_
    rintro e w1 ⟨rfl, b1⟩
    have t1 := below_step HB.out b1
    have s1 := b1
    obtain ⟨k0, k1⟩ := box_cells s1
    go_wp2_with fail
    refine (l02Node_is _ _ _ _ _ _ root _ _ hnle hb1).mono ?_
    rintro e w2 ⟨rfl, b2⟩
    clear k0 k1
    have t2 := below_step t1 b2
    have s2 := below_step s1 b2
    obtain ⟨k0, k1⟩ := box_cells s2
    go_wp2_with fail
    refine (l07Level_is _ _ _ hL).mono ?_
    rintro e w' ⟨rfl, rfl⟩
    clear k0 k1
    obtain ⟨k0, k1⟩ := box_cells s2
    go_wp2_with fail
    go_ret2
    exact retLI_nil rfl HR.out t2
  · have HR : Hid (rForestLevels net zs root level = ([], 5)) := Lib.hid (by unfold rForestLevels; rw [e]; rfl)
    have hb1 : inB root 0 ((n : Int) - 1) = true := by rw [allB_one, hnl] at hA; exact hA
    have hv := (codeF_zero hF).1
    clear e hN hA
    go_enter Try.func54, Try.ntmps54
    go_wp2_with fail
    refine (l05Code_is _ _ _ _ _ _ _ _ _ net zs _ _ (h.later HB.out) (hz.later HB.out) hF).mono ?_
    rintro e w1 ⟨rfl, b1⟩
    have t1 := below_step HB.out b1
    have s1 := b1
    obtain ⟨k0, k1⟩ := box_cells s1
    go_wp2_with fail
    refine (l02Node_is _ _ _ _ _ _ root _ _ hnle hb1).mono ?_
    rintro e w2 ⟨rfl, b2⟩
    clear k0 k1
    have t2 := below_step t1 b2
    have s2 := below_step s1 b2
    obtain ⟨k0, k1⟩ := box_cells s2
    go_wp2_with fail
    refine (l07Level_is _ _ _ hL).mono ?_
    rintro e w' ⟨rfl, rfl⟩
    clear k0 k1
    obtain ⟨k0, k1⟩ := box_cells s2
    go_wp2_with fail
    refine (l04Count_other _ _ _ _ _ _ net _ (h.later t2) (NetOK.of hv) hC).mono ?_
    rintro e w4 ⟨kk, rfl, hkk, b4⟩
    clear k0 k1
    have t4 := below_step t2 b4
    have s4 := below_step s2 b4
    obtain ⟨k0, k1⟩ := box_cells s4
    go_wp2_with fail
    go_ret2
    exact retLI_nil rfl HR.out t4
  · obtain ⟨hv, hs⟩ := codeF_zero hF
    have hb1 : inB root 0 ((n : Int) - 1) = true := by rw [allB_one, hnl] at hA; exact hA
    obtain ⟨rt, rfl, hrn⟩ := inB_nat hb1
    have hlim := levB_lim hL
    have HR : Hid (rForestLevels net zs rt level = (levL net zs rt level, 0)) := Lib.hid (by unfold rForestLevels; rw [if_pos e, Int.toNat_natCast])
    clear e hN hA
    go_enter Try.func54, Try.ntmps54
    go_wp2_with fail
    refine (l05Code_is _ _ _ _ _ _ _ _ _ net zs _ _ (h.later HB.out) (hz.later HB.out) hF).mono ?_
    rintro e w1 ⟨rfl, b1⟩
    have t1 := below_step HB.out b1
    have s1 := b1
    obtain ⟨k0, k1⟩ := box_cells s1
    go_wp2_with fail
    refine (l02Node_is _ _ _ _ _ _ rt _ _ hnle hb1).mono ?_
    rintro e w2 ⟨rfl, b2⟩
    clear k0 k1
    have t2 := below_step t1 b2
    have s2 := below_step s1 b2
    obtain ⟨k0, k1⟩ := box_cells s2
    go_wp2_with fail
    refine (l07Level_is _ _ _ hL).mono ?_
    rintro e w' ⟨rfl, rfl⟩
    clear k0 k1
    obtain ⟨k0, k1⟩ := box_cells s2
    go_wp2_with fail
    refine (l04Count_one _ _ _ _ _ _ net _ (h.later t2) (NetOK.of hv) hC).mono ?_
    rintro e w4 ⟨rfl, b4⟩
    clear k0 k1
    have t4 := below_step t2 b4
    have s4 := below_step s2 b4
    obtain ⟨k0, k1⟩ := box_cells s4
    go_wp2_with fail
    refine (l07Levels_any _ _ _ _ _ _ net _ _ _ zs rt level _ (h.later t4) (hz.later t4) hv hs hC hrn hlim).mono ?_
    rintro e w5 ⟨Al, rfl, ol, fl, b5⟩
    clear k0 k1
    have t5 := below_step t4 b5
    have s5 := below_step s4 b5
    obtain ⟨k0, k1⟩ := box_cells s5
    go_wp2_with fail
    go_ret2
    exact retLI_own rfl HR.out ol (fresh_up fl t4.size) t5

def rGapBetween (net : Net) (zs : List Int) (a b : Int) : Int × Int := if codeT net zs 0 [a, b] = 0 then ((netG net).base (drF net zs) a.toNat - (netG net).base (drF net zs) b.toNat, 0) else (0, codeT net zs 0 [a, b])

set_option maxHeartbeats 2000000 in
theorem implGapBetween_any (A : Option Addr) (n c : Nat) (B : Option Addr) (m d : Nat) (net : Net) (C : Option Addr) (l e : Nat) (zs : List Int) (a : Int) (b : Int) (w : World) (h : NetAt w A n c B m d net) (hz : Ints w C l e zs) (ha : I64 a) (hb : I64 b) :
    Calls Try.prog 34 #[.agg #[.slice A n c, .slice B m d], .slice C l e, .int .i64 a, .int .i64 b] w fun e w' => e = .returned (.tuple #[.int .i64 (rGapBetween net zs a b).1, .int .i64 (rGapBetween net zs a b).2]) ∧ Below w.heap.size w w' := by
  have HB := Lib.hid (bel1 w (.cells #[.slice A n c, .slice B m d] 27))
  have hnl := h.nodes.len
  by_cases h0 : codeT net zs 0 [a, b] = 0
  · obtain ⟨hv, hs, hA, _, hC⟩ := codeT_zero h0
    rw [allB_two, hnl, Bool.and_eq_true] at hA
    obtain ⟨a', rfl, han⟩ := inB_nat hA.1
    obtain ⟨b', rfl, hbn⟩ := inB_nat hA.2
    have hn24 := (netB_sizes hv).2.1
    rw [hnl] at hn24
    have hrn : 0 < n := by omega
    have hlim : -500000000000000000 ≤ (0 : Int) ∧ (0 : Int) ≤ 500000000000000000 := by omega
    have HR : Hid (rGapBetween net zs a' b' = ((netG net).base (drF net zs) a' - (netG net).base (drF net zs) b', 0)) := Lib.hid (by unfold rGapBetween; rw [if_pos h0, Int.toNat_natCast, Int.toNat_natCast])
    go_enter Try.func34, Try.ntmps34
    go_wp2_with fail
    refine (checkForest_is _ _ _ _ _ _ net _ _ _ zs 0 _ _ _ [(a' : Int), (b' : Int)] _ _ (h.later (bel2 w (.cells #[.slice A n c, .slice B m d] 27) (.cells #[.int .i64 a', .int .i64 b'] 2))) (hz.later (bel2 w (.cells #[.slice A n c, .slice B m d] 27) (.cells #[.int .i64 a', .int .i64 b'] 2))) (ints_lit2 w (.cells #[.slice A n c, .slice B m d] 27) ha hb) h0).mono ?_
    rintro e w1 ⟨rfl, b1⟩
    have t1 := below_step (bel2 w (.cells #[.slice A n c, .slice B m d] 27) (.cells #[.int .i64 a', .int .i64 b'] 2)) b1
    have s1 := below_step (bel1 (w.alloc (.cells #[.slice A n c, .slice B m d] 27)) (.cells #[.int .i64 a', .int .i64 b'] 2)) b1
    obtain ⟨k0, k1⟩ := box_cells s1
    go_wp2_with fail
    refine (forestLevels_any _ _ _ _ _ _ net _ _ _ zs 0 0 _ (h.later t1) (hz.later t1) hv hs hrn hlim).mono ?_
    rintro e w2 ⟨Al, rfl, ol, fl, b2⟩
    clear k0 k1
    have t2 := below_step t1 b2
    have s2 := below_step s1 b2
    obtain ⟨k0, k1⟩ := box_cells s2
    obtain ⟨g, rfl, hg⟩ := ol.pos (by omega)
    have ca := ol.cell han
    have cb := ol.cell hbn
    unfold levL at ca cb
    rw [hnl, mapTo_ig han] at ca
    rw [hnl, mapTo_ig hbn] at cb
    have la := lev0_lim hv hs (root := 0) a'
    have lb := lev0_lim hv hs (root := 0) b'
    have HD : Hid ((netG net).lev (drF net zs) 0 0 a' - (netG net).lev (drF net zs) 0 0 b' = (netG net).base (drF net zs) a' - (netG net).base (drF net zs) b') := Lib.hid (by unfold Gr.lev; omega)
    generalize (netG net).lev (drF net zs) 0 0 a' = X at *
    generalize (netG net).lev (drF net zs) 0 0 b' = Y at *
    go_wp2_with fail
    go_quiet (fail)
    go_wp2_with fail
    go_ret2
    exact ⟨by rw [HR.out, ← HD.out]; rfl, below_drew t2 _⟩
  · obtain ⟨k, hk⟩ : ∃ k, codeT net zs 0 [a, b] = k := ⟨_, rfl⟩
    rw [hk] at h0
    have hne : (k != 0) = true := by simp [h0]
    have HR : Hid (rGapBetween net zs a b = (0, k)) := Lib.hid (by unfold rGapBetween; rw [hk, if_neg h0])
    go_enter Try.func34, Try.ntmps34
    go_wp2_with fail
    refine (checkForest_is _ _ _ _ _ _ net _ _ _ zs 0 _ _ _ [a, b] _ _ (h.later (bel2 w (.cells #[.slice A n c, .slice B m d] 27) (.cells #[.int .i64 a, .int .i64 b] 2))) (hz.later (bel2 w (.cells #[.slice A n c, .slice B m d] 27) (.cells #[.int .i64 a, .int .i64 b] 2))) (ints_lit2 w (.cells #[.slice A n c, .slice B m d] 27) ha hb) hk).mono ?_
    rintro e w1 ⟨rfl, b1⟩
    have t1 := below_step (bel2 w (.cells #[.slice A n c, .slice B m d] 27) (.cells #[.int .i64 a, .int .i64 b] 2)) b1
    have s1 := below_step (bel1 (w.alloc (.cells #[.slice A n c, .slice B m d] 27)) (.cells #[.int .i64 a, .int .i64 b] 2)) b1
    obtain ⟨k0, k1⟩ := box_cells s1
    go_wp2_with fail
    go_ret2
    exact ⟨by rw [HR.out]; rfl, t1⟩

/-- the first of the least of the first k + 1 numbers -/
def lowI (L : List Int) : Nat → Nat
  | 0 => 0
  | k + 1 => if ig L (k + 1) < ig L (lowI L k) then k + 1 else lowI L k
theorem lowI_facts (L : List Int) (k : Nat) : lowI L k ≤ k ∧ (∀ i, i ≤ k → ig L (lowI L k) ≤ ig L i) ∧ ∀ i, i < lowI L k → ig L (lowI L k) < ig L i := by
  induction k with
  | zero => exact ⟨Nat.le_refl _, fun i hi => by have : i = 0 := by omega
                                                 subst this; exact Int.le_refl _, fun i hi => by simp [lowI] at hi⟩
  | succ k ih =>
    obtain ⟨h1, h2, h3⟩ := ih
    unfold lowI
    by_cases h : ig L (k + 1) < ig L (lowI L k)
    · rw [if_pos h]
      refine ⟨Nat.le_refl _, fun i hi => ?_, fun i hi => ?_⟩
      · by_cases e : i = k + 1
        · subst e; exact Int.le_refl _
        · have := h2 i (by omega); omega
      · have := h2 i (by omega); omega
    · rw [if_neg h]
      refine ⟨by omega, fun i hi => ?_, h3⟩
      by_cases e : i = k + 1
      · subst e; omega
      · exact h2 i (by omega)

set_option maxHeartbeats 1000000 in
theorem slicesIndex_at (A : Option Addr) (n c : Nat) (zs : List Int) (x : Int) (j : Nat) (w : World) (h : Ints w A n c zs) (hj : j < n) (hx : ig zs j = x) (hne : ∀ i, i < j → ig zs i ≠ x) :
    Calls Try.prog 182 #[.slice A n c, .int .i64 x] w fun e w' => e = .returned (.int .i64 j) ∧ w = w' := by
  have hle := h.le
  have hcap := h.cap
  obtain ⟨b, off, rfl, hb, hc⟩ := h.cells (by omega)
  have HC := Lib.hid hc
  have HNE := Lib.hid hne
  clear hc hne
  go_enter Try.func182, Try.ntmps182
  go_wp2_with fail
  go_loop [8] (fun i => ∃ k : Nat, k ≤ j ∧ i = .int .i64 k) (fun i => n - (intOf i).toNat)
  case atStart => exact ⟨0, by omega, rfl⟩
  case round =>
    obtain ⟨k, hk, rfl⟩ := hrel
    have hck := HC.out k (by omega)
    by_cases e : k = j
    · subst e
      have g : (x == ig zs k) = true := by simp [hx]
      clear hx
      generalize ig zs k = X at *
      go_wp2_with fail
      go_ret
      exact ⟨rfl, rfl⟩
    · have g : (x == ig zs k) = false := by have := HNE.out k (by omega); simp; exact fun h => this h.symm
      generalize ig zs k = X at *
      go_wp2_with fail
      go_round
      case rel => exact ⟨k + 1, by omega, by go_num⟩
      case measure => simp [intOf]; omega

def rLowestNode (net : Net) (zs : List Int) : Int × Int := if codeT net zs 0 [] = 0 then (((lowI (levL net zs 0 0) (net.nodes.length - 1) : Nat) : Int), 0) else (0, codeT net zs 0 [])

end Go.Proofs.Ytioiebjgjimeiaa
