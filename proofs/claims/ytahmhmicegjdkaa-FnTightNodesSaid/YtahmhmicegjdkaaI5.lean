/- MissedBy, RootRange, BlockingPair -/
import Derived.Test.YtahmhmicegjdkaaI4
namespace Go.Proofs.Ytahmhmicegjdkaa
open Go.RowKit

def ndl (net : Net) (j : Nat) : Int := (nd net.nodes j).low
def ndh (net : Net) (j : Nat) : Int := (nd net.nodes j).high
theorem netB_node_at {net : Net} (h : netB net = true) {j : Nat} (hj : j < net.nodes.length) : 0 ≤ (nd net.nodes j).low ∧ (nd net.nodes j).low ≤ (nd net.nodes j).high ∧ (nd net.nodes j).high ≤ 100000000 := by
  have hn : nodeOkB net.nodes j = true := by
    cases hx : nodeOkB net.nodes j with
    | true => rfl
    | false => rw [netB_node hj hx] at h; cases h
  unfold nodeOkB nodeB at hn
  simp only [Bool.and_eq_true, decide_eq_true_eq] at hn
  omega
theorem node_bnd {net : Net} (hv : netB net = true) (j : Nat) : 0 ≤ ndl net j ∧ ndl net j ≤ ndh net j ∧ ndh net j ≤ 100000000 := by
  unfold ndl ndh
  rcases Nat.lt_or_ge j net.nodes.length with hj | hj
  · exact netB_node_at hv hj
  · have : nd net.nodes j = node0 := by unfold nd; rw [List.getD_eq_getElem?_getD, List.getElem?_eq_none hj]; rfl
    rw [this]; exact ⟨by decide, by decide, by decide⟩

/-! ### MissedBy -/
def misK (net : Net) (L : List Int) : Nat → Int
  | 0 => 0
  | k + 1 => max (misK net L k) (max (ndl net k - ig L k) (ig L k - ndh net k))
theorem misK_bnd {net : Net} {L : List Int} (hv : netB net = true) (hL : ∀ j, -500043200000000000 ≤ ig L j ∧ ig L j ≤ 500043200000000000) (k : Nat) : 0 ≤ misK net L k ∧ misK net L k ≤ 500043300000000000 := by
  induction k with
  | zero => simp [misK]
  | succ k ih =>
    have h1 := node_bnd hv k
    have h2 := hL k
    unfold misK
    omega
theorem levL_lim {net : Net} {zs : List Int} (hv : netB net = true) (hs : flowB net zs = true) {root : Nat} {level : Int} (hl : -500000000000000000 ≤ level ∧ level ≤ 500000000000000000) (j : Nat) : -500043200000000000 ≤ ig (levL net zs root level) j ∧ ig (levL net zs root level) j ≤ 500043200000000000 := by
  rcases Nat.lt_or_ge j net.nodes.length with hj | hj
  · rw [levL_ig hj]; exact lev_lim hv hs hl j
  · rw [ig_ge (by rw [levL_len]; exact hj)]; omega
def rMissedBy (net : Net) (zs : List Int) (root level : Int) : Int × Int := if codeT net zs level [root] = 0 then (misK net (levL net zs root.toNat level) net.nodes.length, 0) else (0, codeT net zs level [root])

set_option maxHeartbeats 4000000 in
theorem missedBy_any (A : Option Addr) (n c : Nat) (B : Option Addr) (m d : Nat) (net : Net) (C : Option Addr) (l e : Nat) (zs : List Int) (w : World) (h : NetAt w A n c B m d net) (hz : Ints w C l e zs) (hv : netB net = true) (hl : n = l) (hL : ∀ j, -500043200000000000 ≤ ig zs j ∧ ig zs j ≤ 500043200000000000) :
    Calls Try.prog 116 #[.agg #[.slice A n c, .slice B m d], .slice C l e] w fun e w' => e = .returned (.int .i64 (misK net zs n)) ∧ Below w.heap.size w w' := by
  subst hl
  have HB := Lib.hid (bel1 w (.cells #[.slice A n c, .slice B m d] 32))
  have hn24 : n ≤ 24 := by have := (netB_sizes hv).2.1; have := h.nodes.len; omega
  have HV := Lib.hid hv
  have HLL := Lib.hid hL
  have hnle := h.nodes.le
  have hncap := h.nodes.cap
  clear hv hL
  go_enter Try.func116, Try.ntmps116
  go_wp2_with fail
  go_loopw [5, 11] (fun q i wr => ∃ k : Nat, k ≤ n ∧ q = .int .i64 (misK net zs k) ∧ i = .int .i64 k ∧ Below w.heap.size w wr) (fun _ i _ => n - (intOf i).toNat)
  case atStart => exact ⟨0, by omega, rfl, rfl, HB.out⟩
  case round =>
    obtain ⟨k, hk, rfl, rfl, hb⟩ := hrel
    by_cases hlt : k < n
    · obtain ⟨bn, offn, rfl, hbln, hcn⟩ := (h.nodes.later hb).cells (by omega)
      obtain ⟨bb, off, rfl, hbl, hc⟩ := (hz.later hb).cells (by omega)
      obtain ⟨c0, c1, c2⟩ := hcn k hlt
      have hck := hc k hlt
      have hbs := hb.size
      have hnb := node_bnd HV.out k
      unfold ndl ndh at hnb
      have hLk := HLL.out k
      have hmk := misK_bnd HV.out HLL.out k
      have HM : Hid (misK net zs (k + 1) = max (misK net zs k) (max ((nd net.nodes k).low - ig zs k) (ig zs k - (nd net.nodes k).high))) := Lib.hid rfl
      clear hc hcn
      generalize misK net zs k = M1 at *
      generalize ig zs k = V at *
      generalize (nd net.nodes k).low = lo at *
      generalize (nd net.nodes k).high = hi at *
      by_cases h1 : V < lo
      · have h2 : ¬ hi < V := by omega
        by_cases h3 : M1 < lo - V
        · have HX : Hid (misK net zs (k + 1) = lo - V) := Lib.hid (by rw [HM.out]; omega)
          clear HM
          go_wp2_with fail
          go_quiet (fail)
          go_wp2_with fail
          go_quiet (fail)
          go_wp2_with fail
          go_quiet (fail)
          go_wp2_with fail
          go_roundw
          case rel => exact ⟨k + 1, by omega, by rw [HX.out], by go_num, below_drew (hb.alloc hbs _) _⟩
          case measure => simp [intOf]; omega
        · have HX : Hid (misK net zs (k + 1) = M1) := Lib.hid (by rw [HM.out]; omega)
          clear HM
          go_wp2_with fail
          go_quiet (fail)
          go_wp2_with fail
          go_quiet (fail)
          go_wp2_with fail
          go_quiet (fail)
          go_wp2_with fail
          go_roundw
          case rel => exact ⟨k + 1, by omega, by rw [HX.out], by go_num, below_drew (hb.alloc hbs _) _⟩
          case measure => simp [intOf]; omega
      · by_cases h2 : hi < V
        · by_cases h3 : M1 < V - hi
          · have HX : Hid (misK net zs (k + 1) = V - hi) := Lib.hid (by rw [HM.out]; omega)
            clear HM
            go_wp2_with fail
            go_quiet (fail)
            go_wp2_with fail
            go_quiet (fail)
            go_wp2_with fail
            go_quiet (fail)
            go_wp2_with fail
            go_roundw
            case rel => exact ⟨k + 1, by omega, by rw [HX.out], by go_num, below_drew (hb.alloc hbs _) _⟩
            case measure => simp [intOf]; omega
          · have HX : Hid (misK net zs (k + 1) = M1) := Lib.hid (by rw [HM.out]; omega)
            clear HM
            go_wp2_with fail
            go_quiet (fail)
            go_wp2_with fail
            go_quiet (fail)
            go_wp2_with fail
            go_quiet (fail)
            go_wp2_with fail
            go_roundw
            case rel => exact ⟨k + 1, by omega, by rw [HX.out], by go_num, below_drew (hb.alloc hbs _) _⟩
            case measure => simp [intOf]; omega
        · have HX : Hid (misK net zs (k + 1) = M1) := Lib.hid (by rw [HM.out]; omega)
          clear HM
          go_wp2_with fail
          go_quiet (fail)
          go_wp2_with fail
          go_quiet (fail)
          go_wp2_with fail
          go_roundw
          case rel => exact ⟨k + 1, by omega, by rw [HX.out], by go_num, below_drew (hb.alloc hbs _) _⟩
          case measure => simp [intOf]; omega
    · have hkn : n = k := by omega
      subst hkn
      go_wp2_with fail
      go_ret
      exact ⟨rfl, hb⟩

/-- a row of the call's own -/
def isOwnS (n c : Nat) (zs : List Int) : VP := fun v w => ∃ A, v = .slice A n c ∧ Own w A n c zs ∧ True
theorem stb_own {n c : Nat} {zs : List Int} : Stb Grw (isOwnS n c zs) := by
  rintro v w w' h ⟨A, rfl, ho, _⟩
  exact ⟨A, rfl, ho.later h, trivial⟩

set_option maxHeartbeats 2000000 in
theorem implMissedBy_any (A : Option Addr) (n c : Nat) (B : Option Addr) (m d : Nat) (net : Net) (C : Option Addr) (l e : Nat) (zs : List Int) (root : Int) (level : Int) (w : World) (h : NetAt w A n c B m d net) (hz : Ints w C l e zs) (hroot : I64 root) (_hlevel : I64 level) :
    Calls Try.prog 59 #[.agg #[.slice A n c, .slice B m d], .slice C l e, .int .i64 root, .int .i64 level] w fun e w' => e = .returned (.tuple #[.int .i64 (rMissedBy net zs root level).1, .int .i64 (rMissedBy net zs root level).2]) ∧ Below w.heap.size w w' := by
  have HB := Lib.hid (bel1 w (.cells #[.slice A n c, .slice B m d] 32))
  have hnl := h.nodes.len
  by_cases h0 : codeT net zs level [root] = 0
  · obtain ⟨hv, hs, hA, hLv, hC⟩ := codeT_zero h0
    rw [allB_one, hnl] at hA
    obtain ⟨rt, rfl, hrn⟩ := inB_nat hA
    have hlim := levB_lim hLv
    have hn24 := (netB_sizes hv).2.1
    rw [hnl] at hn24
    have HR : Hid (rMissedBy net zs rt level = (misK net (levL net zs rt level) n, 0)) := Lib.hid (by unfold rMissedBy; rw [if_pos h0, Int.toNat_natCast, hnl])
    go_enter Try.func59, Try.ntmps59
    go_wp2_with fail
    refine (checkForest_is _ _ _ _ _ _ net _ _ _ zs level _ _ _ [(rt : Int)] _ _ (h.later (bel2 w (.cells #[.slice A n c, .slice B m d] 32) (.cells #[.int .i64 rt] 2))) (hz.later (bel2 w (.cells #[.slice A n c, .slice B m d] 32) (.cells #[.int .i64 rt] 2))) (ints_lit1 w (.cells #[.slice A n c, .slice B m d] 32) hroot) h0).mono ?_
    rintro e w1 ⟨rfl, b1⟩
    have t1 := below_step (bel2 w (.cells #[.slice A n c, .slice B m d] 32) (.cells #[.int .i64 rt] 2)) b1
    have s1 := below_step (bel1 (w.alloc (.cells #[.slice A n c, .slice B m d] 32)) (.cells #[.int .i64 rt] 2)) b1
    obtain ⟨k0, k1⟩ := box_cells s1
    go_wp2_with fail
    apply wp_region_track [20, 21, 22, 23, 24, 25] [eqv _, eqv _, eqv _, eqv _, eqv _, isOwnS n n (levL net zs rt level)]
      (fun w' => Below w1.heap.size w1 w') Grw (by kernel_rfl) (by kernel_rfl) rfl (by kernel_rfl)
    case hs =>
      refine ⟨?_, ?_, ?_, ?_, ?_, ?_, trivial⟩
      · intro ev wt ht hc hg hf hI hd
        have e4 : ev (.tmp 4) = .pointer (some ⟨w.heap.size, 0, none⟩) := ht 4 (by decide)
        have y := (below_step s1 hI)
        obtain ⟨k0, k1⟩ := box_cells y
        refine opok_gen fun N hN => ?_
        clear hd ht
        go_simp
        exact hN.out _ _ ⟨hI, Below.refl _ _, rfl⟩
      · intro ev wt ht hc hg hf hI hd
        have e4 : ev (.tmp 4) = .pointer (some ⟨w.heap.size, 0, none⟩) := ht 4 (by decide)
        have y := (below_step s1 hI)
        obtain ⟨k0, k1⟩ := box_cells y
        refine opok_gen fun N hN => ?_
        clear hd ht
        go_simp
        exact hN.out _ _ ⟨hI, Below.refl _ _, rfl⟩
      · intro ev wt ht hc hg hf hI hd
        have e1 : ev (.tmp 1) = .slice C l e := ht 1 (by decide)
        exact opok_move _ rfl ⟨hI, Below.refl _ _, e1⟩
      · intro ev wt ht hc hg hf hI hd
        have e2 : ev (.tmp 2) = .int .i64 rt := ht 2 (by decide)
        exact opok_move _ rfl ⟨hI, Below.refl _ _, e2⟩
      · intro ev wt ht hc hg hf hI hd
        have e3 : ev (.tmp 3) = .int .i64 level := ht 3 (by decide)
        exact opok_move _ rfl ⟨hI, Below.refl _ _, e3⟩
      · intro ev wt ht hc hg hf hI hd
        have e21 : ev (.tmp 21) = _ := hd 1 21 rfl rfl
        have e22 : ev (.tmp 22) = _ := hd 2 22 rfl rfl
        have e23 : ev (.tmp 23) = _ := hd 3 23 rfl rfl
        have e24 : ev (.tmp 24) = _ := hd 4 24 rfl rfl
        refine opok_gen fun N hN => ?_
        clear hd ht
        go_simp
        refine opok_call ?_
        refine (forestLevels_any _ _ _ _ _ _ net _ _ _ zs rt level _ (h.later (below_step t1 hI)) (hz.later (below_step t1 hI)) hv hs hrn hlim).mono ?_
        rintro e w4 ⟨Al, rfl, ol, fl, b4⟩
        exact ⟨_, rfl, hN.out _ _ ⟨below_step hI b4, b4, ⟨_, rfl, ol, trivial⟩⟩⟩
    case hst =>
      refine fun j v w w' _ h1 h2 => StbL.nth (S := Grw) ?_ j v w w' h1 h2
      exact ⟨stb_eqv _, stb_eqv _, stb_eqv _, stb_eqv _, stb_eqv _, stb_own, trivial⟩
    case hI => exact (Below.refl _ _).drew
    case hl =>
      rintro wt hI _ rfl _ rfl _ rfl _ rfl _ rfl _ ⟨Al, rfl, ol, fl2⟩
      simp only [Lasts, List.length_cons, List.length_nil, Nat.reduceAdd, List.drop_succ_cons, List.drop_zero, Act.put, List.setIfInBounds_toArray, List.set_cons_succ, List.set_cons_zero]
      have t2 := below_step t1 hI
      go_wp2_with fail
      refine (missedBy_any _ _ _ _ _ _ net _ _ _ _ _ (h.later t2) ol.ints hv rfl (levL_lim hv hs hlim)).mono ?_
      rintro e w3 ⟨rfl, b3⟩
      go_wp2_with fail
      go_ret2
      exact ⟨by rw [HR.out]; rfl, below_step t2 b3⟩
  · obtain ⟨k, hk⟩ : ∃ k, codeT net zs level [root] = k := ⟨_, rfl⟩
    rw [hk] at h0
    have hne : (k != 0) = true := by simp [h0]
    have HR : Hid (rMissedBy net zs root level = (0, k)) := Lib.hid (by unfold rMissedBy; rw [hk, if_neg h0])
    go_enter Try.func59, Try.ntmps59
    go_wp2_with fail
    refine (checkForest_is _ _ _ _ _ _ net _ _ _ zs level _ _ _ [root] _ _ (h.later (bel2 w (.cells #[.slice A n c, .slice B m d] 32) (.cells #[.int .i64 root] 2))) (hz.later (bel2 w (.cells #[.slice A n c, .slice B m d] 32) (.cells #[.int .i64 root] 2))) (ints_lit1 w (.cells #[.slice A n c, .slice B m d] 32) hroot) hk).mono ?_
    rintro e w1 ⟨rfl, b1⟩
    have t1 := below_step (bel2 w (.cells #[.slice A n c, .slice B m d] 32) (.cells #[.int .i64 root] 2)) b1
    have s1 := below_step (bel1 (w.alloc (.cells #[.slice A n c, .slice B m d] 32)) (.cells #[.int .i64 root] 2)) b1
    obtain ⟨k0, k1⟩ := box_cells s1
    go_wp2_with fail
    go_ret2
    exact ⟨by rw [HR.out]; rfl, t1⟩

theorem specForestLevels_ok (A : Option Addr) (n c : Nat) (B : Option Addr) (m d : Nat) (net : Net) (C : Option Addr) (l e : Nat) (zs : List Int) (root : Nat) (level : Int) (w : World) (h : NetAt w A n c B m d net) (hz : Ints w C l e zs) (h0 : codeT net zs level [(root : Int)] = 0) :
    Calls Try.prog 37 #[.agg #[.slice A n c, .slice B m d], .slice C l e, .int .i64 root, .int .i64 level] w fun e w' => ∃ Al cl, e = .returned (.tuple #[.slice Al n cl, .int .i64 0]) ∧ Own w' Al n cl (levL net zs root level) ∧ Fresh w.heap.size Al ∧ Below w.heap.size w w' := by
  have hR : rForestLevels net zs root level = (levL net zs root level, 0) := by unfold rForestLevels; rw [if_pos h0, Int.toNat_natCast]
  refine (specForestLevels_any A n c B m d net C l e zs root level w h hz).mono ?_
  rintro e' w' ⟨Al, cl, h1, h2, h3, h4⟩
  rw [hR] at h1 h2
  simp only [levL_len, h.nodes.len] at h1 h2
  exact ⟨Al, cl, h1, h2, h3, h4⟩

theorem specForestLevels_bad (A : Option Addr) (n c : Nat) (B : Option Addr) (m d : Nat) (net : Net) (C : Option Addr) (l e : Nat) (zs : List Int) (root level k : Int) (w : World) (h : NetAt w A n c B m d net) (hz : Ints w C l e zs) (h0 : codeT net zs level [root] = k) (hk : k ≠ 0) :
    Calls Try.prog 37 #[.agg #[.slice A n c, .slice B m d], .slice C l e, .int .i64 root, .int .i64 level] w fun e w' => ∃ Al cl, e = .returned (.tuple #[.slice Al 0 cl, .int .i64 k]) ∧ Below w.heap.size w w' := by
  have hR : rForestLevels net zs root level = ([], k) := by unfold rForestLevels; rw [h0, if_neg hk]
  refine (specForestLevels_any A n c B m d net C l e zs root level w h hz).mono ?_
  rintro e' w' ⟨Al, cl, h1, h2, h3, h4⟩
  rw [hR] at h1
  exact ⟨Al, cl, h1, h4⟩

set_option maxHeartbeats 2000000 in
theorem specMissedBy_any (A : Option Addr) (n c : Nat) (B : Option Addr) (m d : Nat) (net : Net) (C : Option Addr) (l e : Nat) (zs : List Int) (root : Int) (level : Int) (w : World) (h : NetAt w A n c B m d net) (hz : Ints w C l e zs) (_hroot : I64 root) (_hlevel : I64 level) :
    Calls Try.prog 60 #[.agg #[.slice A n c, .slice B m d], .slice C l e, .int .i64 root, .int .i64 level] w fun e w' => e = .returned (.tuple #[.int .i64 (rMissedBy net zs root level).1, .int .i64 (rMissedBy net zs root level).2]) ∧ Below w.heap.size w w' := by
  have HB := Lib.hid (bel1 w (.cells #[.slice A n c, .slice B m d] 32))
  have hnl := h.nodes.len
  by_cases h0 : codeT net zs level [root] = 0
  · obtain ⟨hv, hs, hA, hLv, hC⟩ := codeT_zero h0
    rw [allB_one, hnl] at hA
    obtain ⟨rt, rfl, hrn⟩ := inB_nat hA
    have hlim := levB_lim hLv
    have hn24 := (netB_sizes hv).2.1
    rw [hnl] at hn24
    have HR : Hid (rMissedBy net zs rt level = (misK net (levL net zs rt level) n, 0)) := Lib.hid (by unfold rMissedBy; rw [if_pos h0, Int.toNat_natCast, hnl])
    have HFL : Hid (rForestLevels net zs rt level = (levL net zs rt level, 0)) := Lib.hid (by unfold rForestLevels; rw [if_pos h0, Int.toNat_natCast])
    go_enter Try.func60, Try.ntmps60
    go_wp2_with fail
    refine (specForestLevels_ok _ _ _ _ _ _ net _ _ _ zs rt level _ (h.later HB.out) (hz.later HB.out) h0).mono ?_
    rintro e w1 ⟨Al, cl, rfl, ol, fl, b1⟩
    have t1 := below_step HB.out b1
    have s1 := b1
    obtain ⟨k0, k1⟩ := box_cells s1
    obtain ⟨g, rfl, hg⟩ := ol.pos (by omega)
    go_wp2_with fail
    go_loopw [12, 13] (fun q i wr => ∃ k : Nat, k ≤ n ∧ q = .int .i64 (misK net (levL net zs rt level) k) ∧ i = .int .i64 k ∧ ∃ nq, wr = w1.drewN nq) (fun _ i _ => n - (intOf i).toNat)
    case atStart => exact ⟨0, by omega, rfl, rfl, 0, rfl⟩
    case round =>
      obtain ⟨k, hk, rfl, rfl, nq, rfl⟩ := hrel
      by_cases hlt : k < n
      · obtain ⟨bn, offn, rfl, hbln, hcn⟩ := (h.nodes.later t1).cells (by omega)
        obtain ⟨c0, c1, c2⟩ := hcn k hlt
        have hck := ol.cell hlt
        have hnb := node_bnd hv k
        unfold ndl ndh at hnb
        have hLk := levL_lim hv hs (root := rt) hlim k
        have hmk := misK_bnd hv (levL_lim hv hs (root := rt) hlim) k
        have HM : Hid (misK net (levL net zs rt level) (k + 1) = max (misK net (levL net zs rt level) k) (max ((nd net.nodes k).low - ig (levL net zs rt level) k) (ig (levL net zs rt level) k - (nd net.nodes k).high))) := Lib.hid rfl
        clear hcn
        generalize misK net (levL net zs rt level) k = M1 at *
        generalize ig (levL net zs rt level) k = V at *
        generalize (nd net.nodes k).low = lo at *
        generalize (nd net.nodes k).high = hi at *
        have hnle := h.nodes.le
        have hncap := h.nodes.cap
        by_cases h1 : lo - V < V - hi
        · by_cases h2 : M1 < V - hi
          · have HX : Hid (misK net (levL net zs rt level) (k + 1) = V - hi) := Lib.hid (by rw [HM.out]; omega)
            clear HM
            go_wp2_with fail
            go_quiet (fail)
            go_wp2_with fail
            go_roundw
            case rel => exact ⟨k + 1, by omega, by rw [HX.out], by go_num, _, rfl⟩
            case measure => simp [intOf]; omega
          · have HX : Hid (misK net (levL net zs rt level) (k + 1) = M1) := Lib.hid (by rw [HM.out]; omega)
            clear HM
            go_wp2_with fail
            go_quiet (fail)
            go_wp2_with fail
            go_roundw
            case rel => exact ⟨k + 1, by omega, by rw [HX.out], by go_num, _, rfl⟩
            case measure => simp [intOf]; omega
        · by_cases h2 : M1 < lo - V
          · have HX : Hid (misK net (levL net zs rt level) (k + 1) = lo - V) := Lib.hid (by rw [HM.out]; omega)
            clear HM
            go_wp2_with fail
            go_quiet (fail)
            go_wp2_with fail
            go_roundw
            case rel => exact ⟨k + 1, by omega, by rw [HX.out], by go_num, _, rfl⟩
            case measure => simp [intOf]; omega
          · have HX : Hid (misK net (levL net zs rt level) (k + 1) = M1) := Lib.hid (by rw [HM.out]; omega)
            clear HM
            go_wp2_with fail
            go_quiet (fail)
            go_wp2_with fail
            go_roundw
            case rel => exact ⟨k + 1, by omega, by rw [HX.out], by go_num, _, rfl⟩
            case measure => simp [intOf]; omega
      · have hkn : n = k := by omega
        subst hkn
        go_wp2_with fail
        go_ret2
        exact ⟨by rw [HR.out]; rfl, below_drew t1 _⟩
  · obtain ⟨k, hk⟩ : ∃ k, codeT net zs level [root] = k := ⟨_, rfl⟩
    have h0k := hk
    rw [hk] at h0
    have hne : (k != 0) = true := by simp [h0]
    have HR : Hid (rMissedBy net zs root level = (0, k)) := Lib.hid (by unfold rMissedBy; rw [hk, if_neg h0])
    go_enter Try.func60, Try.ntmps60
    go_wp2_with fail
    refine (specForestLevels_bad _ _ _ _ _ _ net _ _ _ zs root level k _ (h.later HB.out) (hz.later HB.out) hk h0).mono ?_
    rintro e w1 ⟨Al, cl, rfl, b1⟩
    have t1 := below_step HB.out b1
    have s1 := b1
    obtain ⟨k0, k1⟩ := box_cells s1
    go_wp2_with fail
    go_ret2
    exact ⟨by rw [HR.out]; rfl, t1⟩

end Go.Proofs.Ytahmhmicegjdkaa
