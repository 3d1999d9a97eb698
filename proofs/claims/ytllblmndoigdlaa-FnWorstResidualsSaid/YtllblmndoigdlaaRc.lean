/- LoopError, WorstResidual, ResidualBound -/
import Derived.Test.YtllblmndoigdlaaRb
namespace Go.Proofs.Ytllblmndoigdlaa
open Go.RowKit

theorem mx_max (L : List Int) (k : Nat) : mx L (k + 1) = max (mx L k) (ab (ig L k)) := by rw [mx_succ]; split <;> omega
theorem mx_bnd {net : Net} {zs : List Int} (hv : netB net = true) (hf : flowB net zs = true) (k : Nat) : 0 ≤ mx (resL net zs) k ∧ mx (resL net zs) k ≤ 36000000000000 :=
  ⟨mx_nn _ _, mx_le (by decide) (fun j => by have := resL_bnd hv hf j; exact ab_le (by omega) (by omega)) k⟩
theorem wm_bnd {net : Net} {zs : List Int} (hv : netB net = true) (hf : flowB net zs = true) (k : Nat) : -1 ≤ wm (resL net zs) k ∧ wm (resL net zs) k ≤ 36000000000000 := by
  cases k with
  | zero => exact ⟨by show (-1 : Int) ≤ -1; omega, by show (-1 : Int) ≤ _; omega⟩
  | succ k =>
    have h1 := resL_bnd hv hf (wb (resL net zs) (k + 1))
    have h2 := ab_nn (ig (resL net zs) (wb (resL net zs) (k + 1)))
    have h3 := ab_le (M := 36000000000000) (q := ig (resL net zs) (wb (resL net zs) (k + 1))) (by omega) (by omega)
    exact ⟨by show -1 ≤ ab _; omega, h3⟩

set_option maxRecDepth 100000 in
set_option maxHeartbeats 4000000 in
theorem implLoopError_any (A : Option Addr) (n c : Nat) (B : Option Addr) (m d : Nat) (net : Net) (C : Option Addr) (l e : Nat) (zs : List Int) (w : World) (h : NetAt w A n c B m d net) (hz : Ints w C l e zs) :
    Calls Try.prog 31 #[.agg #[.slice A n c, .slice B m d], .slice C l e] w fun e w' => e = .returned (.tuple #[.int .i64 (rLoopError net zs).1, .int .i64 (rLoopError net zs).2]) ∧ Below w.heap.size w w' := by
  have HB := Lib.hid (bel1 w (.cells #[.slice A n c, .slice B m d] 27))
  by_cases h0 : codeF net zs = 0
  · obtain ⟨hv, hs⟩ := codeF_zero h0
    have ok := NetOK.of hv
    go_enter Try.func31, Try.ntmps31
    go_wp2_with fail
    refine (checkFlows_is _ _ _ _ _ _ _ _ _ net zs _ _ (h.later HB.out) (hz.later HB.out) h0).mono ?_
    rintro e w1 ⟨rfl, b1⟩
    have t1 := below_step HB.out b1
    have s1 := b1
    obtain ⟨k0, k1⟩ := box_cells s1
    go_wp2_with fail
    refine (residualsOf_any _ _ _ _ _ _ net _ _ _ zs _ (h.later t1) (hz.later t1) hv hs).mono ?_
    rintro e w2 ⟨Ax, cx, rfl, ox, fx, b2⟩
    clear k0 k1
    have t2 := below_step t1 b2
    have s2 := below_step s1 b2
    obtain ⟨k0, k1⟩ := box_cells s2
    obtain ⟨K, hK⟩ : ∃ K, (netG net).chords.length = K := ⟨_, rfl⟩
    have hK40 : K ≤ 40 := by have := chords_le net; have := ok.m40; omega
    have hLb := resL_bnd hv hs
    have hMb := mx_bnd hv hs
    have HR : Hid (rLoopError net zs = (mx (resL net zs) K, 0)) := Lib.hid (by unfold rLoopError; rw [if_pos h0, hK])
    have hXL : (resL net zs).length = K := by rw [resL_len, hK]
    obtain ⟨L, hL⟩ : ∃ L, resL net zs = L := ⟨_, rfl⟩
    rw [hL] at ox hLb hMb HR hXL
    rw [hK] at ox ⊢
    have HLB := Lib.hid hLb
    have HMB := Lib.hid hMb
    clear hK hL hLb hMb k0 k1
    go_wp2_with fail
    go_loopw [7, 20] (fun s i wr => ∃ k : Nat, k ≤ K ∧ s = .int .i64 (mx L k) ∧ i = .int .i64 k ∧ w2 = wr) (fun _ i _ => K - (intOf i).toNat)
    case atStart => exact ⟨0, by omega, rfl, rfl, rfl⟩
    case round =>
      obtain ⟨k, hk, rfl, rfl, rfl⟩ := hrel
      by_cases hlt : k < K
      · obtain ⟨gx, rfl, hgx⟩ := ox.pos (by omega)
        have cx := ox.cell hlt
        have h1 := HLB.out k
        have h2 := HMB.out k
        have HM := Lib.hid (mx_max L k)
        obtain ⟨V, hV⟩ : ∃ V, ab (ig L k) = V := ⟨_, rfl⟩
        have h3 := ab_nn (ig L k)
        have h4 := ab_le (M := 36000000000000) (q := ig L k) (by omega) (by omega)
        rw [hV] at h3 h4 HM
        have hki : (k : Int) < (K : Int) := by omega
        generalize ig L k = Q at *
        generalize mx L k = G at *
        have HV := Lib.hid hV
        clear hV
        go_wp2_with fail
        refine (absOf_is _ _ _ (by omega) HV.out).mono ?_
        rintro e w' ⟨rfl, rfl⟩
        go_wp2_with fail
        go_roundw
        case rel => exact ⟨k + 1, by omega, by rw [HM.out], by go_num, by trivial⟩
        case measure => simp [intOf]; omega
      · have hkK : K = k := by omega
        have HX : Hid (mx L K = mx L k) := Lib.hid (by rw [hkK])
        have hki : ¬ (k : Int) < (K : Int) := by omega
        clear hkK
        go_wp2_with fail
        go_ret2
        exact ⟨by rw [HR.out, HX.out]; rfl, t2⟩
  · obtain ⟨k, hk⟩ : ∃ k, codeF net zs = k := ⟨_, rfl⟩
    rw [hk] at h0
    have hne : (k != 0) = true := by simp [h0]
    have hne2 : (k == 0) = false := by simp [h0]
    have HR : Hid (rLoopError net zs = (0, k)) := Lib.hid (by unfold rLoopError; rw [hk, if_neg h0])
    go_enter Try.func31, Try.ntmps31
    go_wp2_with fail
    refine (checkFlows_is _ _ _ _ _ _ _ _ _ net zs _ _ (h.later HB.out) (hz.later HB.out) hk).mono ?_
    rintro e w1 ⟨rfl, b1⟩
    have t1 := below_step HB.out b1
    have s1 := b1
    obtain ⟨k0, k1⟩ := box_cells s1
    go_wp2_with fail
    go_ret2
    exact ⟨by rw [HR.out]; rfl, t1⟩

theorem resOf_ok {net : Net} {zs : List Int} {w : World} {e : Ending} {w' : World} (_hv : netB net = true) (_hf : flowB net zs = true) (h0 : codeF net zs = 0) (h : RetLI w (rResidualsOf net zs) e w') :
    ∃ Af cf, e = .returned (.tuple #[.slice Af (netG net).chords.length cf, .int .i64 0]) ∧ Own w' Af (netG net).chords.length cf (resL net zs) ∧ Fresh w.heap.size Af ∧ Below w.heap.size w w' := by
  have e1 : rResidualsOf net zs = (resL net zs, 0) := by unfold rResidualsOf; rw [if_pos h0]
  rw [e1] at h
  obtain ⟨A, c, he, ho, hf, hb⟩ := h
  simp only [resL_len] at he ho
  exact ⟨A, c, he, ho, hf, hb⟩
theorem resOf_bad {net : Net} {zs : List Int} {w : World} {e : Ending} {w' : World} {k : Int} (hk : codeF net zs = k) (h0 : ¬ k = 0) (h : RetLI w (rResidualsOf net zs) e w') :
    ∃ A c, e = .returned (.tuple #[.slice A 0 c, .int .i64 k]) ∧ Own w' A 0 c [] ∧ Below w.heap.size w w' := by
  have e1 : rResidualsOf net zs = ([], k) := by unfold rResidualsOf; rw [hk, if_neg h0]
  rw [e1] at h
  obtain ⟨A, c, he, ho, hf, hb⟩ := h
  exact ⟨A, c, he, ho, hb⟩

set_option maxRecDepth 100000 in
set_option maxHeartbeats 4000000 in
theorem specLoopError_any (A : Option Addr) (n c : Nat) (B : Option Addr) (m d : Nat) (net : Net) (C : Option Addr) (l e : Nat) (zs : List Int) (w : World) (h : NetAt w A n c B m d net) (hz : Ints w C l e zs) :
    Calls Try.prog 32 #[.agg #[.slice A n c, .slice B m d], .slice C l e] w fun e w' => e = .returned (.tuple #[.int .i64 (rLoopError net zs).1, .int .i64 (rLoopError net zs).2]) ∧ Below w.heap.size w w' := by
  have HB := Lib.hid (bel1 w (.cells #[.slice A n c, .slice B m d] 27))
  by_cases h0 : codeF net zs = 0
  · obtain ⟨hv, hs⟩ := codeF_zero h0
    have ok := NetOK.of hv
    go_enter Try.func32, Try.ntmps32
    go_wp2_with fail
    refine ((specResidualsOf_any _ _ _ _ _ _ net _ _ _ zs _ (h.later HB.out) (hz.later HB.out)).mono (fun e w' hw => (resOf_ok hv hs h0 hw))).mono ?_
    rintro e w1 ⟨Ax, cx, rfl, ox, fx, b1⟩
    have t1 := below_step HB.out b1
    have s1 := b1
    obtain ⟨k0, k1⟩ := box_cells s1
    obtain ⟨K, hK⟩ : ∃ K, (netG net).chords.length = K := ⟨_, rfl⟩
    have hK40 : K ≤ 40 := by have := chords_le net; have := ok.m40; omega
    have hLb := resL_bnd hv hs
    have hMb := mx_bnd hv hs
    have HR : Hid (rLoopError net zs = (mx (resL net zs) K, 0)) := Lib.hid (by unfold rLoopError; rw [if_pos h0, hK])
    have hXL : (resL net zs).length = K := by rw [resL_len, hK]
    obtain ⟨L, hL⟩ : ∃ L, resL net zs = L := ⟨_, rfl⟩
    rw [hL] at ox hLb hMb HR hXL
    rw [hK] at ox ⊢
    have HLB := Lib.hid hLb
    have HMB := Lib.hid hMb
    clear hK hL hLb hMb k0 k1
    go_wp2_with fail
    go_loopw [8, 9] (fun s i wr => ∃ k : Nat, k ≤ K ∧ s = .int .i64 (mx L k) ∧ i = .int .i64 k ∧ w1 = wr) (fun _ i _ => K - (intOf i).toNat)
    case atStart => exact ⟨0, by omega, rfl, rfl, rfl⟩
    case round =>
      obtain ⟨k, hk, rfl, rfl, rfl⟩ := hrel
      by_cases hlt : k < K
      · obtain ⟨gx, rfl, hgx⟩ := ox.pos (by omega)
        have cx := ox.cell hlt
        have h1 := HLB.out k
        have h2 := HMB.out k
        have HM := Lib.hid (mx_max L k)
        obtain ⟨V, hV⟩ : ∃ V, ab (ig L k) = V := ⟨_, rfl⟩
        have h3 := ab_nn (ig L k)
        have h4 := ab_le (M := 36000000000000) (q := ig L k) (by omega) (by omega)
        rw [hV] at h3 h4 HM
        have hki : (k : Int) < (K : Int) := by omega
        generalize ig L k = Q at *
        generalize mx L k = G at *
        have HV := Lib.hid hV
        clear hV
        go_wp2_with fail
        refine (l01Abs_is _ _ _ (by omega) HV.out).mono ?_
        rintro e w' ⟨rfl, rfl⟩
        go_wp2_with fail
        go_roundw
        case rel => exact ⟨k + 1, by omega, by rw [HM.out], by go_num, by trivial⟩
        case measure => simp [intOf]; omega
      · have hkK : K = k := by omega
        have HX : Hid (mx L K = mx L k) := Lib.hid (by rw [hkK])
        have hki : ¬ (k : Int) < (K : Int) := by omega
        clear hkK
        go_wp2_with fail
        go_ret2
        exact ⟨by rw [HR.out, HX.out]; rfl, t1⟩
  · obtain ⟨k, hk⟩ : ∃ k, codeF net zs = k := ⟨_, rfl⟩
    rw [hk] at h0
    have hne : (k != 0) = true := by simp [h0]
    have hne2 : (k == 0) = false := by simp [h0]
    have HR : Hid (rLoopError net zs = (0, k)) := Lib.hid (by unfold rLoopError; rw [hk, if_neg h0])
    go_enter Try.func32, Try.ntmps32
    go_wp2_with fail
    refine ((specResidualsOf_any _ _ _ _ _ _ net _ _ _ zs _ (h.later HB.out) (hz.later HB.out)).mono (fun e w' hw => (resOf_bad hk h0 hw))).mono ?_
    rintro e w1 ⟨Ax, cx, rfl, ox, b1⟩
    have t1 := below_step HB.out b1
    have s1 := b1
    obtain ⟨k0, k1⟩ := box_cells s1
    go_wp2_with fail
    go_ret2
    exact ⟨by rw [HR.out]; rfl, t1⟩

set_option maxRecDepth 100000 in
set_option maxHeartbeats 4000000 in
theorem implWorstResidual_any (A : Option Addr) (n c : Nat) (B : Option Addr) (m d : Nat) (net : Net) (C : Option Addr) (l e : Nat) (zs : List Int) (w : World) (h : NetAt w A n c B m d net) (hz : Ints w C l e zs) :
    Calls Try.prog 29 #[.agg #[.slice A n c, .slice B m d], .slice C l e] w fun e w' => e = .returned (.tuple #[.int .i64 (rWorstResidual net zs).1, .int .i64 (rWorstResidual net zs).2]) ∧ Below w.heap.size w w' := by
  have HB := Lib.hid (bel1 w (.cells #[.slice A n c, .slice B m d] 27))
  by_cases h0 : codeF net zs = 0
  · obtain ⟨hv, hs⟩ := codeF_zero h0
    have ok := NetOK.of hv
    obtain ⟨K, hK⟩ : ∃ K, (netG net).chords.length = K := ⟨_, rfl⟩
    have hK40 : K ≤ 40 := by have := chords_le net; have := ok.m40; omega
    by_cases hK0 : K = 0
    · subst hK0
      have HR : Hid (rWorstResidual net zs = (0, 4)) := Lib.hid (by unfold rWorstResidual; rw [if_pos h0, hK, if_pos rfl])
      go_enter Try.func29, Try.ntmps29
      go_wp2_with fail
      refine (checkFlows_is _ _ _ _ _ _ _ _ _ net zs _ _ (h.later HB.out) (hz.later HB.out) h0).mono ?_
      rintro e w1 ⟨rfl, b1⟩
      have t1 := below_step HB.out b1
      have s1 := b1
      obtain ⟨k0, k1⟩ := box_cells s1
      go_wp2_with fail
      refine (chordsOf_any _ _ _ _ _ _ net _ (h.later t1) ok).mono ?_
      rintro e w2 ⟨Ac, cc, rfl, oc, fc, b2⟩
      clear k0 k1
      have t2 := below_step t1 b2
      have s2 := below_step s1 b2
      obtain ⟨k0, k1⟩ := box_cells s2
      rw [hK] at oc ⊢
      go_wp2_with fail
      go_ret2
      exact ⟨by rw [HR.out]; rfl, t2⟩
    · have hK1 : ((K : Int) == 0) = false := by simp; omega
      have HR : Hid (rWorstResidual net zs = (ig (nl (netG net).chords) (wb (resL net zs) K), 0)) := Lib.hid (by unfold rWorstResidual; rw [if_pos h0, hK, if_neg (by omega)])
      go_enter Try.func29, Try.ntmps29
      go_wp2_with fail
      refine (checkFlows_is _ _ _ _ _ _ _ _ _ net zs _ _ (h.later HB.out) (hz.later HB.out) h0).mono ?_
      rintro e w1 ⟨rfl, b1⟩
      have t1 := below_step HB.out b1
      have s1 := b1
      obtain ⟨k0, k1⟩ := box_cells s1
      go_wp2_with fail
      refine (chordsOf_any _ _ _ _ _ _ net _ (h.later t1) ok).mono ?_
      rintro e w2 ⟨Ac, cc, rfl, oc, fc, b2⟩
      clear k0 k1
      have t2 := below_step t1 b2
      have s2 := below_step s1 b2
      obtain ⟨k0, k1⟩ := box_cells s2
      rw [hK] at oc ⊢
      go_wp2_with fail
      refine (residualsOf_any _ _ _ _ _ _ net _ _ _ zs _ (h.later t2) (hz.later t2) hv hs).mono ?_
      rintro e w3 ⟨Ax, cx, rfl, ox, fx, b3⟩
      clear k0 k1
      have t3 := below_step t2 b3
      have s3 := below_step s2 b3
      obtain ⟨k0, k1⟩ := box_cells s3
      rw [hK] at ox ⊢
      have hLb := resL_bnd hv hs
      have hMb := wm_bnd hv hs
      obtain ⟨L, hL⟩ : ∃ L, resL net zs = L := ⟨_, rfl⟩
      rw [hL] at ox hLb hMb HR
      have HLB := Lib.hid hLb
      have HMB := Lib.hid hMb
      have HWL := Lib.hid (fun (k : Nat) (h : 1 ≤ k) => wb_lt L h)
      have OC := Lib.hid (oc.later b3)
      clear hK hL hLb hMb k0 k1 oc
      go_wp2_with fail
      go_loopw [8, 9, 27] (fun p q i wr => ∃ k : Nat, k ≤ K ∧ p = .int .i64 (wb L k : Nat) ∧ q = .int .i64 (wm L k) ∧ i = .int .i64 k ∧ w3 = wr) (fun _ _ i _ => K - (intOf i).toNat)
      case atStart => exact ⟨0, by omega, rfl, rfl, rfl, rfl⟩
      case round =>
        obtain ⟨k, hk, rfl, rfl, rfl, rfl⟩ := hrel
        by_cases hlt : k < K
        · obtain ⟨gx, rfl, hgx⟩ := ox.pos (by omega)
          have cx := ox.cell hlt
          have h1 := HLB.out k
          have h2 := HMB.out k
          have hWy := Lib.hid (fun h => wm_yes (L := L) (k := k) h)
          have hWn := Lib.hid (fun h => wm_no (L := L) (k := k) h)
          obtain ⟨V, hV⟩ : ∃ V, ab (ig L k) = V := ⟨_, rfl⟩
          have h3 := ab_nn (ig L k)
          have h4 := ab_le (M := 36000000000000) (q := ig L k) (by omega) (by omega)
          rw [hV] at h3 h4 hWy hWn
          generalize ig L k = Q at *
          by_cases hlm : wm L k < V
          · have HM2 := Lib.hid (hWy.out hlm)
            clear hWy hWn
            generalize wm L k = G at *
            generalize wb L k = G2 at *
            have HV := Lib.hid hV
            clear hV
            go_wp2_with fail
            refine (absOf_is _ _ _ (by omega) HV.out).mono ?_
            rintro e w' ⟨rfl, rfl⟩
            go_wp2_with fail
            refine (absOf_is _ _ _ (by omega) HV.out).mono ?_
            rintro e w' ⟨rfl, rfl⟩
            go_wp2_with fail
            go_roundw
            case rel => exact ⟨k + 1, by omega, by rw [HM2.out.1], by rw [HM2.out.2], by go_num, by trivial⟩
            case measure => simp [intOf]; omega
          · have HM2 := Lib.hid (hWn.out hlm)
            clear hWy hWn
            have hlm2 : ¬ V > wm L k := by omega
            generalize wm L k = G at *
            generalize wb L k = G2 at *
            have HV := Lib.hid hV
            clear hV
            go_wp2_with fail
            refine (absOf_is _ _ _ (by omega) HV.out).mono ?_
            rintro e w' ⟨rfl, rfl⟩
            go_wp2_with fail
            go_roundw
            case rel => exact ⟨k + 1, by omega, by rw [HM2.out.1], by rw [HM2.out.2], by go_num, by trivial⟩
            case measure => simp [intOf]; omega
        · have hkK : K = k := by omega
          have hwl := HWL.out K (by omega)
          have HX : Hid (wb L K = wb L k) := Lib.hid (by rw [hkK])
          rw [HX.out] at hwl
          have oc := OC.out
          obtain ⟨gc, rfl, hgc⟩ := oc.pos (by omega)
          have cw := oc.cell hwl
          clear hkK oc
          generalize wb L k = G2 at *
          go_wp2_with fail
          go_ret2
          exact ⟨by rw [HR.out, HX.out]; rfl, t3⟩
  · obtain ⟨k, hk⟩ : ∃ k, codeF net zs = k := ⟨_, rfl⟩
    rw [hk] at h0
    have hne : (k != 0) = true := by simp [h0]
    have hne2 : (k == 0) = false := by simp [h0]
    have HR : Hid (rWorstResidual net zs = (0, k)) := Lib.hid (by unfold rWorstResidual; rw [hk, if_neg h0])
    go_enter Try.func29, Try.ntmps29
    go_wp2_with fail
    refine (checkFlows_is _ _ _ _ _ _ _ _ _ net zs _ _ (h.later HB.out) (hz.later HB.out) hk).mono ?_
    rintro e w1 ⟨rfl, b1⟩
    have t1 := below_step HB.out b1
    have s1 := b1
    obtain ⟨k0, k1⟩ := box_cells s1
    go_wp2_with fail
    go_ret2
    exact ⟨by rw [HR.out]; rfl, t1⟩

set_option maxRecDepth 100000 in
set_option maxHeartbeats 4000000 in
theorem specWorstResidual_any (A : Option Addr) (n c : Nat) (B : Option Addr) (m d : Nat) (net : Net) (C : Option Addr) (l e : Nat) (zs : List Int) (w : World) (h : NetAt w A n c B m d net) (hz : Ints w C l e zs) :
    Calls Try.prog 30 #[.agg #[.slice A n c, .slice B m d], .slice C l e] w fun e w' => e = .returned (.tuple #[.int .i64 (rWorstResidual net zs).1, .int .i64 (rWorstResidual net zs).2]) ∧ Below w.heap.size w w' := by
  have HB := Lib.hid (bel1 w (.cells #[.slice A n c, .slice B m d] 27))
  have bxW : BX (w.alloc (.cells #[.slice A n c, .slice B m d] 27)) w.heap.size A n c B m d := ⟨heap_alloc_new w _⟩
  by_cases h0 : codeF net zs = 0
  · obtain ⟨hv, hs⟩ := codeF_zero h0
    have ok := NetOK.of hv
    obtain ⟨K, hK⟩ : ∃ K, (netG net).chords.length = K := ⟨_, rfl⟩
    have hK40 : K ≤ 40 := by have := chords_le net; have := ok.m40; omega
    by_cases hK0 : K = 0
    · subst hK0
      have HR : Hid (rWorstResidual net zs = (0, 4)) := Lib.hid (by unfold rWorstResidual; rw [if_pos h0, hK, if_pos rfl])
      go_enter Try.func30, Try.ntmps30
      go_wp2_with fail
      refine ((specResidualsOf_any _ _ _ _ _ _ net _ _ _ zs _ (h.later HB.out) (hz.later HB.out)).mono (fun e w' hw => (resOf_ok hv hs h0 hw))).mono ?_
      rintro e w1 ⟨Ax, cx, rfl, ox, fx, b1⟩
      have t1 := below_step HB.out b1
      have s1 := b1
      obtain ⟨k0, k1⟩ := box_cells s1
      rw [hK] at ox ⊢
      go_wp2_with fail
      go_ret2
      exact ⟨by rw [HR.out]; rfl, t1⟩
    · have hK1 : ((K : Int) == 0) = false := by simp; omega
      have HR : Hid (rWorstResidual net zs = (ig (nl (netG net).chords) (wb (resL net zs) K), 0)) := Lib.hid (by unfold rWorstResidual; rw [if_pos h0, hK, if_neg (by omega)])
      go_enter Try.func30, Try.ntmps30
      go_wp2_with fail
      refine ((specResidualsOf_any _ _ _ _ _ _ net _ _ _ zs _ (h.later HB.out) (hz.later HB.out)).mono (fun e w' hw => (resOf_ok hv hs h0 hw))).mono ?_
      rintro e w1 ⟨Ax, cx, rfl, ox, fx, b1⟩
      have t1 := below_step HB.out b1
      have s1 := b1
      obtain ⟨k0, k1⟩ := box_cells s1
      rw [hK] at ox ⊢
      have hLb := resL_bnd hv hs
      obtain ⟨L, hL⟩ : ∃ L, resL net zs = L := ⟨_, rfl⟩
      rw [hL] at ox hLb HR
      have HLB := Lib.hid hLb
      have HWL := Lib.hid (fun (k : Nat) (h : 1 ≤ k) => wb_lt L h)
      have HKK := Lib.hid hK
      have bx1 := bxW.step b1
      clear hK hL hLb k0 k1
      go_wp2_with fail
      go_loopw [8, 9] (fun p i wr => ∃ k : Nat, 1 ≤ k ∧ k ≤ K ∧ p = .int .i64 (wb L k : Nat) ∧ i = .int .i64 k ∧ Below w1.heap.size w1 wr) (fun _ i _ => K - (intOf i).toNat)
      case atStart => exact ⟨1, by omega, by omega, by show _ = Value.int IntKind.i64 ((wb L 1 : Nat) : Int); rw [show wb L 1 = 0 by have := HWL.out 1 (by omega); omega]; rfl, rfl, Below.refl _ _⟩
      case round =>
        obtain ⟨k, hk1, hk, rfl, rfl, hb⟩ := hrel
        by_cases hlt : k < K
        · have oxr := ox.later hb
          obtain ⟨gx, rfl, hgx⟩ := oxr.pos (by omega)
          have hwl := HWL.out k hk1
          have hwK : wb L k < K := by omega
          have cx1 := oxr.cell hlt
          have cx2 := oxr.cell (show wb L k < K by omega)
          have h1 := HLB.out k
          have h2 := HLB.out (wb L k)
          have HWS := Lib.hid (wb_succ L k)
          obtain ⟨V, hV⟩ : ∃ V, ab (ig L k) = V := ⟨_, rfl⟩
          obtain ⟨U, hU⟩ : ∃ U, ab (ig L (wb L k)) = U := ⟨_, rfl⟩
          rw [hV, hU] at HWS
          have hki : (k : Int) < (K : Int) := by omega
          generalize ig L (wb L k) = Q2 at *
          generalize ig L k = Q at *
          by_cases hlm : U < V
          · have HM2 : Hid (wb L (k + 1) = k) := Lib.hid (by rw [HWS.out, if_pos hlm])
            clear HWS
            generalize wb L k = G2 at *
            have HV := Lib.hid hV
            have HU := Lib.hid hU
            clear hV hU oxr
            go_wp2_with fail
            apply wp_region_track [28, 29, 30, 31, 32, 33, 34, 35, 36, 37, 38] [eqv _, eqv _, eqv _, eqv _, eqv _, eqv _, eqv _, eqv _, eqv _, eqv _, eqv _]
              (fun w' => Below wr.heap.size wr w') Grw (by kernel_rfl) (by kernel_rfl) rfl (by kernel_rfl)
            case hs =>
              refine ⟨?_, ?_, ?_, ?_, ?_, ?_, ?_, ?_, ?_, ?_, ?_, trivial⟩
              · intro ev wt ht hc hg hf hI hd
                have e6 : ev (.tmp 6) = .slice (some ⟨gx, 0, none⟩) K cx := ht 6 (by decide)
                exact opok_move _ rfl ⟨hI, Below.refl _ _, e6⟩
              · intro ev wt ht hc hg hf hI hd
                have e9 : ev (.tmp 9) = .int .i64 k := ht 9 (by decide)
                exact opok_move _ rfl ⟨hI, Below.refl _ _, e9⟩
              · intro ev wt ht hc hg hf hI hd
                have e28 : ev (.tmp 28) = _ := hd 0 28 rfl rfl
                have e29 : ev (.tmp 29) = _ := hd 1 29 rfl rfl
                refine opok_gen fun N hN => ?_
                clear hd ht
                go_simp
                exact hN.out _ _ ⟨hI, Below.refl _ _, rfl⟩
              · intro ev wt ht hc hg hf hI hd
                have e30 : ev (.tmp 30) = _ := hd 2 30 rfl rfl
                have yx := (hI.cell (p := ⟨gx, k, none⟩) hgx).trans cx1
                have yy := (hI.cell (p := ⟨gx, G2, none⟩) hgx).trans cx2
                refine opok_gen fun N hN => ?_
                clear hd ht
                go_simp
                exact hN.out _ _ ⟨hI, Below.refl _ _, rfl⟩
              · intro ev wt ht hc hg hf hI hd
                have e31 : ev (.tmp 31) = _ := hd 3 31 rfl rfl
                refine opok_gen fun N hN => ?_
                clear hd ht
                go_simp
                refine (l01Abs_is _ _ _ (by omega) HV.out).mono ?_
                rintro e wz ⟨rfl, rfl⟩
                exact ⟨_, rfl, hN.out _ _ ⟨hI, Below.refl _ _, rfl⟩⟩
              · intro ev wt ht hc hg hf hI hd
                have e6 : ev (.tmp 6) = .slice (some ⟨gx, 0, none⟩) K cx := ht 6 (by decide)
                exact opok_move _ rfl ⟨hI, Below.refl _ _, e6⟩
              · intro ev wt ht hc hg hf hI hd
                have e8 : ev (.tmp 8) = .int .i64 (G2 : Nat) := ht 8 (by decide)
                exact opok_move _ rfl ⟨hI, Below.refl _ _, e8⟩
              · intro ev wt ht hc hg hf hI hd
                have e33 : ev (.tmp 33) = _ := hd 5 33 rfl rfl
                have e34 : ev (.tmp 34) = _ := hd 6 34 rfl rfl
                refine opok_gen fun N hN => ?_
                clear hd ht
                go_simp
                exact hN.out _ _ ⟨hI, Below.refl _ _, rfl⟩
              · intro ev wt ht hc hg hf hI hd
                have e35 : ev (.tmp 35) = _ := hd 7 35 rfl rfl
                have yx := (hI.cell (p := ⟨gx, k, none⟩) hgx).trans cx1
                have yy := (hI.cell (p := ⟨gx, G2, none⟩) hgx).trans cx2
                refine opok_gen fun N hN => ?_
                clear hd ht
                go_simp
                exact hN.out _ _ ⟨hI, Below.refl _ _, rfl⟩
              · intro ev wt ht hc hg hf hI hd
                have e36 : ev (.tmp 36) = _ := hd 8 36 rfl rfl
                refine opok_gen fun N hN => ?_
                clear hd ht
                go_simp
                refine (l01Abs_is _ _ _ (by omega) HU.out).mono ?_
                rintro e wz ⟨rfl, rfl⟩
                exact ⟨_, rfl, hN.out _ _ ⟨hI, Below.refl _ _, rfl⟩⟩
              · intro ev wt ht hc hg hf hI hd
                have e32 : ev (.tmp 32) = _ := hd 4 32 rfl rfl
                have e37 : ev (.tmp 37) = _ := hd 9 37 rfl rfl
                refine opok_gen fun N hN => ?_
                clear hd ht
                go_simp
                exact hN.out _ _ ⟨hI, Below.refl _ _, rfl⟩
            case hst =>
              refine fun j v w w' _ h1 h2 => StbL.nth (S := Grw) ?_ j v w w' h1 h2
              exact ⟨stb_eqv _, stb_eqv _, stb_eqv _, stb_eqv _, stb_eqv _, stb_eqv _, stb_eqv _, stb_eqv _, stb_eqv _, stb_eqv _, stb_eqv _, trivial⟩
            case hI => exact (Below.refl _ _).drew
            case hl =>
              rintro wt hI _ rfl _ rfl _ rfl _ rfl _ rfl _ rfl _ rfl _ rfl _ rfl _ rfl _ rfl
              simp only [Lasts, List.length_cons, List.length_nil, Nat.reduceAdd, List.drop_succ_cons, List.drop_zero, Act.put, List.setIfInBounds_toArray, List.set_cons_succ, List.set_cons_zero]
              rw [wpList_none]
              have hb2 := below_step hb hI
              go_wp2_with fail
              go_roundw
              case rel => exact ⟨k + 1, by omega, by omega, by rw [HM2.out], by go_num, hb2⟩
              case measure => simp [intOf]; omega
          · have HM2 : Hid (wb L (k + 1) = wb L k) := Lib.hid (by rw [HWS.out, if_neg hlm])
            clear HWS
            generalize wb L k = G2 at *
            have HV := Lib.hid hV
            have HU := Lib.hid hU
            clear hV hU oxr
            go_wp2_with fail
            apply wp_region_track [28, 29, 30, 31, 32, 33, 34, 35, 36, 37, 38] [eqv _, eqv _, eqv _, eqv _, eqv _, eqv _, eqv _, eqv _, eqv _, eqv _, eqv _]
              (fun w' => Below wr.heap.size wr w') Grw (by kernel_rfl) (by kernel_rfl) rfl (by kernel_rfl)
            case hs =>
              refine ⟨?_, ?_, ?_, ?_, ?_, ?_, ?_, ?_, ?_, ?_, ?_, trivial⟩
              · intro ev wt ht hc hg hf hI hd
                have e6 : ev (.tmp 6) = .slice (some ⟨gx, 0, none⟩) K cx := ht 6 (by decide)
                exact opok_move _ rfl ⟨hI, Below.refl _ _, e6⟩
              · intro ev wt ht hc hg hf hI hd
                have e9 : ev (.tmp 9) = .int .i64 k := ht 9 (by decide)
                exact opok_move _ rfl ⟨hI, Below.refl _ _, e9⟩
              · intro ev wt ht hc hg hf hI hd
                have e28 : ev (.tmp 28) = _ := hd 0 28 rfl rfl
                have e29 : ev (.tmp 29) = _ := hd 1 29 rfl rfl
                refine opok_gen fun N hN => ?_
                clear hd ht
                go_simp
                exact hN.out _ _ ⟨hI, Below.refl _ _, rfl⟩
              · intro ev wt ht hc hg hf hI hd
                have e30 : ev (.tmp 30) = _ := hd 2 30 rfl rfl
                have yx := (hI.cell (p := ⟨gx, k, none⟩) hgx).trans cx1
                have yy := (hI.cell (p := ⟨gx, G2, none⟩) hgx).trans cx2
                refine opok_gen fun N hN => ?_
                clear hd ht
                go_simp
                exact hN.out _ _ ⟨hI, Below.refl _ _, rfl⟩
              · intro ev wt ht hc hg hf hI hd
                have e31 : ev (.tmp 31) = _ := hd 3 31 rfl rfl
                refine opok_gen fun N hN => ?_
                clear hd ht
                go_simp
                refine (l01Abs_is _ _ _ (by omega) HV.out).mono ?_
                rintro e wz ⟨rfl, rfl⟩
                exact ⟨_, rfl, hN.out _ _ ⟨hI, Below.refl _ _, rfl⟩⟩
              · intro ev wt ht hc hg hf hI hd
                have e6 : ev (.tmp 6) = .slice (some ⟨gx, 0, none⟩) K cx := ht 6 (by decide)
                exact opok_move _ rfl ⟨hI, Below.refl _ _, e6⟩
              · intro ev wt ht hc hg hf hI hd
                have e8 : ev (.tmp 8) = .int .i64 (G2 : Nat) := ht 8 (by decide)
                exact opok_move _ rfl ⟨hI, Below.refl _ _, e8⟩
              · intro ev wt ht hc hg hf hI hd
                have e33 : ev (.tmp 33) = _ := hd 5 33 rfl rfl
                have e34 : ev (.tmp 34) = _ := hd 6 34 rfl rfl
                refine opok_gen fun N hN => ?_
                clear hd ht
                go_simp
                exact hN.out _ _ ⟨hI, Below.refl _ _, rfl⟩
              · intro ev wt ht hc hg hf hI hd
                have e35 : ev (.tmp 35) = _ := hd 7 35 rfl rfl
                have yx := (hI.cell (p := ⟨gx, k, none⟩) hgx).trans cx1
                have yy := (hI.cell (p := ⟨gx, G2, none⟩) hgx).trans cx2
                refine opok_gen fun N hN => ?_
                clear hd ht
                go_simp
                exact hN.out _ _ ⟨hI, Below.refl _ _, rfl⟩
              · intro ev wt ht hc hg hf hI hd
                have e36 : ev (.tmp 36) = _ := hd 8 36 rfl rfl
                refine opok_gen fun N hN => ?_
                clear hd ht
                go_simp
                refine (l01Abs_is _ _ _ (by omega) HU.out).mono ?_
                rintro e wz ⟨rfl, rfl⟩
                exact ⟨_, rfl, hN.out _ _ ⟨hI, Below.refl _ _, rfl⟩⟩
              · intro ev wt ht hc hg hf hI hd
                have e32 : ev (.tmp 32) = _ := hd 4 32 rfl rfl
                have e37 : ev (.tmp 37) = _ := hd 9 37 rfl rfl
                refine opok_gen fun N hN => ?_
                clear hd ht
                go_simp
                exact hN.out _ _ ⟨hI, Below.refl _ _, rfl⟩
            case hst =>
              refine fun j v w w' _ h1 h2 => StbL.nth (S := Grw) ?_ j v w w' h1 h2
              exact ⟨stb_eqv _, stb_eqv _, stb_eqv _, stb_eqv _, stb_eqv _, stb_eqv _, stb_eqv _, stb_eqv _, stb_eqv _, stb_eqv _, stb_eqv _, trivial⟩
            case hI => exact (Below.refl _ _).drew
            case hl =>
              rintro wt hI _ rfl _ rfl _ rfl _ rfl _ rfl _ rfl _ rfl _ rfl _ rfl _ rfl _ rfl
              simp only [Lasts, List.length_cons, List.length_nil, Nat.reduceAdd, List.drop_succ_cons, List.drop_zero, Act.put, List.setIfInBounds_toArray, List.set_cons_succ, List.set_cons_zero]
              rw [wpList_none]
              have hb2 := below_step hb hI
              go_wp2_with fail
              go_roundw
              case rel => exact ⟨k + 1, by omega, by omega, by rw [HM2.out], by go_num, hb2⟩
              case measure => simp [intOf]; omega
        · have hkK : K = k := by omega
          have hwl := HWL.out K (by omega)
          have HX : Hid (wb L K = wb L k) := Lib.hid (by rw [hkK])
          rw [HX.out] at hwl
          have bxr := bx1.step hb
          have z0 := bxr.c0
          have z1 := bxr.c1
          have hki : ¬ (k : Int) < (K : Int) := by omega
          clear hkK
          go_wp2_with fail
          refine (l05Chords_any _ _ _ _ _ _ net _ (h.later (below_step t1 hb)) ok).mono ?_
          rintro e w5 ⟨Ac, cc, rfl, oc, fc, b5⟩
          rw [HKK.out] at oc ⊢
          obtain ⟨gc, rfl, hgc⟩ := oc.pos (by omega)
          have cw := oc.cell hwl
          have t5 := below_step (below_step t1 hb) b5
          clear z0 z1
          generalize wb L k = G2 at *
          go_wp2_with fail
          go_ret2
          exact ⟨by rw [HR.out, HX.out]; rfl, t5⟩
  · obtain ⟨k, hk⟩ : ∃ k, codeF net zs = k := ⟨_, rfl⟩
    rw [hk] at h0
    have hne : (k != 0) = true := by simp [h0]
    have hne2 : (k == 0) = false := by simp [h0]
    have HR : Hid (rWorstResidual net zs = (0, k)) := Lib.hid (by unfold rWorstResidual; rw [hk, if_neg h0])
    go_enter Try.func30, Try.ntmps30
    go_wp2_with fail
    refine ((specResidualsOf_any _ _ _ _ _ _ net _ _ _ zs _ (h.later HB.out) (hz.later HB.out)).mono (fun e w' hw => (resOf_bad hk h0 hw))).mono ?_
    rintro e w1 ⟨Ax, cx, rfl, ox, b1⟩
    have t1 := below_step HB.out b1
    have s1 := b1
    obtain ⟨k0, k1⟩ := box_cells s1
    go_wp2_with fail
    go_ret2
    exact ⟨by rw [HR.out]; rfl, t1⟩

end Go.Proofs.Ytllblmndoigdlaa
