/- ResidualsOf, LoopError, WorstResidual, ResidualBound -/
import Derived.Test.YtllblmndoigdlaaGreatRa
namespace Go.Proofs.YtllblmndoigdlaaGreat
open Go.RowKit

theorem resL_take {net : Net} {zs : List Int} {k q : Nat} (h : (netG net).chords[k]? = some q) : (resL net zs).take (k + 1) = (resL net zs).take k ++ [res net zs (cycL net q) net.pipes.length] := by
  rw [List.take_add_one]
  congr 1
  unfold resL
  rw [List.getElem?_map, h]; rfl
def wm (L : List Int) : Nat → Int
  | 0 => -1
  | k + 1 => ab (ig L (wb L (k + 1)))
theorem wm_yes {L : List Int} {k : Nat} (h : wm L k < ab (ig L k)) : wb L (k + 1) = k ∧ wm L (k + 1) = ab (ig L k) := by
  have e : wb L (k + 1) = k := by
    rw [wb_succ]
    cases k with
    | zero =>
      have : wb L 0 = 0 := rfl
      rw [this]; split <;> rfl
    | succ k => exact if_pos h
  exact ⟨e, by show ab (ig L (wb L (k + 1))) = _; rw [e]⟩
theorem wm_no {L : List Int} {k : Nat} (h : ¬ wm L k < ab (ig L k)) : wb L (k + 1) = wb L k ∧ wm L (k + 1) = wm L k := by
  cases k with
  | zero => exact absurd (show (-1 : Int) < ab (ig L 0) by have := ab_nn (ig L 0); omega) h
  | succ k =>
    have e : wb L (k + 1 + 1) = wb L (k + 1) := by rw [wb_succ]; exact if_neg h
    exact ⟨e, by show ab (ig L (wb L (k + 1 + 1))) = ab (ig L (wb L (k + 1))); rw [e]⟩

set_option maxRecDepth 100000 in
set_option maxHeartbeats 4000000 in
theorem residualsOf_any (A : Option Addr) (n c : Nat) (B : Option Addr) (m d : Nat) (net : Net) (C : Option Addr) (l e : Nat) (zs : List Int) (w : World) (h : NetAt w A n c B m d net) (hz : Ints w C l e zs) (hv : netB net = true) (hf : flowB net zs = true) :
    Calls Tryz.prog 30 #[.agg #[.slice A n c, .slice B m d], .slice C l e] w fun e w' => ∃ Af cf, e = .returned (.slice Af (netG net).chords.length cf) ∧ Own w' Af (netG net).chords.length cf (resL net zs) ∧ Fresh w.heap.size Af ∧ Below w.heap.size w w' := by
  have HB := Lib.hid (bel1 w (.cells #[.slice A n c, .slice B m d] 27))
  have ok := NetOK.of hv
  have hm40 : m ≤ 40 := by have := ok.m40; have := h.pipes.len; omega
  have bx0 : BX (w.alloc (.cells #[.slice A n c, .slice B m d] 27)) w.heap.size A n c B m d := ⟨heap_alloc_new w _⟩
  obtain ⟨W, hW⟩ : ∃ W, W = w.alloc (.cells #[.slice A n c, .slice B m d] 27) := ⟨_, rfl⟩
  have hWs : W.heap.size = w.heap.size + 1 := by rw [hW]; simp
  go_enter Tryz.func30, Tryz.ntmps30
  go_wp2_with fail
  rw [← hW] at bx0 HB ⊢
  clear hW
  refine (chordsOf_any _ _ _ _ _ _ net _ (h.later HB.out) ok).mono ?_
  rintro e w1 ⟨Ac, cc, rfl, oc, fc, b1⟩
  obtain ⟨K, hK⟩ : ∃ K, (netG net).chords.length = K := ⟨_, rfl⟩
  have hK40 : K ≤ 40 := by have := chords_le net; have := h.pipes.len; omega
  rw [hK] at oc ⊢
  have HKK := Lib.hid hK
  clear hK
  have bx1 := bx0.step b1
  have T1 := Lib.hid (below_step HB.out b1)
  have hw1 := T1.out.size
  clear b1 bx0
  go_wp2_with fail
  go_loopw [5, 11] (fun o i wr => ∃ (k : Nat) (Ao : Option Addr) (co : Nat), k ≤ K ∧ o = .slice Ao k co ∧ i = .int .i64 k ∧ Own wr Ao k co ((resL net zs).take k) ∧ Fresh w1.heap.size Ao ∧ Below w1.heap.size w1 wr) (fun _ i _ => K - (intOf i).toNat)
  case atStart => exact ⟨0, none, 0, by omega, rfl, rfl, Own.nil, (fun a ha => by cases ha), Below.refl _ _⟩
  case round =>
    obtain ⟨k, Ao, co, hk, rfl, rfl, oo, fo, hb⟩ := hrel
    by_cases hlt : k < K
    · have hlt' : k < (netG net).chords.length := by rw [HKK.out]; exact hlt
      obtain ⟨q, hq⟩ : ∃ q, (netG net).chords[k]? = some q := ⟨_, List.getElem?_eq_getElem hlt'⟩
      have HQ := Lib.hid (chord_mem hq)
      have HT := Lib.hid (resL_take (zs := zs) hq)
      have hrb := res_bnd hv hf (cycL_cyc ok (chord_mem hq)) net.pipes.length ok.m40
      have oc1 := oc.later hb
      obtain ⟨ga, rfl, hga⟩ := oc1.pos (by omega)
      have c1 := oc1.cell hlt
      rw [nl_ig hlt', (List.getElem?_eq_some_iff.1 hq).2] at c1
      clear hq oc1
      have bxr := bx1.step hb
      have z0 := bxr.c0
      have z1 := bxr.c1
      go_wp2_with fail
      refine (residualOf_any _ _ _ _ _ _ net _ _ _ zs q _ (h.later (below_step T1.out hb)) (hz.later (below_step T1.out hb)) hv hf HQ.out).mono ?_
      rintro e w5 ⟨rfl, b5⟩
      have oo5 := oo.later b5
      have hb5 := below_step hb b5
      clear z0 z1 c1 oo hb bxr
      generalize res net zs (cycL net q) net.pipes.length = RZ at *
      go_wp2_with (at_builtin; refine law_append _ rfl _ _ rfl Ao _ co _ rfl (oo5.later (bel1 _ _)) _ _ RZ ⟨by omega, by omega⟩ rfl (cell_new1 _ _ _) (by omega) ?_; intro A3 c3 w3 ho3 hg3 hb3)
      have t2 := below_step hb5 (bel1 w5 (.cells #[.int .i64 RZ] 2))
      have r1 : Own w3 A3 (k + 1) c3 ((resL net zs).take (k + 1)) := by rw [HT.out]; exact ho3
      have r2 := fresh_app' fo t2.size hb3
      have r3 := below_app t2 fo hg3
      clear oo5 hb5 ho3 hg3 hb3 t2
      go_roundw
      case rel => exact ⟨k + 1, A3, c3, by omega, rfl, by go_num, r1, r2, r3⟩
      case measure => simp [intOf]; omega
    · have hkK : K = k := by omega
      have HE : Hid ((resL net zs).take k = resL net zs) := Lib.hid (by rw [List.take_of_length_le]; rw [resL_len, HKK.out, hkK]; exact Nat.le_refl _)
      rw [HE.out] at oo
      subst hkK
      go_wp2_with fail
      go_ret
      rw [HKK.out]
      exact ⟨Ao, co, rfl, oo, fresh_up fo hw1, below_step T1.out hb⟩

set_option maxRecDepth 100000 in
set_option maxHeartbeats 2000000 in
theorem implResidualsOf_any (A : Option Addr) (n c : Nat) (B : Option Addr) (m d : Nat) (net : Net) (C : Option Addr) (l e : Nat) (zs : List Int) (w : World) (h : NetAt w A n c B m d net) (hz : Ints w C l e zs) :
    Calls Tryz.prog 8 #[.agg #[.slice A n c, .slice B m d], .slice C l e] w fun e w' => RetLI w (rResidualsOf net zs) e w' := by
  have HB := Lib.hid (bel1 w (.cells #[.slice A n c, .slice B m d] 27))
  by_cases h0 : codeF net zs = 0
  · obtain ⟨hv, hs⟩ := codeF_zero h0
    have ok := NetOK.of hv
    have HR : Hid (rResidualsOf net zs = (resL net zs, 0)) := Lib.hid (by unfold rResidualsOf; rw [if_pos h0])
    go_enter Tryz.func8, Tryz.ntmps8
    go_wp2_with fail
    refine (checkFlows_is _ _ _ _ _ _ _ _ _ net zs _ _ (h.later HB.out) (hz.later HB.out) h0).mono ?_
    rintro e w1 ⟨rfl, b1⟩
    have t1 := below_step HB.out b1
    have s1 := b1
    obtain ⟨k0, k1⟩ := box_cells s1
    go_wp2_with fail
    refine (residualsOf_any _ _ _ _ _ _ net _ _ _ zs _ (h.later t1) (hz.later t1) hv hs).mono ?_
    rintro e w2 ⟨Ax, cx, rfl, ox, fx, b2⟩
    clear k0 k1
    have t2 := below_step t1 b2
    have s2 := below_step s1 b2
    obtain ⟨k0, k1⟩ := box_cells s2
    go_wp2_with fail
    go_ret2
    exact retLI_own rfl HR.out ox (fresh_up fx t1.size) t2
  · obtain ⟨k, hk⟩ : ∃ k, codeF net zs = k := ⟨_, rfl⟩
    rw [hk] at h0
    have hne : (k != 0) = true := by simp [h0]
    have hne2 : (k == 0) = false := by simp [h0]
    have HR : Hid (rResidualsOf net zs = ([], k)) := Lib.hid (by unfold rResidualsOf; rw [hk, if_neg h0])
    go_enter Tryz.func8, Tryz.ntmps8
    go_wp2_with fail
    refine (checkFlows_is _ _ _ _ _ _ _ _ _ net zs _ _ (h.later HB.out) (hz.later HB.out) hk).mono ?_
    rintro e w1 ⟨rfl, b1⟩
    have t1 := below_step HB.out b1
    have s1 := b1
    obtain ⟨k0, k1⟩ := box_cells s1
    go_wp2_with fail
    go_ret2
    exact retLI_nil rfl HR.out t1

set_option maxRecDepth 100000 in
set_option maxHeartbeats 4000000 in
theorem specResidualsOf_any (A : Option Addr) (n c : Nat) (B : Option Addr) (m d : Nat) (net : Net) (C : Option Addr) (l e : Nat) (zs : List Int) (w : World) (h : NetAt w A n c B m d net) (hz : Ints w C l e zs) :
    Calls Tryz.prog 9 #[.agg #[.slice A n c, .slice B m d], .slice C l e] w fun e w' => RetLI w (rResidualsOf net zs) e w' := by
  have HB := Lib.hid (bel1 w (.cells #[.slice A n c, .slice B m d] 27))
  have bxW : BX (w.alloc (.cells #[.slice A n c, .slice B m d] 27)) w.heap.size A n c B m d := ⟨heap_alloc_new w _⟩
  by_cases h0 : codeF net zs = 0
  · obtain ⟨hv, hs⟩ := codeF_zero h0
    have ok := NetOK.of hv
    have HR : Hid (rResidualsOf net zs = (resL net zs, 0)) := Lib.hid (by unfold rResidualsOf; rw [if_pos h0])
    go_enter Tryz.func9, Tryz.ntmps9
    go_wp2_with fail
    refine (l05Code_is _ _ _ _ _ _ _ _ _ net zs _ _ (h.later HB.out) (hz.later HB.out) h0).mono ?_
    rintro e w1 ⟨rfl, b1⟩
    have t1 := below_step HB.out b1
    have s1 := b1
    obtain ⟨k0, k1⟩ := box_cells s1
    go_wp2_with fail
    refine (l05Basis_any _ _ _ _ _ _ net _ (h.later t1) ok).mono ?_
    rintro e w2 ⟨gs, Ab, cb, rfl, ob, fb, b2⟩
    clear k0 k1
    have t2 := below_step t1 b2
    have s2 := below_step s1 b2
    obtain ⟨k0, k1⟩ := box_cells s2
    obtain ⟨K, hK⟩ : ∃ K, (netG net).chords.length = K := ⟨_, rfl⟩
    have hK40 : K ≤ 40 := by have := chords_le net; have := ok.m40; omega
    rw [hK] at ob ⊢
    have HKK := Lib.hid hK
    have hw2 := t2.size
    clear hK k0 k1
    have o0 := own_lit0 w2
    have HF := Lib.hid hs
    have T2 := Lib.hid t2
    have bx2 := (bxW.step b1).step b2
    go_wp2_with fail
    go_loopw [8, 9] (fun o i wr => ∃ (k : Nat) (Ao : Option Addr) (co : Nat), k ≤ K ∧ o = .slice Ao k co ∧ i = .int .i64 k ∧ Own wr Ao k co ((resL net zs).take k) ∧ Fresh w2.heap.size Ao ∧ Below w2.heap.size w2 wr) (fun _ i _ => K - (intOf i).toNat)
    case atStart => exact ⟨0, some ⟨w2.heap.size, 0, none⟩, 0, by omega, rfl, rfl, o0, (fun a ha => by injection ha with ha; subst ha; exact Nat.le_refl _), bel1 _ _⟩
    case round =>
      obtain ⟨k, Ao, co, hk, rfl, rfl, oo, fo, hb⟩ := hrel
      clear o0
      by_cases hlt : k < K
      · have hlt' : k < (netG net).chords.length := by rw [HKK.out]; exact hlt
        obtain ⟨q, hq⟩ : ∃ q, (netG net).chords[k]? = some q := ⟨_, List.getElem?_eq_getElem hlt'⟩
        have HQ := Lib.hid (chord_mem hq)
        have HT := Lib.hid (resL_take (zs := zs) hq)
        have hrb := res_bnd hv hs (cycL_cyc ok (chord_mem hq)) net.pipes.length ok.m40
        have obr := ob.later hb
        obtain ⟨gb, rfl, hgb⟩ := obr.pos (by omega)
        obtain ⟨gc, cs, e1, e2, ocs, _, hgc⟩ := obr.at hlt
        rw [basL_at hq] at e2
        injection e2 with e2
        subst e2
        have cgb := obr.cell e1
        have OCS := Lib.hid ocs
        have BXR := Lib.hid (bx2.step hb)
        have TR := Lib.hid (below_step T2.out hb)
        have z0 := BXR.out.c0
        have z1 := BXR.out.c1
        obtain ⟨RZ, hRZ⟩ : ∃ RZ, res net zs (cycL net q) net.pipes.length = RZ := ⟨_, rfl⟩
        rw [hRZ] at hrb HT
        have HRZ := Lib.hid hRZ
        have OO := Lib.hid oo
        clear hq obr hRZ e1 ocs oo
        have hki : (k : Int) < (K : Int) := by omega
        go_wp2_with fail
        apply wp_region_track [25, 26, 27, 28, 29, 30, 31, 32, 33] [eqv _, eqv _, eqv _, eqv _, eqv _, eqv _, eqv _, eqv _, isRow wr.heap.size 1 1 [RZ]]
          (fun w' => Below wr.heap.size wr w') Grw (by kernel_rfl) (by kernel_rfl) rfl (by kernel_rfl)
        case hs =>
          refine ⟨?_, ?_, ?_, ?_, ?_, ?_, ?_, ?_, ?_, trivial⟩
          · intro ev wt ht hc hg hf hI hd
            have e8 : ev (.tmp 8) = .slice Ao k co := ht 8 (by decide)
            exact opok_move _ rfl ⟨hI, Below.refl _ _, e8⟩
          · intro ev wt ht hc hg hf hI hd
            have e2 : ev (.tmp 2) = .pointer (some ⟨w.heap.size, 0, none⟩) := ht 2 (by decide)
            have y0 := (BXR.out.step hI).c0
            have y1 := (BXR.out.step hI).c1
            have yc := (hI.cell (p := ⟨gb, k, none⟩) hgb).trans cgb
            refine opok_gen fun N hN => ?_
            clear hd ht
            go_simp
            exact hN.out _ _ ⟨hI, Below.refl _ _, rfl⟩
          · intro ev wt ht hc hg hf hI hd
            have e1 : ev (.tmp 1) = .slice C l e := ht 1 (by decide)
            exact opok_move _ rfl ⟨hI, Below.refl _ _, e1⟩
          · intro ev wt ht hc hg hf hI hd
            have e7 : ev (.tmp 7) = .slice (some ⟨gb, 0, none⟩) K cb := ht 7 (by decide)
            exact opok_move _ rfl ⟨hI, Below.refl _ _, e7⟩
          · intro ev wt ht hc hg hf hI hd
            have e9 : ev (.tmp 9) = .int .i64 k := ht 9 (by decide)
            exact opok_move _ rfl ⟨hI, Below.refl _ _, e9⟩
          · intro ev wt ht hc hg hf hI hd
            have e28 : ev (.tmp 28) = _ := hd 3 28 rfl rfl
            have e29 : ev (.tmp 29) = _ := hd 4 29 rfl rfl
            refine opok_gen fun N hN => ?_
            clear hd ht
            go_simp
            exact hN.out _ _ ⟨hI, Below.refl _ _, rfl⟩
          · intro ev wt ht hc hg hf hI hd
            have e30 : ev (.tmp 30) = _ := hd 5 30 rfl rfl
            have y0 := (BXR.out.step hI).c0
            have y1 := (BXR.out.step hI).c1
            have yc := (hI.cell (p := ⟨gb, k, none⟩) hgb).trans cgb
            refine opok_gen fun N hN => ?_
            clear hd ht
            go_simp
            exact hN.out _ _ ⟨hI, Below.refl _ _, rfl⟩
          · intro ev wt ht hc hg hf hI hd
            have e26 : ev (.tmp 26) = _ := hd 1 26 rfl rfl
            have e27 : ev (.tmp 27) = _ := hd 2 27 rfl rfl
            have e31 : ev (.tmp 31) = _ := hd 6 31 rfl rfl
            refine opok_gen fun N hN => ?_
            clear hd ht
            go_simp
            refine (l10Residual_any _ _ _ _ _ _ net _ _ _ zs _ _ _ _ _ (h.later (below_step TR.out hI)) (hz.later (below_step TR.out hI)) (OCS.out.later hI).ints hv HF.out (cycL_cyc ok HQ.out)).mono ?_
            rintro e wz ⟨rfl, bz_⟩
            rw [HRZ.out]
            exact ⟨_, rfl, hN.out _ _ ⟨below_step hI bz_, bz_, rfl⟩⟩
          · intro ev wt ht hc hg hf hI hd
            have e32 : ev (.tmp 32) = _ := hd 7 32 rfl rfl
            refine opok_gen fun N hN => ?_
            clear hd ht
            go_simp
            exact hN.out _ _ ⟨below_step hI (bel1 _ _), bel1 _ _, ⟨_, rfl, own_lit _ _ ⟨by omega, by omega⟩, hI.size⟩⟩
        case hst =>
          refine fun j v w w' _ h1 h2 => StbL.nth (S := Grw) ?_ j v w w' h1 h2
          exact ⟨stb_eqv _, stb_eqv _, stb_eqv _, stb_eqv _, stb_eqv _, stb_eqv _, stb_eqv _, stb_eqv _, stb_row, trivial⟩
        case hI => exact (Below.refl _ _).drew
        case hl =>
          rintro wt hI _ rfl _ rfl _ rfl _ rfl _ rfl _ rfl _ rfl _ rfl _ ⟨bl, rfl, ol, hbl⟩
          simp only [Lasts, List.length_cons, List.length_nil, Nat.reduceAdd, List.drop_succ_cons, List.drop_zero, Act.put, List.setIfInBounds_toArray, List.set_cons_succ, List.set_cons_zero]
          clear z0 z1 cgb
          have oo6 := OO.out.later hI
          have hb6 := below_step hb hI
          have cl := ol.cell (j := 0) (by omega)
          go_wp2_with (at_builtin; refine law_append _ rfl _ _ rfl Ao _ co _ rfl oo6 _ _ RZ ⟨by omega, by omega⟩ rfl cl (by omega) ?_; intro A3 c3 w3 ho3 hg3 hb3)
          have r1 : Own w3 A3 (k + 1) c3 ((resL net zs).take (k + 1)) := by rw [HT.out]; exact ho3
          have r2 := fresh_app' fo hb6.size hb3
          have r3 := below_app hb6 fo hg3
          clear oo6 hb6 ho3 hg3 hb3 cl ol
          go_roundw
          case rel => exact ⟨k + 1, A3, c3, by omega, rfl, by go_num, r1, r2, r3⟩
          case measure => simp [intOf]; omega
      · have hkK : K = k := by omega
        have HE : Hid ((resL net zs).take k = resL net zs) := Lib.hid (by rw [List.take_of_length_le]; rw [resL_len, HKK.out, hkK]; exact Nat.le_refl _)
        rw [HE.out] at oo
        subst hkK
        have hki : ¬ (K : Int) < (K : Int) := by omega
        go_wp2_with fail
        go_ret2
        exact retLI_own rfl HR.out oo (fresh_up fo hw2) (below_step T2.out hb)
  · obtain ⟨k, hk⟩ : ∃ k, codeF net zs = k := ⟨_, rfl⟩
    rw [hk] at h0
    have hne : (k != 0) = true := by simp [h0]
    have hne2 : (k == 0) = false := by simp [h0]
    have HR : Hid (rResidualsOf net zs = ([], k)) := Lib.hid (by unfold rResidualsOf; rw [hk, if_neg h0])
    go_enter Tryz.func9, Tryz.ntmps9
    go_wp2_with fail
    refine (l05Code_is _ _ _ _ _ _ _ _ _ net zs _ _ (h.later HB.out) (hz.later HB.out) hk).mono ?_
    rintro e w1 ⟨rfl, b1⟩
    have t1 := below_step HB.out b1
    have s1 := b1
    obtain ⟨k0, k1⟩ := box_cells s1
    go_wp2_with fail
    go_ret2
    exact retLI_nil rfl HR.out t1

end Go.Proofs.YtllblmndoigdlaaGreat
