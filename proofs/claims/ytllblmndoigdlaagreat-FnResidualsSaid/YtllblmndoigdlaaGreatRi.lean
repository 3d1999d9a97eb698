/- IsRelaxed: the reference -/
import Derived.Test.YtllblmndoigdlaaGreatRf
namespace Go.Proofs.YtllblmndoigdlaaGreat
open Go.RowKit

theorem relaxed_code {net : Net} {zs : List Int} (h0 : ¬ codeF net zs = 0) : rIsRelaxed net zs = false := by
  rcases hv : netB net with _ | _
  · unfold rIsRelaxed; rw [hv]; rfl
  · rcases hf : flowB net zs with _ | _
    · unfold rIsRelaxed; rw [hv, hf]; rfl
    · exact absurd (by unfold codeF; rw [hv, hf]; rfl) h0
set_option maxRecDepth 100000 in
set_option maxHeartbeats 8000000 in
theorem specIsRelaxed_any (A : Option Addr) (n c : Nat) (B : Option Addr) (m d : Nat) (net : Net) (C : Option Addr) (l e : Nat) (zs : List Int) (w : World) (h : NetAt w A n c B m d net) (hz : Ints w C l e zs) :
    Calls Tryz.prog 7 #[.agg #[.slice A n c, .slice B m d], .slice C l e] w fun e w' => e = .returned (.bool (rIsRelaxed net zs)) ∧ Below w.heap.size w w' := by
  have HB := Lib.hid (bel1 w (.cells #[.slice A n c, .slice B m d] 27))
  have bxW : BX (w.alloc (.cells #[.slice A n c, .slice B m d] 27)) w.heap.size A n c B m d := ⟨heap_alloc_new w _⟩
  by_cases h0 : codeF net zs = 0
  · obtain ⟨hv, hf⟩ := codeF_zero h0
    have ok := NetOK.of hv
    go_enter Tryz.func7, Tryz.ntmps7
    go_wp2_with fail
    refine (l05Code_is _ _ _ _ _ _ _ _ _ net zs _ _ (h.later HB.out) (hz.later HB.out) h0).mono ?_
    rintro e w1 ⟨rfl, b1⟩
    have t1 := below_step HB.out b1
    have s1 := b1
    obtain ⟨k0, k1⟩ := box_cells s1
    go_wp2_with fail
    refine (l05Basis_any _ _ _ _ _ _ net _ (h.later t1) ok).mono ?_
    rintro e w2 ⟨gs, Ab, cb, rfl, oS, fS, b2⟩
    clear k0 k1
    have t2 := below_step t1 b2
    have s2 := below_step s1 b2
    obtain ⟨k0, k1⟩ := box_cells s2
    obtain ⟨K, hK⟩ : ∃ K, (netG net).chords.length = K := ⟨_, rfl⟩
    have hK40 : K ≤ 40 := by have := chords_le net; have := ok.m40; omega
    rw [hK] at oS ⊢
    have HKK := Lib.hid hK
    have bx2 := (bxW.step b1).step b2
    have T2 := Lib.hid t2
    have hKc := oS.cap
    clear hK k0 k1
    go_wp2_with fail
    go_loopw [6] (fun i wr => ∃ k : Nat, k ≤ K ∧ i = .int .i64 k ∧ Hid (Calm net zs k) ∧ Below w2.heap.size w2 wr) (fun i _ => K - (intOf i).toNat)
    case atStart => exact ⟨0, by omega, rfl, Lib.hid (Calm.zero net zs), Below.refl _ _⟩
    case round =>
      obtain ⟨k, hk, rfl, hC, hb⟩ := hrel
      by_cases hlt : k < K
      · have hlt' : k < (netG net).chords.length := by rw [HKK.out]; exact hlt
        obtain ⟨q, hq⟩ : ∃ q, (netG net).chords[k]? = some q := ⟨_, List.getElem?_eq_getElem hlt'⟩
        have HQ := Lib.hid (chord_mem hq)
        have HQK := Lib.hid hq
        have HCY := Lib.hid (cycL_cyc ok HQ.out)
        have osr := oS.later hb
        obtain ⟨gb, rfl, hgb⟩ := osr.pos (by omega)
        obtain ⟨gc, cs, e1, e2, ocs, _, hgc⟩ := osr.at hlt
        have hcs : cs = cycL net q := by rw [basL_at hq] at e2; injection e2 with e2; exact e2.symm
        rw [hcs] at ocs
        have cgb := osr.cell e1
        have bxr := bx2.step hb
        have z0 := bxr.c0
        have z1 := bxr.c1
        have lt0 := bxr.lt
        have hki : (k : Int) < (K : Int) := by omega
        clear hq e1 e2 osr hcs
        rcases h1 : lowB net zs (cycL net q) 1 with _ | _
        · rcases h2 : lowB net zs (cycL net q) (-1) with _ | _
          · have HC2 := Lib.hid (hC.out.succ HQK.out h1 h2)
            have hmark : True := trivial
            clear hC
            go_wp2_with fail
            go_region_with (first | (go_at_call 28; clear hmark; refine (l10Lower_is _ _ _ _ _ _ net _ _ _ zs _ _ _ (cycL net q) 1 _ _ (h.later (below_step T2.out hb.drew)) (hz.later (below_step T2.out hb.drew)) (ocs.later (Below.refl _ _).drew).ints (by omega) hv hf HCY.out h1).mono ?_; rintro e w5 ⟨rfl, b5'⟩; have b5 : Below wr.heap.size wr w5 := (Below.refl _ _).drew.trans b5'; have hb5 := below_step hb b5; have ocs5 := ocs.later b5; have cg5 := (b5.cell (p := ⟨gb, k, none⟩) hgb).trans cgb; have y0 := (b5.cell (p := ⟨w.heap.size, 0, none⟩) lt0).trans z0; have y1 := (b5.cell (p := ⟨w.heap.size, 1, none⟩) lt0).trans z1; clear b5') | (go_at_call 28; refine (l10Lower_is _ _ _ _ _ _ net _ _ _ zs _ _ _ (cycL net q) (-1) _ _ (h.later (below_step T2.out hb5)) (hz.later (below_step T2.out hb5)) ocs5.ints (by omega) hv hf HCY.out h2).mono ?_; rintro e w6 ⟨rfl, b6⟩; have hb6 := below_step hb5 b6))
            all_goals
              clear z0 z1 cgb y0 y1 cg5
              go_wp2_with fail
              go_roundw
              case rel => exact ⟨k + 1, by omega, by go_num, HC2, hb6⟩
              case measure => simp [intOf]; omega
          · have HR : Hid (rIsRelaxed net zs = false) := Lib.hid (relaxed_no HQ.out (.inr rfl) h2)
            have hmark : True := trivial
            clear hC
            go_wp2_with fail
            go_region_with (first | (go_at_call 28; clear hmark; refine (l10Lower_is _ _ _ _ _ _ net _ _ _ zs _ _ _ (cycL net q) 1 _ _ (h.later (below_step T2.out hb.drew)) (hz.later (below_step T2.out hb.drew)) (ocs.later (Below.refl _ _).drew).ints (by omega) hv hf HCY.out h1).mono ?_; rintro e w5 ⟨rfl, b5'⟩; have b5 : Below wr.heap.size wr w5 := (Below.refl _ _).drew.trans b5'; have hb5 := below_step hb b5; have ocs5 := ocs.later b5; have cg5 := (b5.cell (p := ⟨gb, k, none⟩) hgb).trans cgb; have y0 := (b5.cell (p := ⟨w.heap.size, 0, none⟩) lt0).trans z0; have y1 := (b5.cell (p := ⟨w.heap.size, 1, none⟩) lt0).trans z1; clear b5') | (go_at_call 28; refine (l10Lower_is _ _ _ _ _ _ net _ _ _ zs _ _ _ (cycL net q) (-1) _ _ (h.later (below_step T2.out hb5)) (hz.later (below_step T2.out hb5)) ocs5.ints (by omega) hv hf HCY.out h2).mono ?_; rintro e w6 ⟨rfl, b6⟩; have hb6 := below_step hb5 b6))
            all_goals
              clear z0 z1 cgb y0 y1 cg5
              go_wp2_with fail
              go_ret
              exact ⟨ret_bool HR.out.symm, below_step T2.out hb6⟩
        · have HR : Hid (rIsRelaxed net zs = false) := Lib.hid (relaxed_no HQ.out (.inl rfl) h1)
          clear hC
          go_wp2_with fail
          refine wp_region_any (by kernel_rfl) ?_
          try (change wpAny _ _ _ _ _ _ _ (World.drew _))
          refine wpAny_take (i := 1) (v := _) rfl (by kernel_rfl) (by kernel_rfl) (by kernel_rfl) (fun _ _ _ h => h) (Or.inl ⟨by rfl, by intro w; go_simp; try with_reducible rfl⟩) ?_
          simp only [Act.put, List.getElem_toArray, List.getElem_cons_zero, List.getElem_cons_succ, List.setIfInBounds_toArray, List.set_cons_succ, List.set_cons_zero]
          refine wpAny_take (i := 2) (v := _) rfl (by kernel_rfl) (by kernel_rfl) (by kernel_rfl) (fun _ _ _ h => h) (Or.inl ⟨by rfl, by intro w; go_simp; try with_reducible rfl⟩) ?_
          simp only [Act.put, List.getElem_toArray, List.getElem_cons_zero, List.getElem_cons_succ, List.setIfInBounds_toArray, List.set_cons_succ, List.set_cons_zero]
          refine wpAny_take (i := 3) (v := _) rfl (by kernel_rfl) (by kernel_rfl) (by kernel_rfl) (fun _ _ _ h => h) (Or.inl ⟨by rfl, by intro w; go_simp; try with_reducible rfl⟩) ?_
          simp only [Act.put, List.getElem_toArray, List.getElem_cons_zero, List.getElem_cons_succ, List.setIfInBounds_toArray, List.set_cons_succ, List.set_cons_zero]
          refine wpAny_take (i := 4) (v := _) rfl (by kernel_rfl) (by kernel_rfl) (by kernel_rfl) (fun _ _ _ h => h) (Or.inl ⟨by rfl, by intro w; go_simp; try with_reducible rfl⟩) ?_
          simp only [Act.put, List.getElem_toArray, List.getElem_cons_zero, List.getElem_cons_succ, List.setIfInBounds_toArray, List.set_cons_succ, List.set_cons_zero]
          refine wpAny_ready (rs := [0, 5]) (by kernel_rfl) (by simp) (AllReady.cons rfl (fun K hK => ?_) (AllReady.cons rfl (fun K hK => ?_) AllReady.nil))
          · go_simp
            refine hK _ _ ?_
            clear hK K
            refine wpAny_ready (rs := [5]) (by kernel_rfl) (by simp) (AllReady.cons rfl (fun K hK => ?_) AllReady.nil)
            go_simp
            refine hK _ _ ?_
            clear hK K
            refine wpAny_ready (rs := [6]) (by kernel_rfl) (by simp) (AllReady.cons rfl (fun K hK => ?_) AllReady.nil)
            go_simp
            go_wp2_with (go_at_call 28; refine (l10Lower_is _ _ _ _ _ _ net _ _ _ zs _ _ _ (cycL net q) 1 _ _ (h.later (below_step T2.out hb.drew)) (hz.later (below_step T2.out hb.drew)) (ocs.later (Below.refl _ _).drew).ints (by omega) hv hf HCY.out h1).mono ?_; rintro e w5 ⟨rfl, b5'⟩; have b5 : Below wr.heap.size wr w5 := (Below.refl _ _).drew.trans b5'; have hb5 := below_step hb b5; have ocs5 := ocs.later b5; have cg5 := (b5.cell (p := ⟨gb, k, none⟩) hgb).trans cgb; have y0 := (b5.cell (p := ⟨w.heap.size, 0, none⟩) lt0).trans z0; have y1 := (b5.cell (p := ⟨w.heap.size, 1, none⟩) lt0).trans z1; clear b5')
            refine wpAny_take (i := 7) (v := _) rfl (by kernel_rfl) (by kernel_rfl) (by kernel_rfl) (fun _ _ _ h => h) (Or.inl ⟨by rfl, by intro w; go_simp; try with_reducible rfl⟩) ?_
            simp only [Act.put, List.getElem_toArray, List.getElem_cons_zero, List.getElem_cons_succ, List.setIfInBounds_toArray, List.set_cons_succ, List.set_cons_zero]
            refine wpAny_take (i := 8) (v := undef) rfl (by kernel_rfl) (by kernel_rfl) (by kernel_rfl) (fun _ _ _ h => h) (Or.inr ⟨by rfl, rfl⟩) ?_
            simp only [Act.put, List.getElem_toArray, List.getElem_cons_zero, List.getElem_cons_succ, List.setIfInBounds_toArray, List.set_cons_succ, List.set_cons_zero]
            refine wpAny_take (i := 9) (v := undef) rfl (by kernel_rfl) (by kernel_rfl) (by kernel_rfl) (fun _ _ _ h => h) (Or.inr ⟨by rfl, rfl⟩) ?_
            simp only [Act.put, List.getElem_toArray, List.getElem_cons_zero, List.getElem_cons_succ, List.setIfInBounds_toArray, List.set_cons_succ, List.set_cons_zero]
            refine wpAny_take (i := 10) (v := undef) rfl (by kernel_rfl) (by kernel_rfl) (by kernel_rfl) (fun _ _ _ h => h) (Or.inr ⟨by rfl, rfl⟩) ?_
            simp only [Act.put, List.getElem_toArray, List.getElem_cons_zero, List.getElem_cons_succ, List.setIfInBounds_toArray, List.set_cons_succ, List.set_cons_zero]
            refine wpAny_take (i := 11) (v := undef) rfl (by kernel_rfl) (by kernel_rfl) (by kernel_rfl) (fun _ _ _ h => h) (Or.inr ⟨by rfl, rfl⟩) ?_
            simp only [Act.put, List.getElem_toArray, List.getElem_cons_zero, List.getElem_cons_succ, List.setIfInBounds_toArray, List.set_cons_succ, List.set_cons_zero]
            refine wpAny_take (i := 12) (v := undef) rfl (by kernel_rfl) (by kernel_rfl) (by kernel_rfl) (fun _ _ _ h => h) (Or.inr ⟨by rfl, rfl⟩) ?_
            simp only [Act.put, List.getElem_toArray, List.getElem_cons_zero, List.getElem_cons_succ, List.setIfInBounds_toArray, List.set_cons_succ, List.set_cons_zero]
            refine wpAny_take (i := 13) (v := undef) rfl (by kernel_rfl) (by kernel_rfl) (by kernel_rfl) (fun _ _ _ h => h) (Or.inr ⟨by rfl, rfl⟩) ?_
            simp only [Act.put, List.getElem_toArray, List.getElem_cons_zero, List.getElem_cons_succ, List.setIfInBounds_toArray, List.set_cons_succ, List.set_cons_zero]
            refine wpAny_take (i := 14) (v := undef) rfl (by kernel_rfl) (by kernel_rfl) (by kernel_rfl) (fun _ _ _ h => h) (Or.inr ⟨by rfl, rfl⟩) ?_
            simp only [Act.put, List.getElem_toArray, List.getElem_cons_zero, List.getElem_cons_succ, List.setIfInBounds_toArray, List.set_cons_succ, List.set_cons_zero]
            refine wpAny_take (i := 15) (v := _) rfl (by kernel_rfl) (by kernel_rfl) (by kernel_rfl) (fun _ _ _ h => h) (Or.inl ⟨by rfl, by intro w; go_simp; try with_reducible rfl⟩) ?_
            simp only [Act.put, List.getElem_toArray, List.getElem_cons_zero, List.getElem_cons_succ, List.setIfInBounds_toArray, List.set_cons_succ, List.set_cons_zero]
            refine wpAny_done (by kernel_rfl) ?_ _
            clear z0 z1 cgb y0 y1 cg5
            go_wp2_with fail
            go_ret
            exact ⟨ret_bool HR.out.symm, below_step T2.out hb5⟩
          · go_simp
            refine hK _ _ ?_
            clear hK K
            refine wpAny_ready (rs := [0]) (by kernel_rfl) (by simp) (AllReady.cons rfl (fun K hK => ?_) AllReady.nil)
            go_simp
            refine hK _ _ ?_
            clear hK K
            refine wpAny_ready (rs := [6]) (by kernel_rfl) (by simp) (AllReady.cons rfl (fun K hK => ?_) AllReady.nil)
            go_simp
            go_wp2_with (go_at_call 28; refine (l10Lower_is _ _ _ _ _ _ net _ _ _ zs _ _ _ (cycL net q) 1 _ _ (h.later (below_step T2.out hb.drew)) (hz.later (below_step T2.out hb.drew)) (ocs.later (Below.refl _ _).drew).ints (by omega) hv hf HCY.out h1).mono ?_; rintro e w5 ⟨rfl, b5'⟩; have b5 : Below wr.heap.size wr w5 := (Below.refl _ _).drew.trans b5'; have hb5 := below_step hb b5; have ocs5 := ocs.later b5; have cg5 := (b5.cell (p := ⟨gb, k, none⟩) hgb).trans cgb; have y0 := (b5.cell (p := ⟨w.heap.size, 0, none⟩) lt0).trans z0; have y1 := (b5.cell (p := ⟨w.heap.size, 1, none⟩) lt0).trans z1; clear b5')
            refine wpAny_take (i := 7) (v := _) rfl (by kernel_rfl) (by kernel_rfl) (by kernel_rfl) (fun _ _ _ h => h) (Or.inl ⟨by rfl, by intro w; go_simp; try with_reducible rfl⟩) ?_
            simp only [Act.put, List.getElem_toArray, List.getElem_cons_zero, List.getElem_cons_succ, List.setIfInBounds_toArray, List.set_cons_succ, List.set_cons_zero]
            refine wpAny_take (i := 8) (v := undef) rfl (by kernel_rfl) (by kernel_rfl) (by kernel_rfl) (fun _ _ _ h => h) (Or.inr ⟨by rfl, rfl⟩) ?_
            simp only [Act.put, List.getElem_toArray, List.getElem_cons_zero, List.getElem_cons_succ, List.setIfInBounds_toArray, List.set_cons_succ, List.set_cons_zero]
            refine wpAny_take (i := 9) (v := undef) rfl (by kernel_rfl) (by kernel_rfl) (by kernel_rfl) (fun _ _ _ h => h) (Or.inr ⟨by rfl, rfl⟩) ?_
            simp only [Act.put, List.getElem_toArray, List.getElem_cons_zero, List.getElem_cons_succ, List.setIfInBounds_toArray, List.set_cons_succ, List.set_cons_zero]
            refine wpAny_take (i := 10) (v := undef) rfl (by kernel_rfl) (by kernel_rfl) (by kernel_rfl) (fun _ _ _ h => h) (Or.inr ⟨by rfl, rfl⟩) ?_
            simp only [Act.put, List.getElem_toArray, List.getElem_cons_zero, List.getElem_cons_succ, List.setIfInBounds_toArray, List.set_cons_succ, List.set_cons_zero]
            refine wpAny_take (i := 11) (v := undef) rfl (by kernel_rfl) (by kernel_rfl) (by kernel_rfl) (fun _ _ _ h => h) (Or.inr ⟨by rfl, rfl⟩) ?_
            simp only [Act.put, List.getElem_toArray, List.getElem_cons_zero, List.getElem_cons_succ, List.setIfInBounds_toArray, List.set_cons_succ, List.set_cons_zero]
            refine wpAny_take (i := 12) (v := undef) rfl (by kernel_rfl) (by kernel_rfl) (by kernel_rfl) (fun _ _ _ h => h) (Or.inr ⟨by rfl, rfl⟩) ?_
            simp only [Act.put, List.getElem_toArray, List.getElem_cons_zero, List.getElem_cons_succ, List.setIfInBounds_toArray, List.set_cons_succ, List.set_cons_zero]
            refine wpAny_take (i := 13) (v := undef) rfl (by kernel_rfl) (by kernel_rfl) (by kernel_rfl) (fun _ _ _ h => h) (Or.inr ⟨by rfl, rfl⟩) ?_
            simp only [Act.put, List.getElem_toArray, List.getElem_cons_zero, List.getElem_cons_succ, List.setIfInBounds_toArray, List.set_cons_succ, List.set_cons_zero]
            refine wpAny_take (i := 14) (v := undef) rfl (by kernel_rfl) (by kernel_rfl) (by kernel_rfl) (fun _ _ _ h => h) (Or.inr ⟨by rfl, rfl⟩) ?_
            simp only [Act.put, List.getElem_toArray, List.getElem_cons_zero, List.getElem_cons_succ, List.setIfInBounds_toArray, List.set_cons_succ, List.set_cons_zero]
            refine wpAny_take (i := 15) (v := _) rfl (by kernel_rfl) (by kernel_rfl) (by kernel_rfl) (fun _ _ _ h => h) (Or.inl ⟨by rfl, by intro w; go_simp; try with_reducible rfl⟩) ?_
            simp only [Act.put, List.getElem_toArray, List.getElem_cons_zero, List.getElem_cons_succ, List.setIfInBounds_toArray, List.set_cons_succ, List.set_cons_zero]
            refine wpAny_done (by kernel_rfl) ?_ _
            clear z0 z1 cgb y0 y1 cg5
            go_wp2_with fail
            go_ret
            exact ⟨ret_bool HR.out.symm, below_step T2.out hb5⟩
      · have HR : Hid (rIsRelaxed net zs = true) := Lib.hid (hC.out.fin hv hf (by rw [HKK.out]; omega))
        have hki : ¬ (k : Int) < (K : Int) := by omega
        clear hC
        go_wp2_with fail
        go_ret
        exact ⟨ret_bool HR.out.symm, below_step T2.out hb⟩
  · have HR : Hid (rIsRelaxed net zs = false) := Lib.hid (relaxed_code h0)
    obtain ⟨k, hk⟩ : ∃ k, codeF net zs = k := ⟨_, rfl⟩
    rw [hk] at h0
    have hne : (k != 0) = true := by simp [h0]
    go_enter Tryz.func7, Tryz.ntmps7
    go_wp2_with fail
    refine (l05Code_is _ _ _ _ _ _ _ _ _ net zs _ _ (h.later HB.out) (hz.later HB.out) hk).mono ?_
    rintro e w1 ⟨rfl, b1⟩
    have t1 := below_step HB.out b1
    have s1 := b1
    obtain ⟨k0, k1⟩ := box_cells s1
    go_wp2_with fail
    go_ret
    exact ⟨ret_bool HR.out.symm, t1⟩

end Go.Proofs.YtllblmndoigdlaaGreat
