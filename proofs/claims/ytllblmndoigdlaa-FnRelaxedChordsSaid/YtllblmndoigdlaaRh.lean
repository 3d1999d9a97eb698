/- IsCirculation, ChordFlows, FromChords -/
import Derived.Test.YtllblmndoigdlaaRa
namespace Go.Proofs.Ytllblmndoigdlaa
open Go.RowKit

theorem chF_take {net : Net} {zs : List Int} {k q : Nat} (h : (netG net).chords[k]? = some q) : (chF net zs).take (k + 1) = (chF net zs).take k ++ [ig zs q] := by
  rw [List.take_add_one]
  congr 1
  unfold chF
  rw [List.getElem?_map, h]; rfl
theorem rChordFlows_len (net : Net) (zs : List Int) (_h : zs.length ≤ 1048576) : (rChordFlows net zs).1.length ≤ 1048576 := by
  unfold rChordFlows
  by_cases h0 : codeF net zs = 0
  · rw [if_pos h0]
    have := (netB_sizes (codeF_zero h0).1).2.2
    have := chords_le net
    show (chF _ _).length ≤ _
    rw [chF_len]; omega
  · rw [if_neg h0]; simp

set_option maxRecDepth 100000 in
set_option maxHeartbeats 2000000 in
theorem implIsCirculation_any (A : Option Addr) (n c : Nat) (B : Option Addr) (m d : Nat) (net : Net) (C : Option Addr) (l e : Nat) (zs : List Int) (w : World) (h : NetAt w A n c B m d net) (hz : Ints w C l e zs) :
    Calls Try.prog 11 #[.agg #[.slice A n c, .slice B m d], .slice C l e] w fun e w' => e = .returned (.bool (rIsCirc net zs)) ∧ Below w.heap.size w w' := by
  have HB := Lib.hid (bel1 w (.cells #[.slice A n c, .slice B m d] 27))
  rcases hv : netB net with _ | _
  · have HR : Hid (rIsCirc net zs = false) := Lib.hid (by unfold rIsCirc; rw [hv]; rfl)
    go_enter Try.func11, Try.ntmps11
    go_wp2_with fail
    refine (implIsNetwork_is _ _ _ _ _ _ net _ _ (h.later HB.out) hv).mono ?_
    rintro e w1 ⟨rfl, b1⟩
    have t1 := below_step HB.out b1
    have s1 := b1
    obtain ⟨k0, k1⟩ := box_cells s1
    go_wp2_with fail
    go_ret
    exact ⟨ret_bool HR.out.symm, t1⟩
  · rcases hf : flowB net zs with _ | _
    · have HR : Hid (rIsCirc net zs = false) := Lib.hid (by unfold rIsCirc; rw [hv, hf]; rfl)
      go_enter Try.func11, Try.ntmps11
      go_wp2_with fail
      refine (implIsNetwork_is _ _ _ _ _ _ net _ _ (h.later HB.out) hv).mono ?_
      rintro e w1 ⟨rfl, b1⟩
      have t1 := below_step HB.out b1
      have s1 := b1
      obtain ⟨k0, k1⟩ := box_cells s1
      go_wp2_with fail
      refine (isFlowList_is _ _ _ _ _ _ _ _ _ net _ _ _ (h.later t1) (hz.later t1) hf).mono ?_
      rintro e w2 ⟨rfl, b2⟩
      clear k0 k1
      have t2 := below_step t1 b2
      have s2 := below_step s1 b2
      obtain ⟨k0, k1⟩ := box_cells s2
      go_wp2_with fail
      go_ret
      exact ⟨ret_bool HR.out.symm, t2⟩
    · rcases hZ : allB (outL n net.pipes zs m) 0 0 with _ | _
      · have HR : Hid (rIsCirc net zs = false) := Lib.hid (by unfold rIsCirc; rw [hv, hf, h.nodes.len, h.pipes.len, hZ]; rfl)
        have HZ := Lib.hid hZ
        clear hZ
        go_enter Try.func11, Try.ntmps11
        go_wp2_with fail
        refine (implIsNetwork_is _ _ _ _ _ _ net _ _ (h.later HB.out) hv).mono ?_
        rintro e w1 ⟨rfl, b1⟩
        have t1 := below_step HB.out b1
        have s1 := b1
        obtain ⟨k0, k1⟩ := box_cells s1
        go_wp2_with fail
        refine (isFlowList_is _ _ _ _ _ _ _ _ _ net _ _ _ (h.later t1) (hz.later t1) hf).mono ?_
        rintro e w2 ⟨rfl, b2⟩
        clear k0 k1
        have t2 := below_step t1 b2
        have s2 := below_step s1 b2
        obtain ⟨k0, k1⟩ := box_cells s2
        go_wp2_with fail
        refine (outflows_any _ _ _ _ _ _ net _ _ _ zs _ (h.later t2) (hz.later t2) hv hf).mono ?_
        rintro e w3 ⟨Ao, co, rfl, oo, fo, b3⟩
        clear k0 k1
        have t3 := below_step t2 b3
        have s3 := below_step s2 b3
        obtain ⟨k0, k1⟩ := box_cells s3
        go_wp2_with fail
        refine (allWithin_any _ _ _ _ _ _ _ oo.ints).mono ?_
        rintro e w' ⟨rfl, rfl⟩
        clear k0 k1
        obtain ⟨k0, k1⟩ := box_cells s3
        rw [HZ.out]
        go_wp2_with fail
        go_ret
        exact ⟨ret_bool HR.out.symm, t3⟩
      · have HR : Hid (rIsCirc net zs = true) := Lib.hid (by unfold rIsCirc; rw [hv, hf, h.nodes.len, h.pipes.len, hZ]; rfl)
        have HZ := Lib.hid hZ
        clear hZ
        go_enter Try.func11, Try.ntmps11
        go_wp2_with fail
        refine (implIsNetwork_is _ _ _ _ _ _ net _ _ (h.later HB.out) hv).mono ?_
        rintro e w1 ⟨rfl, b1⟩
        have t1 := below_step HB.out b1
        have s1 := b1
        obtain ⟨k0, k1⟩ := box_cells s1
        go_wp2_with fail
        refine (isFlowList_is _ _ _ _ _ _ _ _ _ net _ _ _ (h.later t1) (hz.later t1) hf).mono ?_
        rintro e w2 ⟨rfl, b2⟩
        clear k0 k1
        have t2 := below_step t1 b2
        have s2 := below_step s1 b2
        obtain ⟨k0, k1⟩ := box_cells s2
        go_wp2_with fail
        refine (outflows_any _ _ _ _ _ _ net _ _ _ zs _ (h.later t2) (hz.later t2) hv hf).mono ?_
        rintro e w3 ⟨Ao, co, rfl, oo, fo, b3⟩
        clear k0 k1
        have t3 := below_step t2 b3
        have s3 := below_step s2 b3
        obtain ⟨k0, k1⟩ := box_cells s3
        go_wp2_with fail
        refine (allWithin_any _ _ _ _ _ _ _ oo.ints).mono ?_
        rintro e w' ⟨rfl, rfl⟩
        clear k0 k1
        obtain ⟨k0, k1⟩ := box_cells s3
        rw [HZ.out]
        go_wp2_with fail
        go_ret
        exact ⟨ret_bool HR.out.symm, t3⟩

set_option maxRecDepth 100000 in
set_option maxHeartbeats 2000000 in
theorem specIsCirculation_any (A : Option Addr) (n c : Nat) (B : Option Addr) (m d : Nat) (net : Net) (C : Option Addr) (l e : Nat) (zs : List Int) (w : World) (h : NetAt w A n c B m d net) (hz : Ints w C l e zs) :
    Calls Try.prog 12 #[.agg #[.slice A n c, .slice B m d], .slice C l e] w fun e w' => e = .returned (.bool (rIsCirc net zs)) ∧ Below w.heap.size w w' := by
  have HB := Lib.hid (bel1 w (.cells #[.slice A n c, .slice B m d] 27))
  rcases hv : netB net with _ | _
  · have HR : Hid (rIsCirc net zs = false) := Lib.hid (by unfold rIsCirc; rw [hv]; rfl)
    go_enter Try.func12, Try.ntmps12
    go_wp2_with fail
    refine (specIsNetwork_is _ _ _ _ _ _ net _ _ (h.later HB.out) hv).mono ?_
    rintro e w1 ⟨rfl, b1⟩
    have t1 := below_step HB.out b1
    have s1 := b1
    obtain ⟨k0, k1⟩ := box_cells s1
    go_wp2_with fail
    go_ret
    exact ⟨ret_bool HR.out.symm, t1⟩
  · rcases hf : flowB net zs with _ | _
    · have HR : Hid (rIsCirc net zs = false) := Lib.hid (by unfold rIsCirc; rw [hv, hf]; rfl)
      go_enter Try.func12, Try.ntmps12
      go_wp2_with fail
      refine (specIsNetwork_is _ _ _ _ _ _ net _ _ (h.later HB.out) hv).mono ?_
      rintro e w1 ⟨rfl, b1⟩
      have t1 := below_step HB.out b1
      have s1 := b1
      obtain ⟨k0, k1⟩ := box_cells s1
      go_wp2_with fail
      refine (l05List_is _ _ _ _ _ _ _ _ _ net _ _ _ (h.later t1) (hz.later t1) hf).mono ?_
      rintro e w2 ⟨rfl, b2⟩
      clear k0 k1
      have t2 := below_step t1 b2
      have s2 := below_step s1 b2
      obtain ⟨k0, k1⟩ := box_cells s2
      go_wp2_with fail
      go_ret
      exact ⟨ret_bool HR.out.symm, t2⟩
    · rcases hZ : allB (outL n net.pipes zs m) 0 0 with _ | _
      · have HR : Hid (rIsCirc net zs = false) := Lib.hid (by unfold rIsCirc; rw [hv, hf, h.nodes.len, h.pipes.len, hZ]; rfl)
        have HZ := Lib.hid hZ
        clear hZ
        go_enter Try.func12, Try.ntmps12
        go_wp2_with fail
        refine (specIsNetwork_is _ _ _ _ _ _ net _ _ (h.later HB.out) hv).mono ?_
        rintro e w1 ⟨rfl, b1⟩
        have t1 := below_step HB.out b1
        have s1 := b1
        obtain ⟨k0, k1⟩ := box_cells s1
        go_wp2_with fail
        refine (l05List_is _ _ _ _ _ _ _ _ _ net _ _ _ (h.later t1) (hz.later t1) hf).mono ?_
        rintro e w2 ⟨rfl, b2⟩
        clear k0 k1
        have t2 := below_step t1 b2
        have s2 := below_step s1 b2
        obtain ⟨k0, k1⟩ := box_cells s2
        go_wp2_with fail
        refine (l05Out_any _ _ _ _ _ _ net _ _ _ zs _ (h.later t2) (hz.later t2) hv hf).mono ?_
        rintro e w3 ⟨Ao, co, rfl, oo, fo, b3⟩
        clear k0 k1
        have t3 := below_step t2 b3
        have s3 := below_step s2 b3
        obtain ⟨k0, k1⟩ := box_cells s3
        go_wp2_with fail
        refine (l05Zero_any _ _ _ _ _ oo.ints).mono ?_
        rintro e w' ⟨rfl, rfl⟩
        clear k0 k1
        obtain ⟨k0, k1⟩ := box_cells s3
        rw [HZ.out]
        go_wp2_with fail
        go_ret
        exact ⟨ret_bool HR.out.symm, t3⟩
      · have HR : Hid (rIsCirc net zs = true) := Lib.hid (by unfold rIsCirc; rw [hv, hf, h.nodes.len, h.pipes.len, hZ]; rfl)
        have HZ := Lib.hid hZ
        clear hZ
        go_enter Try.func12, Try.ntmps12
        go_wp2_with fail
        refine (specIsNetwork_is _ _ _ _ _ _ net _ _ (h.later HB.out) hv).mono ?_
        rintro e w1 ⟨rfl, b1⟩
        have t1 := below_step HB.out b1
        have s1 := b1
        obtain ⟨k0, k1⟩ := box_cells s1
        go_wp2_with fail
        refine (l05List_is _ _ _ _ _ _ _ _ _ net _ _ _ (h.later t1) (hz.later t1) hf).mono ?_
        rintro e w2 ⟨rfl, b2⟩
        clear k0 k1
        have t2 := below_step t1 b2
        have s2 := below_step s1 b2
        obtain ⟨k0, k1⟩ := box_cells s2
        go_wp2_with fail
        refine (l05Out_any _ _ _ _ _ _ net _ _ _ zs _ (h.later t2) (hz.later t2) hv hf).mono ?_
        rintro e w3 ⟨Ao, co, rfl, oo, fo, b3⟩
        clear k0 k1
        have t3 := below_step t2 b3
        have s3 := below_step s2 b3
        obtain ⟨k0, k1⟩ := box_cells s3
        go_wp2_with fail
        refine (l05Zero_any _ _ _ _ _ oo.ints).mono ?_
        rintro e w' ⟨rfl, rfl⟩
        clear k0 k1
        obtain ⟨k0, k1⟩ := box_cells s3
        rw [HZ.out]
        go_wp2_with fail
        go_ret
        exact ⟨ret_bool HR.out.symm, t3⟩

set_option maxRecDepth 100000 in
set_option maxHeartbeats 4000000 in
theorem implChordFlows_any (A : Option Addr) (n c : Nat) (B : Option Addr) (m d : Nat) (net : Net) (C : Option Addr) (l e : Nat) (zs : List Int) (w : World) (h : NetAt w A n c B m d net) (hz : Ints w C l e zs) :
    Calls Try.prog 13 #[.agg #[.slice A n c, .slice B m d], .slice C l e] w fun e w' => RetLI w (rChordFlows net zs) e w' := by
  have HB := Lib.hid (bel1 w (.cells #[.slice A n c, .slice B m d] 27))
  by_cases h0 : codeF net zs = 0
  · obtain ⟨hv, hs⟩ := codeF_zero h0
    have ok := NetOK.of hv
    have HR : Hid (rChordFlows net zs = (chF net zs, 0)) := Lib.hid (by unfold rChordFlows; rw [if_pos h0])
    go_enter Try.func13, Try.ntmps13
    go_wp2_with fail
    refine (checkFlows_is _ _ _ _ _ _ _ _ _ net zs _ _ (h.later HB.out) (hz.later HB.out) h0).mono ?_
    rintro e w1 ⟨rfl, b1⟩
    have t1 := below_step HB.out b1
    have s1 := b1
    obtain ⟨k0, k1⟩ := box_cells s1
    go_wp2_with fail
    refine (chordsOf_any _ _ _ _ _ _ net _ (h.later t1) ok).mono ?_
    rintro e w2 ⟨Ac, cc, rfl, oc, fc, b2⟩
    clear k0 k1
    have t2 := below_step t1 b2
    have s2 := below_step s1 b2
    obtain ⟨k0, k1⟩ := box_cells s2
    obtain ⟨K, hK⟩ : ∃ K, (netG net).chords.length = K := ⟨_, rfl⟩
    have hK40 : K ≤ 40 := by have := chords_le net; have := ok.m40; omega
    rw [hK] at oc ⊢
    have HKK := Lib.hid hK
    have T2 := Lib.hid t2
    have hw2 := t2.size
    have HLM : Hid (l = m) := Lib.hid (by have := flowB_len hs; have := h.pipes.len; have := hz.len; omega)
    clear hK k0 k1
    have hzle := hz.le
    have hzcap := hz.cap
    go_wp2_with fail
    go_loopw [7, 19] (fun o i wr => ∃ (k : Nat) (Ao : Option Addr) (co : Nat), k ≤ K ∧ o = .slice Ao k co ∧ i = .int .i64 k ∧ Own wr Ao k co ((chF net zs).take k) ∧ Fresh w2.heap.size Ao ∧ Below w2.heap.size w2 wr) (fun _ i _ => K - (intOf i).toNat)
    case atStart => exact ⟨0, none, 0, by omega, rfl, rfl, Own.nil, (fun a ha => by cases ha), Below.refl _ _⟩
    case round =>
      obtain ⟨k, Ao, co, hk, rfl, rfl, oo, fo, hb⟩ := hrel
      by_cases hlt : k < K
      · have hlt' : k < (netG net).chords.length := by rw [HKK.out]; exact hlt
        obtain ⟨q, hq⟩ : ∃ q, (netG net).chords[k]? = some q := ⟨_, List.getElem?_eq_getElem hlt'⟩
        have HT := Lib.hid (chF_take (zs := zs) hq)
        have hql : q < l := by have := (Gr.mem_chords.1 (chord_mem hq)).1; have h2 : (netG net).m = net.pipes.length := rfl; have := h.pipes.len; have := HLM.out; omega
        have hzq := flowB_all hs q
        have oc1 := oc.later hb
        obtain ⟨ga, rfl, hga⟩ := oc1.pos (by omega)
        have c1 := oc1.cell hlt
        rw [nl_ig hlt', (List.getElem?_eq_some_iff.1 hq).2] at c1
        obtain ⟨bz, offz, rfl, hblz, hcz⟩ := (hz.later (below_step T2.out hb)).cells (by omega)
        have hckz := hcz q hql
        have hki : (k : Int) < (K : Int) := by omega
        clear hq oc1 hcz
        generalize ig zs q = Q at *
        go_wp2_with (at_builtin; refine law_append _ rfl _ _ rfl Ao _ co _ rfl (oo.later (bel1 _ _)) _ _ Q ⟨by omega, by omega⟩ rfl (cell_new1 _ _ _) (by omega) ?_; intro A3 c3 w3 ho3 hg3 hb3)
        have t2 := below_step hb (bel1 wr (.cells #[.int .i64 Q] 2))
        have r1 : Own w3 A3 (k + 1) c3 ((chF net zs).take (k + 1)) := by rw [HT.out]; exact ho3
        have r2 := fresh_app' fo t2.size hb3
        have r3 := below_app t2 fo hg3
        clear oo ho3 hg3 hb3 t2 hb
        go_roundw
        case rel => exact ⟨k + 1, A3, c3, by omega, rfl, by go_num, r1, r2, r3⟩
        case measure => simp [intOf]; omega
      · have hkK : K = k := by omega
        have HE : Hid ((chF net zs).take k = chF net zs) := Lib.hid (by rw [List.take_of_length_le]; rw [chF_len, HKK.out, hkK]; exact Nat.le_refl _)
        rw [HE.out] at oo
        subst hkK
        have hki : ¬ (K : Int) < (K : Int) := by omega
        go_wp2_with fail
        go_ret2
        exact retLI_own rfl HR.out oo (fresh_up fo hw2) (below_step T2.out hb)
  · obtain ⟨k, hk⟩ : ∃ k, codeF net zs = k := ⟨_, rfl⟩
    rw [hk] at h0
    have hne : (k != 0) = true := by simp [h0]
    have hne2 : (k == 0) = false := by simp [h0]
    have HR : Hid (rChordFlows net zs = ([], k)) := Lib.hid (by unfold rChordFlows; rw [hk, if_neg h0])
    go_enter Try.func13, Try.ntmps13
    go_wp2_with fail
    refine (checkFlows_is _ _ _ _ _ _ _ _ _ net zs _ _ (h.later HB.out) (hz.later HB.out) hk).mono ?_
    rintro e w1 ⟨rfl, b1⟩
    have t1 := below_step HB.out b1
    have s1 := b1
    obtain ⟨k0, k1⟩ := box_cells s1
    go_wp2_with fail
    go_ret2
    exact retLI_nil rfl HR.out t1

set_option maxRecDepth 100000 in
set_option maxHeartbeats 4000000 in
theorem specChordFlows_any (A : Option Addr) (n c : Nat) (B : Option Addr) (m d : Nat) (net : Net) (C : Option Addr) (l e : Nat) (zs : List Int) (w : World) (h : NetAt w A n c B m d net) (hz : Ints w C l e zs) :
    Calls Try.prog 21 #[.agg #[.slice A n c, .slice B m d], .slice C l e] w fun e w' => RetLI w (rChordFlows net zs) e w' := by
  have HB := Lib.hid (bel1 w (.cells #[.slice A n c, .slice B m d] 27))
  by_cases h0 : codeF net zs = 0
  · obtain ⟨hv, hs⟩ := codeF_zero h0
    have ok := NetOK.of hv
    have HR : Hid (rChordFlows net zs = (chF net zs, 0)) := Lib.hid (by unfold rChordFlows; rw [if_pos h0])
    go_enter Try.func21, Try.ntmps21
    go_wp2_with fail
    refine (l05Code_is _ _ _ _ _ _ _ _ _ net zs _ _ (h.later HB.out) (hz.later HB.out) h0).mono ?_
    rintro e w1 ⟨rfl, b1⟩
    have t1 := below_step HB.out b1
    have s1 := b1
    obtain ⟨k0, k1⟩ := box_cells s1
    go_wp2_with fail
    refine (l05Chords_any _ _ _ _ _ _ net _ (h.later t1) ok).mono ?_
    rintro e w2 ⟨Ac, cc, rfl, oc, fc, b2⟩
    clear k0 k1
    have t2 := below_step t1 b2
    have s2 := below_step s1 b2
    obtain ⟨k0, k1⟩ := box_cells s2
    obtain ⟨K, hK⟩ : ∃ K, (netG net).chords.length = K := ⟨_, rfl⟩
    have hK40 : K ≤ 40 := by have := chords_le net; have := ok.m40; omega
    rw [hK] at oc ⊢
    have HKK := Lib.hid hK
    have T2 := Lib.hid t2
    have hw2 := t2.size
    have HLM : Hid (l = m) := Lib.hid (by have := flowB_len hs; have := h.pipes.len; have := hz.len; omega)
    clear hK k0 k1
    have o0 := own_lit0 w2
    have hzle := hz.le
    have hzcap := hz.cap
    go_wp2_with fail
    go_loopw [8, 9] (fun o i wr => ∃ (k : Nat) (Ao : Option Addr) (co : Nat), k ≤ K ∧ o = .slice Ao k co ∧ i = .int .i64 k ∧ Own wr Ao k co ((chF net zs).take k) ∧ Fresh w2.heap.size Ao ∧ Below w2.heap.size w2 wr) (fun _ i _ => K - (intOf i).toNat)
    case atStart => exact ⟨0, some ⟨w2.heap.size, 0, none⟩, 0, by omega, rfl, rfl, o0, (fun a ha => by injection ha with ha; subst ha; exact Nat.le_refl _), bel1 _ _⟩
    case round =>
      obtain ⟨k, Ao, co, hk, rfl, rfl, oo, fo, hb⟩ := hrel
      clear o0
      by_cases hlt : k < K
      · have hlt' : k < (netG net).chords.length := by rw [HKK.out]; exact hlt
        obtain ⟨q, hq⟩ : ∃ q, (netG net).chords[k]? = some q := ⟨_, List.getElem?_eq_getElem hlt'⟩
        have HT := Lib.hid (chF_take (zs := zs) hq)
        have hql : q < l := by have := (Gr.mem_chords.1 (chord_mem hq)).1; have h2 : (netG net).m = net.pipes.length := rfl; have := h.pipes.len; have := HLM.out; omega
        have hzq := flowB_all hs q
        have oc1 := oc.later hb
        obtain ⟨ga, rfl, hga⟩ := oc1.pos (by omega)
        have c1 := oc1.cell hlt
        rw [nl_ig hlt', (List.getElem?_eq_some_iff.1 hq).2] at c1
        obtain ⟨bz, offz, rfl, hblz, hcz⟩ := (hz.later (below_step T2.out hb)).cells (by omega)
        have hckz := hcz q hql
        have hki : (k : Int) < (K : Int) := by omega
        clear hq oc1 hcz
        generalize ig zs q = Q at *
        go_wp2_with (at_builtin; refine law_append _ rfl _ _ rfl Ao _ co _ rfl (oo.later (bel1 _ _)) _ _ Q ⟨by omega, by omega⟩ rfl (cell_new1 _ _ _) (by omega) ?_; intro A3 c3 w3 ho3 hg3 hb3)
        have t2 := below_step hb (bel1 wr (.cells #[.int .i64 Q] 2))
        have r1 : Own w3 A3 (k + 1) c3 ((chF net zs).take (k + 1)) := by rw [HT.out]; exact ho3
        have r2 := fresh_app' fo t2.size hb3
        have r3 := below_app t2 fo hg3
        clear oo ho3 hg3 hb3 t2 hb
        go_roundw
        case rel => exact ⟨k + 1, A3, c3, by omega, rfl, by go_num, r1, r2, r3⟩
        case measure => simp [intOf]; omega
      · have hkK : K = k := by omega
        have HE : Hid ((chF net zs).take k = chF net zs) := Lib.hid (by rw [List.take_of_length_le]; rw [chF_len, HKK.out, hkK]; exact Nat.le_refl _)
        rw [HE.out] at oo
        subst hkK
        have hki : ¬ (K : Int) < (K : Int) := by omega
        go_wp2_with fail
        go_ret2
        exact retLI_own rfl HR.out oo (fresh_up fo hw2) (below_step T2.out hb)
  · obtain ⟨k, hk⟩ : ∃ k, codeF net zs = k := ⟨_, rfl⟩
    rw [hk] at h0
    have hne : (k != 0) = true := by simp [h0]
    have hne2 : (k == 0) = false := by simp [h0]
    have HR : Hid (rChordFlows net zs = ([], k)) := Lib.hid (by unfold rChordFlows; rw [hk, if_neg h0])
    go_enter Try.func21, Try.ntmps21
    go_wp2_with fail
    refine (l05Code_is _ _ _ _ _ _ _ _ _ net zs _ _ (h.later HB.out) (hz.later HB.out) hk).mono ?_
    rintro e w1 ⟨rfl, b1⟩
    have t1 := below_step HB.out b1
    have s1 := b1
    obtain ⟨k0, k1⟩ := box_cells s1
    go_wp2_with fail
    go_ret2
    exact retLI_nil rfl HR.out t1

/-! ### FromChords -/
theorem own_fc0 {net : Net} {zs : List Int} {m c : Nat} {w : World} {A : Option Addr} (hm : net.pipes.length = m) (h : Own w A m c (List.replicate m 0)) : Own w A m c (fcK net zs 0) := by
  have e : fcK net zs 0 = List.replicate m 0 := by show List.replicate net.pipes.length 0 = _; rw [hm]
  rw [e]; exact h
theorem fc_bnd {net : Net} {zs : List Int} (ok : NetOK net) (hz : allB zs (-30000) 30000 = true) {k : Nat} (hk : k ≤ 40) (j : Nat) : -1200000 ≤ ig (fcK net zs k) j ∧ ig (fcK net zs k) j ≤ 1200000 := by
  have h1 : ∀ j, -30000 ≤ ig zs j ∧ ig zs j ≤ 30000 := fun j => by
    rcases Nat.lt_or_ge j zs.length with hj | hj
    · exact allB_at hz j hj
    · rw [ig_ge hj]; omega
  have := fcK_bnd ok h1 k j
  have h2 : (30000 : Int) * k ≤ 1200000 := by omega
  omega
/-- the inner loop: the first i pipes have been added -/
def fcM (fs cs : List Int) (a : Int) (i : Nat) : List Int := mapTo fs.length (fun j => if j < i then ig fs j + a * ig cs j else ig fs j)
theorem fcM_zero (fs cs : List Int) (a : Int) : fcM fs cs a 0 = fs := ext_ig (mapTo_len _ _) fun j hj => by rw [fcM, mapTo_len] at hj; rw [fcM, mapTo_ig hj]; simp
theorem fcM_set {fs cs : List Int} {a : Int} {k : Nat} : (fcM fs cs a k).set k (ig fs k + a * ig cs k) = fcM fs cs a (k + 1) := mapTo_set fun v _ => by
  by_cases e : k = v
  · subst e; rw [if_pos rfl, if_pos (by omega)]
  · rw [if_neg e]
    by_cases h : v < k
    · rw [if_pos h, if_pos (by omega)]
    · rw [if_neg h, if_neg (by omega)]
theorem fcM_end {fs cs : List Int} {a : Int} {k : Nat} (h : fs.length ≤ k) : fcM fs cs a k = addL fs cs a := List.map_congr_left fun v hv => by
  have := List.mem_range.1 hv
  rw [if_pos (by omega)]
theorem fcM_at {fs cs : List Int} {a : Int} {k : Nat} (h : k < fs.length) : ig (fcM fs cs a k) k = ig fs k := by rw [fcM, mapTo_ig h, if_neg (by omega)]

set_option maxRecDepth 100000 in
set_option maxHeartbeats 8000000 in
theorem implFromChords_any (A : Option Addr) (n c : Nat) (B : Option Addr) (m d : Nat) (net : Net) (C : Option Addr) (l e : Nat) (zs : List Int) (w : World) (h : NetAt w A n c B m d net) (hz : Ints w C l e zs) :
    Calls Try.prog 14 #[.agg #[.slice A n c, .slice B m d], .slice C l e] w fun e w' => RetLI w (rFromChords net zs) e w' := by
  have HB := Lib.hid (bel1 w (.cells #[.slice A n c, .slice B m d] 27))
  have bxW : BX (w.alloc (.cells #[.slice A n c, .slice B m d] 27)) w.heap.size A n c B m d := ⟨heap_alloc_new w _⟩
  have hm40 : netB net = true → m ≤ 40 := fun hv => by have := (netB_sizes hv).2.2; have := h.pipes.len; omega
  rcases hv : netB net with _ | _
  · have HR : Hid (rFromChords net zs = ([], 1)) := Lib.hid (by unfold rFromChords; rw [hv]; rfl)
    clear hm40
    go_enter Try.func14, Try.ntmps14
    go_wp2_with fail
    refine (implIsNetwork_is _ _ _ _ _ _ net _ _ (h.later HB.out) hv).mono ?_
    rintro e w1 ⟨rfl, b1⟩
    have t1 := below_step HB.out b1
    have s1 := b1
    obtain ⟨k0, k1⟩ := box_cells s1
    go_wp2_with fail
    go_ret2
    exact retLI_nil rfl HR.out t1
  · replace hm40 := hm40 hv
    have ok := NetOK.of hv
    obtain ⟨K, hK⟩ : ∃ K, (netG net).chords.length = K := ⟨_, rfl⟩
    have hK40 : K ≤ 40 := by have := chords_le net; have := ok.m40; omega
    have hzl := Lib.hid hz.len
    by_cases hlk : l = K
    · have HLK := Lib.hid hlk
      have hle2 : ((l : Int) != (K : Int)) = false := by simp [hlk]
      clear hlk
      rcases hA : allB zs (-30000) 30000 with _ | _
      · have HR : Hid (rFromChords net zs = ([], 2)) := Lib.hid (by unfold rFromChords; rw [hv, if_pos rfl, hzl.out, HLK.out, hK, if_pos rfl, hA]; rfl)
        have HA := Lib.hid hA
        go_enter Try.func14, Try.ntmps14
        go_wp2_with fail
        refine (implIsNetwork_is _ _ _ _ _ _ net _ _ (h.later HB.out) hv).mono ?_
        rintro e w1 ⟨rfl, b1⟩
        have t1 := below_step HB.out b1
        have s1 := b1
        obtain ⟨k0, k1⟩ := box_cells s1
        go_wp2_with fail
        refine (chordsOf_any _ _ _ _ _ _ net _ (h.later t1) ok).mono ?_
        rintro e w2 ⟨Ac, cc, rfl, oc, fc, b2⟩
        clear k0 k1
        have t2 := below_step t1 b2
        have s2 := below_step s1 b2
        obtain ⟨k0, k1⟩ := box_cells s2
        rw [hK] at oc ⊢
        go_wp2_with fail
        refine (allWithin_any _ _ _ _ _ _ _ (hz.later t2)).mono ?_
        rintro e w' ⟨rfl, rfl⟩
        clear k0 k1
        obtain ⟨k0, k1⟩ := box_cells s2
        rw [HA.out]
        go_wp2_with fail
        go_ret2
        exact retLI_nil rfl HR.out t2
      · have HA := Lib.hid hA
        rcases hS : allB (fcK net zs (netG net).chords.length) (-30000) 30000 with _ | _
        · have HR : Hid (rFromChords net zs = ([], 2)) := Lib.hid (by unfold rFromChords; rw [hv, if_pos rfl, hzl.out, HLK.out, hK, if_pos rfl, hA, if_pos rfl, ← hK, hS]; rfl)
          have HSS := Lib.hid hS
          clear hS
          go_enter Try.func14, Try.ntmps14
          go_wp2_with fail
          refine (implIsNetwork_is _ _ _ _ _ _ net _ _ (h.later HB.out) hv).mono ?_
          rintro e w1 ⟨rfl, b1⟩
          have t1 := below_step HB.out b1
          have s1 := b1
          obtain ⟨k0, k1⟩ := box_cells s1
          go_wp2_with fail
          refine (chordsOf_any _ _ _ _ _ _ net _ (h.later t1) ok).mono ?_
          rintro e w2 ⟨Ac, cc, rfl, oc, fc, b2⟩
          clear k0 k1
          have t2 := below_step t1 b2
          have s2 := below_step s1 b2
          obtain ⟨k0, k1⟩ := box_cells s2
          rw [hK] at oc ⊢
          go_wp2_with fail
          refine (allWithin_any _ _ _ _ _ _ _ (hz.later t2)).mono ?_
          rintro e w' ⟨rfl, rfl⟩
          clear k0 k1
          obtain ⟨k0, k1⟩ := box_cells s2
          rw [HA.out]
          go_wp2_with (at_make; refine law_make _ rfl _ _ rfl m _ _ rfl rfl rfl rfl (by omega) ?_; intro w3 o3 b3 z3)
          have hclt := oc.lt
          have hbxlt : w.heap.size < w2.heap.size := Nat.lt_of_lt_of_le bxW.lt s2.size
          have T3 := Lib.hid (below_step t2 b3)
          have bx3 := ((bxW.step b1).step b2).step b3
          have oc3 := oc.later b3
          have hcl := oc3.lt
          have HF3 : Hid (w.heap.size ≤ w2.heap.size) := Lib.hid t2.size
          have HKK := Lib.hid hK
          have HZA := Lib.hid hA
          have hzle := hz.le
          have hzcap := hz.cap
          have o30 : Own w3 (some ⟨w2.heap.size, 0, none⟩) m m (fcK net zs 0) := own_fc0 h.pipes.len o3
          have hgs := o30.lt _ rfl
          simp only at hgs
          clear hK hA k0 k1 o3 z3 b3 oc
          go_loopw [31] (fun i wr => ∃ k : Nat, k ≤ K ∧ i = .int .i64 k ∧ Own wr (some ⟨w2.heap.size, 0, none⟩) m m (fcK net zs k) ∧ w3.grownBy wr (some w2.heap.size) ∧ Below w.heap.size w wr) (fun i _ => K - (intOf i).toNat)
          case atStart => exact ⟨0, by omega, rfl, o30, World.grownBy.refl _ _, T3.out⟩
          case round =>
            obtain ⟨k, hk, rfl, ow, hg, hb⟩ := hrel
            clear o30
            by_cases hlt : k < K
            · have hlt' : k < (netG net).chords.length := by rw [HKK.out]; exact hlt
              obtain ⟨q, hq⟩ : ∃ q, (netG net).chords[k]? = some q := ⟨_, List.getElem?_eq_getElem hlt'⟩
              have HQ := Lib.hid (chord_mem hq)
              have HT := Lib.hid (fcK_succ (zs := zs) hq)
              have hkz : k < l := by have := hzl.out; have := HLK.out; omega
              have hzk : -30000 ≤ ig zs k ∧ ig zs k ≤ 30000 := allB_at HZA.out k (by rw [hzl.out]; exact hkz)
              have ocr := oc3.off hg (fun a ha => by have := hclt a ha; omega)
              obtain ⟨ga, rfl, hga⟩ := ocr.pos (by omega)
              have c1 := ocr.cell hlt
              rw [nl_ig hlt', (List.getElem?_eq_some_iff.1 hq).2] at c1
              have bxr : BX wr w.heap.size A n c B m d := ⟨(hg.block _ bx3.lt (fun e => by injection e with e; have := hbxlt; omega)).trans bx3.box⟩
              have z0 := bxr.c0
              have z1 := bxr.c1
              clear hq ocr
              go_wp2_with fail
              refine (cycleOf_any _ _ _ _ _ _ net q _ (h.later hb) ok HQ.out).mono ?_
              rintro e w5 ⟨Ay, rfl, oy, fy, b5⟩
              have ow5 := ow.later b5
              have hg5 := grown_alloc hg b5
              have hb5 := below_step hb b5
              have hwg := hg.size
              obtain ⟨cs, hcs⟩ : ∃ cs, cycL net q = cs := ⟨_, rfl⟩
              have HCY := Lib.hid (hcs ▸ cycL_cyc ok HQ.out)
              rw [hcs] at oy HT
              have HFB := Lib.hid (fun j => fc_bnd ok HZA.out (k := k) (by omega) j)
              have HFL := Lib.hid (fcK_len net zs k)
              obtain ⟨fs, hfs⟩ : ∃ fs, fcK net zs k = fs := ⟨_, rfl⟩
              rw [hfs] at ow5 HT HFB HFL
              have owz : Own w5 (some ⟨w2.heap.size, 0, none⟩) m m (fcM fs cs (ig zs k) 0) := by rw [fcM_zero]; exact ow5
              have hyl := oy.lt
              clear hcs hfs z0 z1 c1 ow ow5 hb hg bxr
              go_wp2_with fail
              go_loopw [40] (fun i wr => ∃ j : Nat, j ≤ m ∧ i = .int .i64 j ∧ Own wr (some ⟨w2.heap.size, 0, none⟩) m m (fcM fs cs (ig zs k) j) ∧ w5.grownBy wr (some w2.heap.size) ∧ w3.grownBy wr (some w2.heap.size) ∧ Below w.heap.size w wr) (fun i _ => m - (intOf i).toNat)
              case atStart => exact ⟨0, by omega, rfl, owz, World.grownBy.refl _ _, hg5, hb5⟩
              case round =>
                obtain ⟨j, hj, rfl, ow, hgi, hg3, hb⟩ := hrel
                clear owz
                have hfl : fs.length = m := by rw [HFL.out]; exact h.pipes.len
                by_cases hjm : j < m
                · have oyr := oy.off hgi (fun a ha => by have := fy a ha; omega)
                  obtain ⟨gy, rfl, hgy⟩ := oyr.pos (by omega)
                  have cy := oyr.cell hjm
                  obtain ⟨bz, offz, rfl, hblz, hcz⟩ := (hz.later hb).cells (by omega)
                  have hckz := hcz k hkz
                  have cw := ow.cell hjm
                  rw [fcM_at (by omega)] at cw
                  have uw := ow.unfrozen j
                  have hbd := HFB.out j
                  have hu := HCY.out.bnd j
                  have hp : -30000 ≤ ig zs k * ig cs j ∧ ig zs k * ig cs j ≤ 30000 := by
                    rcases HCY.out.u j with h | h | h <;> rw [h] <;> omega
                  have os := ow.store j (z := ig fs j + ig zs k * ig cs j) ⟨by omega, by omega⟩
                  rw [fcM_set] at os
                  have hb2 := hb.setCell (p := ⟨w2.heap.size, j, none⟩) HF3.out (.int .i64 (ig fs j + ig zs k * ig cs j))
                  have g1 := grown_put (j := j) hgi (.int .i64 (ig fs j + ig zs k * ig cs j))
                  have g3 := grown_put (j := j) hg3 (.int .i64 (ig fs j + ig zs k * ig cs j))
                  have hcm : ig cs j * ig zs k = ig zs k * ig cs j := Int.mul_comm _ _
                  have OS := Lib.hid os
                  have HB2 := Lib.hid hb2
                  have G1 := Lib.hid g1
                  have G3 := Lib.hid g3
                  have HCM := Lib.hid hcm
                  have hp' := hp
                  rw [← HCM.out] at hp'
                  rw [← HCM.out] at OS HB2 G1 G3
                  clear os hb2 g1 g3 ow hgi hg3 hb hcz oyr hcm hp hfl
                  go_wp2_with fail
                  go_region
                  go_wp2_with fail
                  go_roundw
                  case rel => exact ⟨j + 1, by omega, by go_num, OS.out.later (Below.refl _ _).drew, grown_alloc G1.out (Below.refl _ _).drew, grown_alloc G3.out (Below.refl _ _).drew, HB2.out.drew⟩
                  case measure => simp [intOf]; omega
                · rw [fcM_end (by omega), ← HT.out] at ow
                  clear hfl
                  go_wp2_with fail
                  go_roundw
                  case rel => exact ⟨k + 1, by omega, by go_num, ow, hg3, hb⟩
                  case measure => simp [intOf]; omega
            · have hkK : K = k := by omega
              have HE : Hid (fcK net zs (netG net).chords.length = fcK net zs k) := Lib.hid (by rw [HKK.out, hkK])
              rw [← HE.out] at ow
              clear hkK
              go_wp2_with fail
              refine (checkedFlows_is _ _ _ _ _ _ ow.ints HSS.out).mono ?_
              rintro e w' ⟨rfl, rfl⟩
              go_wp2_with fail
              go_ret2
              exact retLI_nil rfl HR.out hb
        · have HR : Hid (rFromChords net zs = (fcK net zs (netG net).chords.length, 0)) := Lib.hid (by unfold rFromChords; rw [hv, if_pos rfl, hzl.out, HLK.out, hK, if_pos rfl, hA, if_pos rfl, ← hK, hS]; rfl)
          have HSS := Lib.hid hS
          clear hS
          go_enter Try.func14, Try.ntmps14
          go_wp2_with fail
          refine (implIsNetwork_is _ _ _ _ _ _ net _ _ (h.later HB.out) hv).mono ?_
          rintro e w1 ⟨rfl, b1⟩
          have t1 := below_step HB.out b1
          have s1 := b1
          obtain ⟨k0, k1⟩ := box_cells s1
          go_wp2_with fail
          refine (chordsOf_any _ _ _ _ _ _ net _ (h.later t1) ok).mono ?_
          rintro e w2 ⟨Ac, cc, rfl, oc, fc, b2⟩
          clear k0 k1
          have t2 := below_step t1 b2
          have s2 := below_step s1 b2
          obtain ⟨k0, k1⟩ := box_cells s2
          rw [hK] at oc ⊢
          go_wp2_with fail
          refine (allWithin_any _ _ _ _ _ _ _ (hz.later t2)).mono ?_
          rintro e w' ⟨rfl, rfl⟩
          clear k0 k1
          obtain ⟨k0, k1⟩ := box_cells s2
          rw [HA.out]
          go_wp2_with (at_make; refine law_make _ rfl _ _ rfl m _ _ rfl rfl rfl rfl (by omega) ?_; intro w3 o3 b3 z3)
          have hclt := oc.lt
          have hbxlt : w.heap.size < w2.heap.size := Nat.lt_of_lt_of_le bxW.lt s2.size
          have T3 := Lib.hid (below_step t2 b3)
          have bx3 := ((bxW.step b1).step b2).step b3
          have oc3 := oc.later b3
          have hcl := oc3.lt
          have HF3 : Hid (w.heap.size ≤ w2.heap.size) := Lib.hid t2.size
          have HKK := Lib.hid hK
          have HZA := Lib.hid hA
          have hzle := hz.le
          have hzcap := hz.cap
          have o30 : Own w3 (some ⟨w2.heap.size, 0, none⟩) m m (fcK net zs 0) := own_fc0 h.pipes.len o3
          have hgs := o30.lt _ rfl
          simp only at hgs
          clear hK hA k0 k1 o3 z3 b3 oc
          go_loopw [31] (fun i wr => ∃ k : Nat, k ≤ K ∧ i = .int .i64 k ∧ Own wr (some ⟨w2.heap.size, 0, none⟩) m m (fcK net zs k) ∧ w3.grownBy wr (some w2.heap.size) ∧ Below w.heap.size w wr) (fun i _ => K - (intOf i).toNat)
          case atStart => exact ⟨0, by omega, rfl, o30, World.grownBy.refl _ _, T3.out⟩
          case round =>
            obtain ⟨k, hk, rfl, ow, hg, hb⟩ := hrel
            clear o30
            by_cases hlt : k < K
            · have hlt' : k < (netG net).chords.length := by rw [HKK.out]; exact hlt
              obtain ⟨q, hq⟩ : ∃ q, (netG net).chords[k]? = some q := ⟨_, List.getElem?_eq_getElem hlt'⟩
              have HQ := Lib.hid (chord_mem hq)
              have HT := Lib.hid (fcK_succ (zs := zs) hq)
              have hkz : k < l := by have := hzl.out; have := HLK.out; omega
              have hzk : -30000 ≤ ig zs k ∧ ig zs k ≤ 30000 := allB_at HZA.out k (by rw [hzl.out]; exact hkz)
              have ocr := oc3.off hg (fun a ha => by have := hclt a ha; omega)
              obtain ⟨ga, rfl, hga⟩ := ocr.pos (by omega)
              have c1 := ocr.cell hlt
              rw [nl_ig hlt', (List.getElem?_eq_some_iff.1 hq).2] at c1
              have bxr : BX wr w.heap.size A n c B m d := ⟨(hg.block _ bx3.lt (fun e => by injection e with e; have := hbxlt; omega)).trans bx3.box⟩
              have z0 := bxr.c0
              have z1 := bxr.c1
              clear hq ocr
              go_wp2_with fail
              refine (cycleOf_any _ _ _ _ _ _ net q _ (h.later hb) ok HQ.out).mono ?_
              rintro e w5 ⟨Ay, rfl, oy, fy, b5⟩
              have ow5 := ow.later b5
              have hg5 := grown_alloc hg b5
              have hb5 := below_step hb b5
              have hwg := hg.size
              obtain ⟨cs, hcs⟩ : ∃ cs, cycL net q = cs := ⟨_, rfl⟩
              have HCY := Lib.hid (hcs ▸ cycL_cyc ok HQ.out)
              rw [hcs] at oy HT
              have HFB := Lib.hid (fun j => fc_bnd ok HZA.out (k := k) (by omega) j)
              have HFL := Lib.hid (fcK_len net zs k)
              obtain ⟨fs, hfs⟩ : ∃ fs, fcK net zs k = fs := ⟨_, rfl⟩
              rw [hfs] at ow5 HT HFB HFL
              have owz : Own w5 (some ⟨w2.heap.size, 0, none⟩) m m (fcM fs cs (ig zs k) 0) := by rw [fcM_zero]; exact ow5
              have hyl := oy.lt
              clear hcs hfs z0 z1 c1 ow ow5 hb hg bxr
              go_wp2_with fail
              go_loopw [40] (fun i wr => ∃ j : Nat, j ≤ m ∧ i = .int .i64 j ∧ Own wr (some ⟨w2.heap.size, 0, none⟩) m m (fcM fs cs (ig zs k) j) ∧ w5.grownBy wr (some w2.heap.size) ∧ w3.grownBy wr (some w2.heap.size) ∧ Below w.heap.size w wr) (fun i _ => m - (intOf i).toNat)
              case atStart => exact ⟨0, by omega, rfl, owz, World.grownBy.refl _ _, hg5, hb5⟩
              case round =>
                obtain ⟨j, hj, rfl, ow, hgi, hg3, hb⟩ := hrel
                clear owz
                have hfl : fs.length = m := by rw [HFL.out]; exact h.pipes.len
                by_cases hjm : j < m
                · have oyr := oy.off hgi (fun a ha => by have := fy a ha; omega)
                  obtain ⟨gy, rfl, hgy⟩ := oyr.pos (by omega)
                  have cy := oyr.cell hjm
                  obtain ⟨bz, offz, rfl, hblz, hcz⟩ := (hz.later hb).cells (by omega)
                  have hckz := hcz k hkz
                  have cw := ow.cell hjm
                  rw [fcM_at (by omega)] at cw
                  have uw := ow.unfrozen j
                  have hbd := HFB.out j
                  have hu := HCY.out.bnd j
                  have hp : -30000 ≤ ig zs k * ig cs j ∧ ig zs k * ig cs j ≤ 30000 := by
                    rcases HCY.out.u j with h | h | h <;> rw [h] <;> omega
                  have os := ow.store j (z := ig fs j + ig zs k * ig cs j) ⟨by omega, by omega⟩
                  rw [fcM_set] at os
                  have hb2 := hb.setCell (p := ⟨w2.heap.size, j, none⟩) HF3.out (.int .i64 (ig fs j + ig zs k * ig cs j))
                  have g1 := grown_put (j := j) hgi (.int .i64 (ig fs j + ig zs k * ig cs j))
                  have g3 := grown_put (j := j) hg3 (.int .i64 (ig fs j + ig zs k * ig cs j))
                  have hcm : ig cs j * ig zs k = ig zs k * ig cs j := Int.mul_comm _ _
                  have OS := Lib.hid os
                  have HB2 := Lib.hid hb2
                  have G1 := Lib.hid g1
                  have G3 := Lib.hid g3
                  have HCM := Lib.hid hcm
                  have hp' := hp
                  rw [← HCM.out] at hp'
                  rw [← HCM.out] at OS HB2 G1 G3
                  clear os hb2 g1 g3 ow hgi hg3 hb hcz oyr hcm hp hfl
                  go_wp2_with fail
                  go_region
                  go_wp2_with fail
                  go_roundw
                  case rel => exact ⟨j + 1, by omega, by go_num, OS.out.later (Below.refl _ _).drew, grown_alloc G1.out (Below.refl _ _).drew, grown_alloc G3.out (Below.refl _ _).drew, HB2.out.drew⟩
                  case measure => simp [intOf]; omega
                · rw [fcM_end (by omega), ← HT.out] at ow
                  clear hfl
                  go_wp2_with fail
                  go_roundw
                  case rel => exact ⟨k + 1, by omega, by go_num, ow, hg3, hb⟩
                  case measure => simp [intOf]; omega
            · have hkK : K = k := by omega
              have HE : Hid (fcK net zs (netG net).chords.length = fcK net zs k) := Lib.hid (by rw [HKK.out, hkK])
              rw [← HE.out] at ow
              clear hkK
              go_wp2_with fail
              refine (checkedFlows_is _ _ _ _ _ _ ow.ints HSS.out).mono ?_
              rintro e w' ⟨rfl, rfl⟩
              go_wp2_with fail
              go_ret2
              exact retLI_own rfl HR.out ow (fun a ha => by injection ha with ha; subst ha; exact HF3.out) hb
    · have hle2 : ((l : Int) != (K : Int)) = true := by simp; omega
      have HR : Hid (rFromChords net zs = ([], 5)) := Lib.hid (by unfold rFromChords; rw [hv, if_pos rfl, hzl.out, hK, if_neg hlk])
      go_enter Try.func14, Try.ntmps14
      go_wp2_with fail
      refine (implIsNetwork_is _ _ _ _ _ _ net _ _ (h.later HB.out) hv).mono ?_
      rintro e w1 ⟨rfl, b1⟩
      have t1 := below_step HB.out b1
      have s1 := b1
      obtain ⟨k0, k1⟩ := box_cells s1
      go_wp2_with fail
      refine (chordsOf_any _ _ _ _ _ _ net _ (h.later t1) ok).mono ?_
      rintro e w2 ⟨Ac, cc, rfl, oc, fc, b2⟩
      clear k0 k1
      have t2 := below_step t1 b2
      have s2 := below_step s1 b2
      obtain ⟨k0, k1⟩ := box_cells s2
      rw [hK] at oc ⊢
      go_wp2_with fail
      go_ret2
      exact retLI_nil rfl HR.out t2

structure FcOK (net : Net) (zs : List Int) (k : Nat) : Prop where
  bnd : ∀ j, -(30000 * (k : Int)) ≤ ig (fcK net zs k) j ∧ ig (fcK net zs k) j ≤ 30000 * k
  rng : ∀ j, j < k → inB (ig zs j) (-30000) 30000 = true
theorem FcOK.zero (net : Net) (zs : List Int) : FcOK net zs 0 := ⟨fun j => by
    have : ig (fcK net zs 0) j = 0 := by
      unfold fcK ig
      rw [List.getD_eq_getElem?_getD]
      by_cases h : j < net.pipes.length
      · rw [List.getElem?_eq_getElem (by simpa using h)]; simp
      · rw [List.getElem?_eq_none (by simpa using h)]; rfl
    rw [this]; omega, fun j h => absurd h (by omega)⟩
theorem FcOK.succ {net : Net} {zs : List Int} {k q : Nat} (ok : NetOK net) (hq : (netG net).chords[k]? = some q) (h : FcOK net zs k) (hz : inB (ig zs k) (-30000) 30000 = true) : FcOK net zs (k + 1) := ⟨fun j => by
    have h1 := h.bnd j
    have h2 := inB_iff'.1 hz
    rw [fcK_succ hq, addL_ig' (by rw [cycL_len, fcK_len])]
    rcases (cycL_cyc ok (chord_mem hq)).u j with hu | hu | hu <;> rw [hu] <;> omega, fun j hj => by
    by_cases e : j = k
    · rw [e]; exact hz
    · exact h.rng j (by omega)⟩
theorem fc_two {net : Net} {zs : List Int} (hv : netB net = true) (hl : zs.length = (netG net).chords.length) (h : allB zs (-30000) 30000 = false ∨ allB (fcK net zs (netG net).chords.length) (-30000) 30000 = false) : rFromChords net zs = ([], 2) := by
  unfold rFromChords
  rw [hv, if_pos rfl, if_pos hl]
  cases hA : allB zs (-30000) 30000
  · rfl
  · rw [if_pos rfl]
    rcases h with h | h
    · rw [hA] at h; cases h
    · rw [h]; rfl
theorem fc_at {zs : List Int} {k : Nat} (hk : k < zs.length) (h : inB (ig zs k) (-30000) 30000 = false) : allB zs (-30000) 30000 = false := by
  cases hA : allB zs (-30000) 30000
  · rfl
  · rw [inB_iff'.2 (allB_at hA k hk)] at h; cases h
theorem fc_fin {net : Net} {zs : List Int} (hv : netB net = true) (hl : zs.length = (netG net).chords.length) (hA : ∀ j, j < zs.length → inB (ig zs j) (-30000) 30000 = true) (h : allB (fcK net zs (netG net).chords.length) (-30000) 30000 = true) : rFromChords net zs = (fcK net zs (netG net).chords.length, 0) := by
  unfold rFromChords
  rw [hv, if_pos rfl, if_pos hl, allB_yes (k := zs.length) (Nat.le_refl _) hA, if_pos rfl, h, if_pos rfl]
theorem fc_flow (net : Net) (zs : List Int) (k : Nat) : flowB net (fcK net zs k) = allB (fcK net zs k) (-30000) 30000 := by
  unfold flowB
  rw [fcK_len]; simp

set_option maxRecDepth 100000 in
set_option maxHeartbeats 8000000 in
theorem specFromChords_any (A : Option Addr) (n c : Nat) (B : Option Addr) (m d : Nat) (net : Net) (C : Option Addr) (l e : Nat) (zs : List Int) (w : World) (h : NetAt w A n c B m d net) (hz : Ints w C l e zs) :
    Calls Try.prog 50 #[.agg #[.slice A n c, .slice B m d], .slice C l e] w fun e w' => RetLI w (rFromChords net zs) e w' := by
  have HB := Lib.hid (bel1 w (.cells #[.slice A n c, .slice B m d] 27))
  have bxW : BX (w.alloc (.cells #[.slice A n c, .slice B m d] 27)) w.heap.size A n c B m d := ⟨heap_alloc_new w _⟩
  have hm40 : netB net = true → m ≤ 40 := fun hv => by have := (netB_sizes hv).2.2; have := h.pipes.len; omega
  rcases hv : netB net with _ | _
  · have HR : Hid (rFromChords net zs = ([], 1)) := Lib.hid (by unfold rFromChords; rw [hv]; rfl)
    clear hm40
    go_enter Try.func50, Try.ntmps50
    go_wp2_with fail
    refine (specIsNetwork_is _ _ _ _ _ _ net _ _ (h.later HB.out) hv).mono ?_
    rintro e w1 ⟨rfl, b1⟩
    have t1 := below_step HB.out b1
    have s1 := b1
    obtain ⟨k0, k1⟩ := box_cells s1
    go_wp2_with fail
    go_ret2
    exact retLI_nil rfl HR.out t1
  · replace hm40 := hm40 hv
    have ok := NetOK.of hv
    obtain ⟨K, hK⟩ : ∃ K, (netG net).chords.length = K := ⟨_, rfl⟩
    have hK40 : K ≤ 40 := by have := chords_le net; have := ok.m40; omega
    have hzl := Lib.hid hz.len
    by_cases hlk : l = K
    · have HLK := Lib.hid hlk
      have hle2 : ((l : Int) != (K : Int)) = false := by simp [hlk]
      clear hlk
      go_enter Try.func50, Try.ntmps50
      go_wp2_with fail
      refine (specIsNetwork_is _ _ _ _ _ _ net _ _ (h.later HB.out) hv).mono ?_
      rintro e w1 ⟨rfl, b1⟩
      have t1 := below_step HB.out b1
      have s1 := b1
      obtain ⟨k0, k1⟩ := box_cells s1
      go_wp2_with fail
      refine (l05Basis_any _ _ _ _ _ _ net _ (h.later t1) ok).mono ?_
      rintro e w2 ⟨gs, Ab, cb, rfl, oS, fS, b2⟩
      clear k0 k1
      have t2 := below_step t1 b2
      have s2 := below_step s1 b2
      obtain ⟨k0, k1⟩ := box_cells s2
      rw [hK] at oS ⊢
      go_wp2_with (at_make; refine law_make _ rfl _ _ rfl m _ _ rfl rfl rfl rfl (by omega) ?_; intro w3 o3 b3 z3)
      have T3 := Lib.hid (below_step t2 b3)
      have bx3 := ((bxW.step b1).step b2).step b3
      have oS3 := oS.later b3
      have HF3 : Hid (w.heap.size ≤ w2.heap.size) := Lib.hid t2.size
      have HKK := Lib.hid hK
      have hzle := hz.le
      have hzcap := hz.cap
      have hKc := oS.cap
      have o30 : Own w3 (some ⟨w2.heap.size, 0, none⟩) m m (fcK net zs 0) := own_fc0 h.pipes.len o3
      clear hK k0 k1 o3 z3 b3 oS
      go_loopw [7, 8] (fun f i wr => ∃ (k : Nat) (A' : Option Addr) (c' : Nat), k ≤ K ∧ f = .slice A' m c' ∧ i = .int .i64 k ∧ Own wr A' m c' (fcK net zs k) ∧ Fresh w.heap.size A' ∧ Hid (FcOK net zs k) ∧ Below w3.heap.size w3 wr) (fun _ i _ => K - (intOf i).toNat)
      case atStart => exact ⟨0, some ⟨w2.heap.size, 0, none⟩, m, by omega, rfl, rfl, o30, (fun a ha => by injection ha with ha; subst ha; exact HF3.out), Lib.hid (FcOK.zero net zs), Below.refl _ _⟩
      case round =>
        obtain ⟨k, A', c', hk, rfl, rfl, ow, fw, hF, hb⟩ := hrel
        clear o30
        by_cases hlt : k < K
        · have hlt' : k < (netG net).chords.length := by rw [HKK.out]; exact hlt
          obtain ⟨q, hq⟩ : ∃ q, (netG net).chords[k]? = some q := ⟨_, List.getElem?_eq_getElem hlt'⟩
          have HCY := Lib.hid (cycL_cyc ok (chord_mem hq))
          have HT := Lib.hid (fcK_succ (zs := zs) hq)
          have HFO := Lib.hid (fun hz => FcOK.succ ok hq hF.out hz)
          have hkz : k < l := by have := HLK.out; omega
          have osr := oS3.later hb
          obtain ⟨gb, rfl, hgb⟩ := osr.pos (by omega)
          obtain ⟨gc, cs, e1, e2, ocs, _, hgc⟩ := osr.at hlt
          have hcs : cs = cycL net q := by rw [basL_at hq] at e2; injection e2 with e2; exact e2.symm
          rw [hcs] at ocs
          have cgb := osr.cell e1
          obtain ⟨bz, offz, rfl, hblz, hcz⟩ := (hz.later (below_step T3.out hb)).cells (by omega)
          have hckz := hcz k hkz
          have hki : (k : Int) < (K : Int) := by omega
          clear hq e1 e2 osr hcs hcz
          rcases hin : inB (ig zs k) (-30000) 30000 with _ | _
          · have HR : Hid (rFromChords net zs = ([], 2)) := Lib.hid (fc_two hv (by rw [hzl.out, HLK.out, HKK.out]) (.inl (fc_at (by rw [hzl.out]; exact hkz) hin)))
            clear HFO hF
            go_wp2_with fail
            refine (l05Flow_is _ _ _ hin).mono ?_
            rintro e w' ⟨rfl, rfl⟩
            go_wp2_with fail
            go_ret2
            exact retLI_nil rfl HR.out (below_step T3.out hb)
          · have hF2 := Lib.hid (HFO.out hin)
            have hinr := inB_iff'.1 hin
            have HM40 := hm40
            clear HFO
            go_wp2_with fail
            refine (l05Flow_is _ _ _ hin).mono ?_
            rintro e w' ⟨rfl, rfl⟩
            go_wp2_with fail
            go_still_tail 9, (by kernel_rfl)
            change wpList _ _ _ _ _ wr.drew
            go_wp2_with fail
            refine (l05Add_any _ _ _ _ _ _ _ _ (ig zs k) _ (ow.later (Below.refl _ _).drew).ints (ocs.later (Below.refl _ _).drew).ints (by omega) (by omega) (fun j => by have := hF.out.bnd j; omega) (fun j => by have := HCY.out.bnd j; omega) (by omega)).mono ?_
            rintro e w5 ⟨A5, c5, rfl, o5, f5, b5'⟩
            have b5 : Below wr.heap.size wr w5 := (Below.refl _ _).drew.trans b5'
            have hb5 := below_step hb b5
            rw [← HT.out] at o5
            have f5' : Fresh w.heap.size A5 := fresh_up f5 (by have := hb.size; have := T3.out.size; show w.heap.size ≤ wr.heap.size; omega)
            clear b5' ow hb hckz cgb
            go_wp2_with fail
            go_roundw
            case rel => exact ⟨k + 1, A5, c5, by omega, rfl, by go_num, o5, f5', hF2, hb5⟩
            case measure => simp [intOf]; omega
        · have hkK : K = k := by omega
          have HE : Hid (fcK net zs (netG net).chords.length = fcK net zs k) := Lib.hid (by rw [HKK.out, hkK])
          have HAL : Hid (∀ j, j < zs.length → inB (ig zs j) (-30000) 30000 = true) := Lib.hid (fun j hj => hF.out.rng j (by have := hzl.out; have := HLK.out; omega))
          rw [← HE.out] at ow
          have hkl : ¬ k < l := by have := HLK.out; omega
          have hki : ¬ (k : Int) < (l : Int) := by omega
          have bxr := bx3.step hb
          have z0 := bxr.c0
          have z1 := bxr.c1
          clear hkK hF
          rcases hS : allB (fcK net zs (netG net).chords.length) (-30000) 30000 with _ | _
          · have HR : Hid (rFromChords net zs = ([], 2)) := Lib.hid (fc_two hv (by rw [hzl.out, HLK.out, HKK.out]) (.inr hS))
            rw [← fc_flow] at hS
            go_wp2_with fail
            refine (l05List_is _ _ _ _ _ _ _ _ _ net _ _ _ (h.later (below_step T3.out hb)) ow.ints hS).mono ?_
            rintro e w6 ⟨rfl, b6⟩
            clear z0 z1
            go_wp2_with fail
            go_ret2
            exact retLI_nil rfl HR.out (below_step (below_step T3.out hb) b6)
          · have HR : Hid (rFromChords net zs = (fcK net zs (netG net).chords.length, 0)) := Lib.hid (fc_fin hv (by rw [hzl.out, HLK.out, HKK.out]) HAL.out hS)
            rw [← fc_flow] at hS
            go_wp2_with fail
            refine (l05List_is _ _ _ _ _ _ _ _ _ net _ _ _ (h.later (below_step T3.out hb)) ow.ints hS).mono ?_
            rintro e w6 ⟨rfl, b6⟩
            clear z0 z1
            go_wp2_with fail
            go_ret2
            exact retLI_own rfl HR.out (ow.later b6) fw (below_step (below_step T3.out hb) b6)
    · have hle2 : ((l : Int) != (K : Int)) = true := by simp; omega
      have HR : Hid (rFromChords net zs = ([], 5)) := Lib.hid (by unfold rFromChords; rw [hv, if_pos rfl, hzl.out, hK, if_neg hlk])
      go_enter Try.func50, Try.ntmps50
      go_wp2_with fail
      refine (specIsNetwork_is _ _ _ _ _ _ net _ _ (h.later HB.out) hv).mono ?_
      rintro e w1 ⟨rfl, b1⟩
      have t1 := below_step HB.out b1
      have s1 := b1
      obtain ⟨k0, k1⟩ := box_cells s1
      go_wp2_with fail
      refine (l05Basis_any _ _ _ _ _ _ net _ (h.later t1) ok).mono ?_
      rintro e w2 ⟨gs, Ab, cb, rfl, oS, fS, b2⟩
      clear k0 k1
      have t2 := below_step t1 b2
      have s2 := below_step s1 b2
      obtain ⟨k0, k1⟩ := box_cells s2
      rw [hK] at oS ⊢
      go_wp2_with fail
      go_ret2
      exact retLI_nil rfl HR.out t2

end Go.Proofs.Ytllblmndoigdlaa
