/- plain laws: balance, forest flows, added cycles, energies, worst residuals -/
import Derived.Test.YtllblmndoigdlaaQa
import Derived.Test.YtllblmndoigdlaaI4
namespace Go.Proofs.Ytllblmndoigdlaa

/-- a list with all signs turned -/
def negL (L : List Int) : List Int := mapTo L.length (fun j => -ig L j)
theorem negL_len (L : List Int) : (negL L).length = L.length := mapTo_len _ _
theorem negL_ig (L : List Int) (j : Nat) : ig (negL L) j = -ig L j := by
  rcases Nat.lt_or_ge j L.length with h | h
  · exact mapTo_ig h
  · rw [ig_ge (by rw [negL_len]; exact h), ig_ge h]; rfl
theorem codeF_mk {net : Net} {zs : List Int} (h1 : netB net = true) (h2 : flowB net zs = true) : codeF net zs = 0 := by unfold codeF; rw [h1, h2]; rfl
theorem codeF_parts {net : Net} {zs : List Int} (h : codeF net zs = 0) : netB net = true ∧ flowB net zs = true := by
  rcases codeF_cases net zs with ⟨_, e⟩ | ⟨_, _, e⟩ | ⟨h1, h2, _⟩
  · rw [e] at h; cases h
  · rw [e] at h; cases h
  · exact ⟨h1, h2⟩
theorem flowB_mk {net : Net} {zs : List Int} (h1 : zs.length = net.pipes.length) (h2 : allB zs (-30000) 30000 = true) : flowB net zs = true := by
  unfold flowB; simp [h1, h2]
theorem flowB_all2 {net : Net} {zs : List Int} (h : flowB net zs = true) : allB zs (-30000) 30000 = true := by
  unfold flowB at h; simp only [Bool.and_eq_true] at h; exact h.2
theorem supB_all2 {net : Net} {zs : List Int} (h : supB net zs = true) : allB zs (-30000) 30000 = true := by
  unfold supB at h; simp only [Bool.and_eq_true] at h; exact h.2
/-- the law FnBalance -/
theorem bal_law {net : Net} {zs zs2 : List Int} (h : rIsBalanced net zs zs2 = true) :
    rSuppliesOf net zs = (zs2, 0) ∧ rIsEven net zs2 = true ∧ (rForestFlows net zs2 = ([], 2) ∨ (rForestFlows net zs2 = (ffL net zs2, 0) ∧ ((rAddFlows net zs (negL (ffL net zs2))).2 = 0 → rIsCirc net (rAddFlows net zs (negL (ffL net zs2))).1 = true))) := by
  obtain ⟨h1, h2, h3, h4, h5⟩ := bal_facts h
  have c0 := codeF_mk h1 h2
  have s0 : codeS net zs2 = 0 := by unfold codeS; rw [h1, h3]; rfl
  refine ⟨?_, by unfold rIsEven; rw [h1, h3, h5]; rfl, ?_⟩
  · unfold rSuppliesOf; rw [if_pos c0, h4, supB_all2 h3, if_pos rfl]
  · unfold rForestFlows rFF
    rw [if_pos s0, h5, if_pos rfl]
    rcases ha : allB (ffL net zs2) (-30000) 30000 with _ | _
    · left; rfl
    · right
      refine ⟨rfl, ?_⟩
      unfold rAddFlows
      rw [if_pos c0]
      rcases hb : flowB net (negL (ffL net zs2)) with _ | _
      · intro hh; cases hh
      · rw [if_pos rfl]
        rcases hc : allB (addL zs (negL (ffL net zs2)) 1) (-30000) 30000 with _ | _
        · intro hh; cases hh
        · intro _
          refine circ_mk h1 (flowB_mk (by show (addL _ _ _).length = _; rw [addL_len, flowB_len h2]) hc) fun v hv => ?_
          show (netG net).out (ig (addL _ _ _)) v = 0
          rw [addL_out (by rw [negL_len, ffL_len, flowB_len h2])]
          have e1 : (netG net).out (ig (negL (ffL net zs2))) v = (-1) * (netG net).out (ig (ffL net zs2)) v := by
            rw [← Gr.out_mul]
            exact Gr.out_congr (fun i _ => by rw [negL_ig]; omega) v
          rw [e1, ffL_out h1 h5 hv, ← h4, outL_ig (NetOK.of h1) zs hv]
          omega
/-- the law FnForestFlows -/
theorem ffl_law {net : Net} {zs : List Int} (h : (rForestFlows net zs).2 = 0) : rForestFlows net zs = (ffL net zs, 0) ∧ rChordFlows net (ffL net zs) = (chF net (ffL net zs), 0) ∧ (∀ j, j < (chF net (ffL net zs)).length → ig (chF net (ffL net zs)) j = 0) ∧ rIsBalanced net (ffL net zs) zs = true := by
  have key : netB net = true ∧ supB net zs = true ∧ evB net zs = true ∧ allB (ffL net zs) (-30000) 30000 = true ∧ codeS net zs = 0 := by
    unfold rForestFlows rFF at h
    rcases codeS_cases net zs with ⟨_, e⟩ | ⟨_, _, e⟩ | ⟨h1, h2, e⟩
    · rw [e] at h; cases h
    · rw [e] at h; cases h
    · rw [if_pos e] at h
      rcases h5 : evB net zs with _ | _
      · rw [h5] at h; cases h
      · rw [h5, if_pos rfl] at h
        rcases ha : allB (ffL net zs) (-30000) 30000 with _ | _
        · rw [ha] at h; cases h
        · exact ⟨h1, h2, rfl, rfl, e⟩
  obtain ⟨h1, h2, h5, ha, e⟩ := key
  have hf : flowB net (ffL net zs) = true := flowB_mk (ffL_len _ _) ha
  refine ⟨by unfold rForestFlows rFF; rw [if_pos e, h5, if_pos rfl, ha, if_pos rfl], by unfold rChordFlows; rw [if_pos (codeF_mk h1 hf)], fun j hj => ?_, ffL_balanced h1 h2 h5 hf⟩
  rw [chF_len] at hj
  exact chF_forest (NetOK.of h1) zs j hj
/-- adding a cycle: what the answer is -/
theorem rAddCycle_zero {net : Net} {zs : List Int} {x a : Int} (h : (rAddCycle net zs x a).2 = 0) : ∃ c : Nat, x = c ∧ c ∈ (netG net).chords ∧ c < net.pipes.length ∧ netB net = true ∧ flowB net zs = true ∧ inB a (-30000) 30000 = true ∧ flowB net (addL zs (cycL net c) a) = true ∧ rAddCycle net zs x a = (addL zs (cycL net c) a, 0) := by
  unfold rAddCycle at h ⊢
  by_cases h0 : codeC net zs x = 0
  · obtain ⟨h1, h2, c, rfl, hc, hlt⟩ := codeC_zero h0
    rw [if_pos h0] at h ⊢
    rcases ha : inB a (-30000) 30000 with _ | _
    · rw [ha] at h; cases h
    · rw [ha, if_pos rfl] at h
      rw [if_pos rfl]
      rcases hb : allB (addL zs (cycL net (Int.toNat c)) a) (-30000) 30000 with _ | _
      · rw [hb] at h; cases h
      · exact ⟨c, rfl, hc, hlt, h1, h2, rfl, flowB_mk (by rw [addL_len, flowB_len h2]) hb, by rw [if_pos rfl]; rfl⟩
  · rw [if_neg h0] at h; exact absurd h h0
theorem codeC_mk {net : Net} {zs : List Int} {c : Nat} (h1 : netB net = true) (h2 : flowB net zs = true) (hc : c ∈ (netG net).chords) : codeC net zs c = 0 := by
  unfold codeC; rw [if_pos (codeF_mk h1 h2), chdB_of hc, if_pos rfl]
theorem addL_cyc_len {net : Net} {zs : List Int} (c : Nat) (h2 : flowB net zs = true) : (cycL net c).length = zs.length := by rw [cycL_len, flowB_len h2]
/-- the law FnAddedCycles -/
theorem added_law {net : Net} {zs : List Int} {x a : Int} (h : (rAddCycle net zs x a).2 = 0) : -30000 ≤ a ∧ a ≤ 30000 ∧ rSuppliesOf net (rAddCycle net zs x a).1 = rSuppliesOf net zs ∧ rAddCycle net (rAddCycle net zs x a).1 x (-a) = (zs, 0) := by
  obtain ⟨c, rfl, hc, hlt, h1, h2, ha, hf, e⟩ := rAddCycle_zero h
  have ok := NetOK.of h1
  have hr : -30000 ≤ a ∧ a ≤ 30000 := inB_iff'.1 ha
  rw [e]
  refine ⟨hr.1, hr.2, ?_, ?_⟩
  · show rSuppliesOf net (addL zs (cycL net c) a) = _
    have eo : outL net.nodes.length net.pipes (addL zs (cycL net c) a) net.pipes.length = outL net.nodes.length net.pipes zs net.pipes.length := ext_ig (by rw [outL_len, outL_len]) fun j hj => by
      rw [outL_len] at hj
      rw [outL_ig ok _ hj, outL_ig ok _ hj, addL_out (addL_cyc_len c h2), cycL_out ok hc]; omega
    unfold rSuppliesOf
    rw [eo, codeF_mk h1 hf, codeF_mk h1 h2]
  · show rAddCycle net (addL zs (cycL net c) a) c (-a) = _
    unfold rAddCycle
    have e2 : addL (addL zs (cycL net c) a) (cycL net (Int.toNat c)) (-a) = zs := by
      show addL (addL zs (cycL net c) a) (cycL net c) (-a) = zs
      rw [addL_add (addL_cyc_len c h2), show a + -a = 0 by omega, addL_zero (addL_cyc_len c h2)]
    rw [if_pos (codeC_mk h1 hf hc), show inB (-a) (-30000) 30000 = true from inB_iff'.2 (by omega), if_pos rfl, e2, flowB_all2 h2, if_pos rfl]
/-- the law FnEnergy -/
theorem energy_law {net : Net} {zs : List Int} {x a : Int} (h : (rEnergyChange net zs x a).2 = 0) : ∃ X E, rAddCycle net zs x a = (X, 0) ∧ rEnergyOf net zs = (E, 0) ∧ rEnergyOf net X = (E + (rEnergyChange net zs x a).1, 0) ∧ zs.length = net.pipes.length ∧ (∀ j, -30000 ≤ ig zs j ∧ ig zs j ≤ 30000) ∧ rEnergyOf net (negL zs) = (E, 0) ∧ (-1080000000000000000 ≤ E ∧ E ≤ 1080000000000000000) ∧ (-1080000000000000000 ≤ E + (rEnergyChange net zs x a).1 ∧ E + (rEnergyChange net zs x a).1 ≤ 1080000000000000000) := by
  unfold rEnergyChange at h ⊢
  by_cases h0 : codeC net zs x = 0
  · obtain ⟨h1, h2, c, rfl, hc, hlt⟩ := codeC_zero h0
    rw [if_pos h0] at h ⊢
    rcases ha : inB a (-30000) 30000 with _ | _
    · rw [ha] at h; cases h
    · rw [ha, if_pos rfl] at h
      rw [if_pos rfl]
      rcases hb : okK zs (cycL net (Int.toNat c)) a net.pipes.length with _ | _
      · rw [hb] at h; cases h
      · rw [if_pos rfl]
        have hf : flowB net (addL zs (cycL net c) a) = true := (flow_okK h2 (cycL_len net c)).trans hb
        have el : zs.length = net.pipes.length := flowB_len h2
        have hn : flowB net (negL zs) = true := flowB_mk (by rw [negL_len, el]) (allB_yes (k := zs.length) (by rw [negL_len]; omega) fun j hj => by
          have := flowB_all h2 j
          rw [negL_ig]; exact inB_iff'.2 (by omega))
        have b1 := eng_bnd h1 h2 net.pipes.length (Nat.le_refl _)
        have b2 := eng_bnd h1 hf net.pipes.length (Nat.le_refl _)
        have ec := chg_eng (net := net) (zs := zs) (cs := cycL net c) (a := a) (addL_cyc_len c h2) net.pipes.length
        have es : eng net.pipes zs net.pipes.length + chg net zs (cycL net (Int.toNat c)) a net.pipes.length = eng net.pipes (addL zs (cycL net c) a) net.pipes.length := by
          show _ + chg net zs (cycL net c) a net.pipes.length = _
          rw [ec]; omega
        refine ⟨addL zs (cycL net c) a, eng net.pipes zs net.pipes.length, ?_, ?_, ?_, el, flowB_all h2, ?_, b1, ?_⟩
        · unfold rAddCycle
          rw [if_pos h0, ha, if_pos rfl]
          show (if allB (addL zs (cycL net c) a) (-30000) 30000 = true then _ else _) = _
          rw [flowB_all2 hf, if_pos rfl]; rfl
        · unfold rEnergyOf; rw [if_pos (codeF_mk h1 h2), el]
        · show rEnergyOf net _ = (_ + chg net zs (cycL net (Int.toNat c)) a net.pipes.length, 0)
          rw [es]
          unfold rEnergyOf; rw [if_pos (codeF_mk h1 hf), addL_len, el]
        · unfold rEnergyOf; rw [if_pos (codeF_mk h1 hn), negL_len, el]
          have : eng net.pipes (negL zs) net.pipes.length = eng net.pipes zs net.pipes.length := sumTo_congr fun j _ => by
            rw [negL_ig]; unfold enr; rw [ab_neg]
          rw [this]
        · show _ ≤ _ + chg net zs (cycL net (Int.toNat c)) a net.pipes.length ∧ _ + chg net zs (cycL net (Int.toNat c)) a net.pipes.length ≤ _
          rw [es]; exact b2
  · rw [if_neg h0] at h; exact absurd h h0
theorem rEnergyChange_net {net : Net} {zs : List Int} {x a : Int} (h : (rEnergyChange net zs x a).2 = 0) : netB net = true := by
  unfold rEnergyChange at h
  by_cases h0 : codeC net zs x = 0
  · exact (codeC_zero h0).1
  · rw [if_neg h0] at h; exact absurd h h0
theorem rWorst_i64 (net : Net) (zs : List Int) : -9223372036854775808 ≤ (rWorstResidual net zs).1 ∧ (rWorstResidual net zs).1 ≤ 9223372036854775807 := by
  unfold rWorstResidual
  by_cases h0 : codeF net zs = 0
  · rw [if_pos h0]
    by_cases hn : (netG net).chords.length = 0
    · rw [if_pos hn]; exact ⟨by decide, by decide⟩
    · rw [if_neg hn]
      have hw := wb_lt (resL net zs) (k := (netG net).chords.length) (by omega)
      have e : ig (nl (netG net).chords) (wb (resL net zs) (netG net).chords.length) = ((netG net).chords[wb (resL net zs) (netG net).chords.length]'hw : Nat) := nl_ig hw
      have hm := (Gr.mem_chords.1 (List.getElem_mem hw)).1
      have h40 := (NetOK.of (codeF_parts h0).1).m40
      have hm : (netG net).chords[wb (resL net zs) (netG net).chords.length]'hw < net.pipes.length := hm
      show _ ≤ ig _ _ ∧ ig _ _ ≤ _
      rw [e]; omega
  · rw [if_neg h0]; exact ⟨by show (_ : Int) ≤ 0; decide, by show (0 : Int) ≤ _; decide⟩
/-- the law FnWorstResiduals -/
theorem worst_law (net : Net) (zs : List Int) : ((rWorstResidual net zs).2 = 4 → (rLoopError net zs).1 = 0) ∧ ((rWorstResidual net zs).2 = 0 → ∃ r, rResidualOf net zs (rWorstResidual net zs).1 = (r, 0) ∧ ab r = (rLoopError net zs).1 ∧ -36000000000000 ≤ r ∧ r ≤ 36000000000000) := by
  unfold rWorstResidual rLoopError
  by_cases h0 : codeF net zs = 0
  · obtain ⟨h1, h2⟩ := codeF_parts h0
    have ok := NetOK.of h1
    rw [if_pos h0, if_pos h0]
    by_cases hn : (netG net).chords.length = 0
    · rw [if_pos hn, hn]
      exact ⟨fun _ => rfl, fun h => by cases h⟩
    · rw [if_neg hn]
      refine ⟨fun h => (by cases h), fun _ => ?_⟩
      have hk : 1 ≤ (netG net).chords.length := by omega
      have hw := wb_lt (resL net zs) hk
      have hg : (netG net).chords[wb (resL net zs) (netG net).chords.length]? = some ((netG net).chords[wb (resL net zs) (netG net).chords.length]'hw) := List.getElem?_eq_getElem hw
      have hm := chord_mem hg
      have e : ig (nl (netG net).chords) (wb (resL net zs) (netG net).chords.length) = ((netG net).chords[wb (resL net zs) (netG net).chords.length]'hw : Nat) := nl_ig hw
      have hb := res_bnd h1 h2 (cycL_cyc ok hm) net.pipes.length ok.m40
      refine ⟨ig (resL net zs) (wb (resL net zs) (netG net).chords.length), ?_, wb_mx _ hk, ?_⟩
      · show rResidualOf net zs (ig (nl (netG net).chords) _) = _
        rw [e]
        unfold rResidualOf
        rw [if_pos (codeC_mk h1 h2 hm), resL_ig hg]; rfl
      · rw [resL_ig hg]; exact hb
  · rw [if_neg h0, if_neg h0]
    exact ⟨fun _ => rfl, fun h => absurd h h0⟩

end Go.Proofs.Ytllblmndoigdlaa
