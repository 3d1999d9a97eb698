/- plain law: residuals -/
import Derived.Test.YtllblmndoigdlaaGreatVp
namespace Go.Proofs.YtllblmndoigdlaaGreat

theorem rResidualsOf_zero {net : Net} {zs : List Int} (h : (rResidualsOf net zs).2 = 0) : netB net = true ∧ flowB net zs = true ∧ rResidualsOf net zs = (resL net zs, 0) := by
  unfold rResidualsOf at h ⊢
  by_cases h0 : codeF net zs = 0
  · exact ⟨(codeF_parts h0).1, (codeF_parts h0).2, if_pos h0⟩
  · rw [if_neg h0] at h; exact absurd h h0
/-- the law FnResiduals -/
theorem resid_law {net : Net} {zs : List Int} (h : (rResidualsOf net zs).2 = 0) : netB net = true ∧ zs.length ≤ 40 ∧ (∀ j, -30000 ≤ ig zs j ∧ ig zs j ≤ 30000) ∧ (rResidualsOf net zs).1.length = (netG net).chords.length ∧ (netG net).chords.length ≤ 40 ∧
    ∀ i, i < (netG net).chords.length → ∃ r b, rResidualOf net zs (ig (nl (netG net).chords) i) = (r, 0) ∧ rResidualBound net zs (ig (nl (netG net).chords) i) = (b, 0) ∧ ig (rResidualsOf net zs).1 i = r ∧ -36000000000000 ≤ r ∧ r ≤ 36000000000000 ∧
      (rIsRelaxed net zs = true → (∀ j, j < zs.length → ab (ig zs j) < 30000) → 3 * ab r ≤ b) := by
  obtain ⟨h1, h2, e⟩ := rResidualsOf_zero h
  rw [e]
  have ok := NetOK.of h1
  have el := flowB_len h2
  have h40 := ok.m40
  have hcl := chords_le net
  refine ⟨h1, by omega, flowB_all h2, resL_len _ _, by omega, fun i hi => ?_⟩
  have hg : (netG net).chords[i]? = some ((netG net).chords[i]'hi) := List.getElem?_eq_getElem hi
  have hm := chord_mem hg
  have e1 : ig (nl (netG net).chords) i = ((netG net).chords[i]'hi : Nat) := nl_ig hi
  have cy := cycL_cyc ok hm
  have hb := res_bnd h1 h2 cy net.pipes.length ok.m40
  refine ⟨res net zs (cycL net ((netG net).chords[i]'hi)) net.pipes.length, rbd net zs (cycL net ((netG net).chords[i]'hi)) net.pipes.length, ?_, ?_, ?_, hb.1, hb.2, fun hr hfar => ?_⟩
  · rw [e1]; unfold rResidualOf; rw [if_pos (codeC_mk h1 h2 hm)]; rfl
  · rw [e1]; unfold rResidualBound; rw [if_pos (codeC_mk h1 h2 hm)]; rfl
  · exact resL_ig hg
  · have hl := (rIsRelaxed_iff.1 hr).2.2 (cycL net ((netG net).chords[i]'hi)) (List.mem_map.2 ⟨_, hm, rfl⟩)
    exact res_law h1 cy (fun j hj => hfar j (by omega)) hl.1 hl.2

end Go.Proofs.YtllblmndoigdlaaGreat
