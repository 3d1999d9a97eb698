/- plain law: blocking pairs -/
import Derived.Test.YtioiebjgjimeiaaL9
import Derived.Test.YtioiebjgjimeiaaS
namespace Go.Proofs.Ytioiebjgjimeiaa

theorem bpR_zero {net : Net} {L : List Int} (h : (bpR net L).2.2 = 0) : ∃ a b : Nat, a < net.nodes.length ∧ b < net.nodes.length ∧ bpR net L = ((a : Int), (b : Int), 0) ∧ blkB net L a b = true := by
  unfold bpR at h ⊢
  rcases h1 : fst1 (fun a => (fst1 (blkB net L a) net.nodes.length).isSome) net.nodes.length with _ | a
  · rw [h1] at h; cases h
  · rw [h1] at h
    rcases h2 : fst1 (blkB net L a) net.nodes.length with _ | b
    · simp only [h2] at h; cases h
    · exact ⟨a, b, (fst1_is h1).1, (fst1_is h2).1, by simp only [h2], (fst1_is h2).2⟩
/-- the law FnBlockingPairs -/
theorem block_law {net : Net} {zs : List Int} (h : (rBlockingPair net zs).2.2 = 0) : ∃ (a b : Nat) (g p : Int), a < net.nodes.length ∧ b < net.nodes.length ∧ rBlockingPair net zs = ((a : Int), (b : Int), 0) ∧ rGapBetween net zs a b = (g, 0) ∧ (rRootRange net zs 0).2.2 = 7 ∧ rootP (ndl net a) = (p, 0) ∧ 0 ≤ p ∧ p ≤ 100000000 ∧ p * p ≤ ndl net a ∧ g < ndl net a - ndh net b ∧
    0 ≤ ndl net a ∧ ndl net a ≤ 100000000 ∧ 0 ≤ ndh net b ∧ ndh net b ≤ 100000000 := by
  have h0 : codeT net zs 0 [] = 0 := by
    unfold rBlockingPair at h
    by_cases h0 : codeT net zs 0 [] = 0
    · exact h0
    · rw [if_neg h0] at h; exact absurd h h0
  have hB : rBlockingPair net zs = bpR net (levL net zs 0 0) := by unfold rBlockingPair; rw [if_pos h0]
  rw [hB] at h
  obtain ⟨a, b, ha, hb, e, hk⟩ := bpR_zero h
  obtain ⟨h1, h2, h3, h4, h5⟩ := codeT_zero h0
  have ok := NetOK.of h1
  have na := netB_node_at h1 ha
  have nb := netB_node_at h1 hb
  have hab : allB [(a : Int), (b : Int)] 0 ((net.nodes.length : Int) - 1) = true := by
    unfold allB; simp only [List.all_cons, List.all_nil, Bool.and_true, Bool.and_eq_true]
    exact ⟨inB_iff'.2 (by omega), inB_iff'.2 (by omega)⟩
  have h00 : allB [(0 : Int)] 0 ((net.nodes.length : Int) - 1) = true := by
    unfold allB; simp only [List.all_cons, List.all_nil, Bool.and_true]
    have := ok.n1
    exact inB_iff'.2 (by omega)
  have hG : rGapBetween net zs a b = ((netG net).base (drF net zs) a - (netG net).base (drF net zs) b, 0) := by
    unfold rGapBetween; rw [if_pos (codeT_other h0 hab (levB_of ⟨by decide, by decide⟩))]; rfl
  have hlt : (netG net).base (drF net zs) a - (netG net).base (drF net zs) b < ndl net a - ndh net b := by
    unfold blkB at hk
    have hk := of_decide_eq_true hk
    rw [levL_ig ha, levL_ig hb] at hk
    unfold Gr.lev at hk
    omega
  have hR : (rRootRange net zs 0).2.2 = 7 := by
    have hl := range_law (net := net) (zs := zs) (root := 0)
    have hcase : (rRootRange net zs 0).2.2 = 7 ∨ (rRootRange net zs 0).2.2 = 0 := by
      unfold rRootRange
      rw [if_pos (codeT_other h0 h00 (levB_of ⟨by decide, by decide⟩))]
      unfold rngR
      split
      · left; rfl
      · right; rfl
    rcases hcase with h7 | h7
    · exact h7
    · have := (hl.2 h7).1
      rw [hB, e] at this; cases this
  refine ⟨a, b, _, rt (ndl net a), ha, hb, by rw [hB, e], hG, hR, ?_, rt_nonneg _, ?_, rt_sq_le na.1, hlt, na.1, by show (nd net.nodes a).low ≤ _; omega, by show 0 ≤ (nd net.nodes b).high; omega, nb.2.2⟩
  · unfold rootP
    have e3 : inB (ndl net a) 0 1000000000000000000 = true := inB_iff'.2 (by show 0 ≤ (nd net.nodes a).low ∧ (nd net.nodes a).low ≤ _; omega)
    simp [e3]
  · refine rt_le_of na.1 (by decide) ?_
    show (nd net.nodes a).low < _
    have := na.2.1; have := na.2.2
    omega

end Go.Proofs.Ytioiebjgjimeiaa
