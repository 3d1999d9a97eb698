/- plain: tight nodes -/
import Derived.Test.YtahmhmicegjdkaaL9
namespace Go.Proofs.Ytahmhmicegjdkaa

theorem misK_zero (net : Net) (L : List Int) (k : Nat) : 0 ≤ misK net L k ∧ (misK net L k = 0 ↔ ∀ j, j < k → ndl net j ≤ ig L j ∧ ig L j ≤ ndh net j) := by
  induction k with
  | zero => exact ⟨by simp [misK], ⟨fun _ j hj => absurd hj (by omega), fun _ => rfl⟩⟩
  | succ k ih =>
    obtain ⟨h0, h1⟩ := ih
    have e : misK net L (k + 1) = max (misK net L k) (max (ndl net k - ig L k) (ig L k - ndh net k)) := rfl
    rw [e]
    refine ⟨by omega, fun h j hj => ?_, fun h => ?_⟩
    · rcases Nat.lt_or_ge j k with hlt | hge
      · exact h1.1 (by omega) j hlt
      · have : j = k := by omega
        subst this; omega
    · have h2 := h1.2 fun j hj => h j (by omega)
      have h3 := h k (by omega)
      omega
/-- what the law on tight nodes wants -/
theorem tight_law {net : Net} {zs : List Int} {root level : Int} (h : (rTightNodes net zs root level).2 = 0) :
    (rMissedBy net zs root level).2 = 0 ∧ rForestLevels net zs root level = (levL net zs root.toNat level, 0) ∧
    isWithinB net (levL net zs root.toNat level) = decide ((rMissedBy net zs root level).1 = 0) ∧
    ((rRootRange net zs root).2.2 = 0 → ((rMissedBy net zs root level).1 = 0 ↔ (rRootRange net zs root).1 ≤ level ∧ level ≤ (rRootRange net zs root).2.1) ∧
      (level = (rRootRange net zs root).1 ∨ level = (rRootRange net zs root).2.1 → 0 < (rTightNodes net zs root level).1.length)) := by
  have h0 : codeT net zs level [root] = 0 := by
    by_cases e : codeT net zs level [root] = 0
    · exact e
    · unfold rTightNodes at h; rw [if_neg e] at h; exact h
  obtain ⟨hv, hs, _⟩ := codeT_zero h0
  have hn1 := (netB_sizes hv).1
  have hM : rMissedBy net zs root level = (misK net (levL net zs root.toNat level) net.nodes.length, 0) := by unfold rMissedBy; rw [if_pos h0]
  have hT : rTightNodes net zs root level = (nl (tgK net (levL net zs root.toNat level) net.nodes.length), 0) := by unfold rTightNodes; rw [if_pos h0]
  have hF : rForestLevels net zs root level = (levL net zs root.toNat level, 0) := by unfold rForestLevels; rw [if_pos h0]
  have hmz := (misK_zero net (levL net zs root.toNat level) net.nodes.length).2
  have h00 : codeT net zs 0 [root] = 0 := codeT_other h0 (codeT_parts h0).2.1 (levB_of ⟨by decide, by decide⟩)
  have hR : rRootRange net zs root = rngR net zs root.toNat := by unfold rRootRange; rw [if_pos h00]
  refine ⟨by rw [hM], hF, ?_, fun hc => ?_⟩
  · rw [hM]
    show _ = decide (misK net (levL net zs root.toNat level) net.nodes.length = 0)
    unfold isWithinB
    rw [hv, levL_len]
    simp only [decide_true, Bool.and_true, Bool.true_and]
    by_cases hz : misK net (levL net zs root.toNat level) net.nodes.length = 0
    · rw [decide_eq_true hz]
      exact withinB_yes (k := net.nodes.length) (Nat.le_refl _) fun j hj => inB_iff'.2 (hmz.1 hz j hj)
    · rw [decide_eq_false hz]
      cases hw : withinB net.nodes (levL net zs root.toNat level) with
      | false => rfl
      | true =>
        exfalso
        apply hz
        refine hmz.2 fun j hj => ?_
        cases hx : inB (ig (levL net zs root.toNat level) j) (nd net.nodes j).low (nd net.nodes j).high with
        | true => exact inB_iff'.1 hx
        | false => rw [withinB_no hj hx] at hw; cases hw
  · obtain ⟨a, ha, ea⟩ := rlo_at net (levL net zs root.toNat 0) (net.nodes.length - 1)
    obtain ⟨b, hb, eb⟩ := rhi_at net (levL net zs root.toNat 0) (net.nodes.length - 1)
    have hR2 : rngR net zs root.toNat = (rlo net (levL net zs root.toNat 0) (net.nodes.length - 1), rhi net (levL net zs root.toNat 0) (net.nodes.length - 1), 0) := by
      by_cases hlt : rlo net (levL net zs root.toNat 0) (net.nodes.length - 1) > rhi net (levL net zs root.toNat 0) (net.nodes.length - 1)
      · rw [hR] at hc; unfold rngR at hc; rw [if_pos hlt] at hc; cases hc
      · unfold rngR; rw [if_neg hlt]
    have e1 : (rRootRange net zs root).1 = rlo net (levL net zs root.toNat 0) (net.nodes.length - 1) := by rw [hR, hR2]
    have e2 : (rRootRange net zs root).2.1 = rhi net (levL net zs root.toNat 0) (net.nodes.length - 1) := by rw [hR, hR2]
    rw [e1, e2, hM, hT]
    have sa := levL_shift (net := net) (zs := zs) (r := root.toNat) (l := level) (v := a) (by omega)
    have sb := levL_shift (net := net) (zs := zs) (r := root.toNat) (l := level) (v := b) (by omega)
    refine ⟨?_, fun ht => ?_⟩
    · show misK net (levL net zs root.toNat level) net.nodes.length = 0 ↔ _
      rw [hmz]
      constructor
      · intro hh
        have q1 := hh a (by omega)
        have q2 := hh b (by omega)
        omega
      · intro hh j hj
        have sj := levL_shift (net := net) (zs := zs) (r := root.toNat) (l := level) (v := j) hj
        have h2 := rlo_ge net (levL net zs root.toNat 0) (j := j) (k := net.nodes.length - 1) (by omega)
        have h3 := rhi_le net (levL net zs root.toNat 0) (j := j) (k := net.nodes.length - 1) (by omega)
        omega
    · show 0 < (nl (tgK net (levL net zs root.toNat level) net.nodes.length)).length
      rw [nl_len]
      have hmem : ∃ v, v ∈ tgK net (levL net zs root.toNat level) net.nodes.length := by
        rcases ht with ht | ht
        · refine ⟨a, List.mem_filter.2 ⟨List.mem_range.2 (by omega), ?_⟩⟩
          have : ig (levL net zs root.toNat level) a = ndl net a := by omega
          unfold tgB; rw [decide_eq_true this]; rfl
        · refine ⟨b, List.mem_filter.2 ⟨List.mem_range.2 (by omega), ?_⟩⟩
          have : ig (levL net zs root.toNat level) b = ndh net b := by omega
          unfold tgB; rw [decide_eq_true this]; simp
      obtain ⟨v, hm⟩ := hmem
      exact List.length_pos_of_mem hm

end Go.Proofs.Ytahmhmicegjdkaa
