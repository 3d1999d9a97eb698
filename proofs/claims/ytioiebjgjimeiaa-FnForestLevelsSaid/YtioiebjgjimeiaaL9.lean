/- plain: ranges of roots, blocking pairs -/
import Derived.Test.YtioiebjgjimeiaaJ3
namespace Go.Proofs.Ytioiebjgjimeiaa

theorem rlo_at (net : Net) (L : List Int) (k : Nat) : ∃ j, j ≤ k ∧ rlo net L k = ndl net j - ig L j := by
  induction k with
  | zero => exact ⟨0, by omega, rfl⟩
  | succ k ih =>
    obtain ⟨j, hj, e⟩ := ih
    show ∃ j, j ≤ k + 1 ∧ max (rlo net L k) (ndl net (k + 1) - ig L (k + 1)) = _
    by_cases h : rlo net L k ≤ ndl net (k + 1) - ig L (k + 1)
    · exact ⟨k + 1, by omega, by omega⟩
    · exact ⟨j, by omega, by omega⟩
theorem rhi_at (net : Net) (L : List Int) (k : Nat) : ∃ j, j ≤ k ∧ rhi net L k = ndh net j - ig L j := by
  induction k with
  | zero => exact ⟨0, by omega, rfl⟩
  | succ k ih =>
    obtain ⟨j, hj, e⟩ := ih
    show ∃ j, j ≤ k + 1 ∧ min (rhi net L k) (ndh net (k + 1) - ig L (k + 1)) = _
    by_cases h : rhi net L k ≤ ndh net (k + 1) - ig L (k + 1)
    · exact ⟨j, by omega, by omega⟩
    · exact ⟨k + 1, by omega, by omega⟩
/-- another root, another level: all levels move -/
theorem levL_move {net : Net} {zs : List Int} {r r' : Nat} {l l' : Int} {v u : Nat} (hv : v < net.nodes.length) (hu : u < net.nodes.length) : ig (levL net zs r l) v - ig (levL net zs r l) u = ig (levL net zs r' l') v - ig (levL net zs r' l') u := by
  rw [levL_ig hv, levL_ig hu, levL_ig hv, levL_ig hu]
  unfold Gr.lev; omega
theorem levL_shift {net : Net} {zs : List Int} {r : Nat} {l : Int} {v : Nat} (hv : v < net.nodes.length) : ig (levL net zs r l) v = ig (levL net zs r 0) v + l := by
  rw [levL_ig hv, levL_ig hv]
  unfold Gr.lev; omega
theorem codeT_val (net : Net) (zs : List Int) (level : Int) (xs : List Int) : codeT net zs level xs = 0 ∨ codeT net zs level xs = 1 ∨ codeT net zs level xs = 2 ∨ codeT net zs level xs = 3 ∨ codeT net zs level xs = 5 := by
  unfold codeT
  rcases codeF_cases net zs with ⟨_, h⟩ | ⟨_, _, h⟩ | ⟨_, _, h⟩
  · rw [if_neg (by omega), h]; omega
  · rw [if_neg (by omega), h]; omega
  · rw [if_pos h]
    split
    · split <;> omega
    · omega
theorem codeT_mk {net : Net} {zs : List Int} {level : Int} {xs : List Int} (h1 : codeF net zs = 0) (h2 : allB xs 0 ((net.nodes.length : Int) - 1) = true) (h3 : levB level = true) (h4 : (netG net).conn = true) : codeT net zs level xs = 0 := by
  unfold codeT
  rw [if_pos h1, h2, h3, h4]; rfl
theorem codeT_parts {net : Net} {zs : List Int} {level : Int} {xs : List Int} (h : codeT net zs level xs = 0) : codeF net zs = 0 ∧ allB xs 0 ((net.nodes.length : Int) - 1) = true ∧ levB level = true ∧ (netG net).conn = true := by
  obtain ⟨h1, h2, h3, h4, h5⟩ := codeT_zero h
  refine ⟨?_, h3, h4, h5⟩
  rcases codeF_cases net zs with ⟨e, _⟩ | ⟨_, e, _⟩ | ⟨_, _, e⟩
  · rw [h1] at e; cases e
  · rw [h2] at e; cases e
  · exact e
theorem codeT_other {net : Net} {zs : List Int} {l : Int} {xs : List Int} (h : codeT net zs l xs = 0) {l' : Int} {xs' : List Int} (h2 : allB xs' 0 ((net.nodes.length : Int) - 1) = true) (h3 : levB l' = true) : codeT net zs l' xs' = 0 := by
  obtain ⟨a, _, _, d⟩ := codeT_parts h
  exact codeT_mk a h2 h3 d
theorem levB_of {x : Int} (h : -500000000000000000 ≤ x ∧ x ≤ 500000000000000000) : levB x = true := by unfold levB; exact inB_iff'.2 h

/-- what the law on ranges wants -/
theorem range_law {net : Net} {zs : List Int} {root : Int} :
    ((rRootRange net zs root).2.2 = 7 → (rBlockingPair net zs).2.2 = 0) ∧
    ((rRootRange net zs root).2.2 = 0 → (rBlockingPair net zs).2.2 = 4 ∧ rForestLevels net zs root (rRootRange net zs root).1 = (levL net zs root.toNat (rRootRange net zs root).1, 0) ∧ rForestLevels net zs root ((rRootRange net zs root).2.1 + 1) = (levL net zs root.toNat ((rRootRange net zs root).2.1 + 1), 0) ∧
      isWithinB net (levL net zs root.toNat (rRootRange net zs root).1) = true ∧ isWithinB net (levL net zs root.toNat ((rRootRange net zs root).2.1 + 1)) = false ∧ (rMiddleLevel net zs root).2 = 0 ∧ (rRootRange net zs root).1 ≤ (rMiddleLevel net zs root).1 ∧ (rMiddleLevel net zs root).1 ≤ (rRootRange net zs root).2.1) := by
  have hlim := rRootRange_lim net zs root
  by_cases h0 : codeT net zs 0 [root] = 0
  · have hparts := codeT_zero h0
    have hv := hparts.1
    have hs := hparts.2.1
    have hn1 := (netB_sizes hv).1
    have hxs := (codeT_parts h0).2.1
    have hR : rRootRange net zs root = rngR net zs root.toNat := by unfold rRootRange; rw [if_pos h0]
    have hB : rBlockingPair net zs = bpR net (levL net zs 0 0) := by
      unfold rBlockingPair
      rw [if_pos (codeT_other h0 (xs' := []) rfl (levB_of ⟨by decide, by decide⟩))]
    have hblk : ∀ a b, a < net.nodes.length → b < net.nodes.length → (blkB net (levL net zs 0 0) a b = true ↔ ndh net b - ig (levL net zs root.toNat 0) b < ndl net a - ig (levL net zs root.toNat 0) a) := by
      intro a b ha hb
      have := levL_move (net := net) (zs := zs) (r := 0) (r' := root.toNat) (l := 0) (l' := 0) ha hb
      unfold blkB
      rw [decide_eq_true_eq]; omega
    obtain ⟨a, ha, ea⟩ := rlo_at net (levL net zs root.toNat 0) (net.nodes.length - 1)
    obtain ⟨b, hb, eb⟩ := rhi_at net (levL net zs root.toNat 0) (net.nodes.length - 1)
    by_cases hlt : rlo net (levL net zs root.toNat 0) (net.nodes.length - 1) > rhi net (levL net zs root.toNat 0) (net.nodes.length - 1)
    · have hR2 : rngR net zs root.toNat = (0, 0, 7) := by unfold rngR; rw [if_pos hlt]
      refine ⟨fun _ => ?_, fun h => (by rw [hR, hR2] at h; cases h)⟩
      rw [hB]
      -- some pair blocks
      by_cases hf : (bpR net (levL net zs 0 0)).2.2 = 0
      · exact hf
      · exfalso
        have hno : ∀ a', a' < net.nodes.length → ∀ b', b' < net.nodes.length → blkB net (levL net zs 0 0) a' b' = false := by
          intro a' ha' b' hb'
          cases hx : blkB net (levL net zs 0 0) a' b' with
          | false => rfl
          | true =>
            exfalso
            apply hf
            unfold bpR
            rcases h1 : fst1 (fun a => (fst1 (blkB net (levL net zs 0 0) a) net.nodes.length).isSome) net.nodes.length with _ | q
            · have := fst1_no h1 a' ha'
              rcases h2 : fst1 (blkB net (levL net zs 0 0) a') net.nodes.length with _ | q
              · have := fst1_no h2 b' hb'
                rw [hx] at this; cases this
              · simp [h2] at this
            · have := (fst1_is h1).2
              rcases h2 : fst1 (blkB net (levL net zs 0 0) q) net.nodes.length with _ | q'
              · simp [h2] at this
              · simp [h2]
        have := hno a (by omega) b (by omega)
        have h2 := (hblk a b (by omega) (by omega)).2 (by omega)
        rw [h2] at this; cases this
    · have hR2 : rngR net zs root.toNat = (rlo net (levL net zs root.toNat 0) (net.nodes.length - 1), rhi net (levL net zs root.toNat 0) (net.nodes.length - 1), 0) := by unfold rngR; rw [if_neg hlt]
      refine ⟨fun h => (by rw [hR, hR2] at h; cases h), fun _ => ?_⟩
      have e1 : (rRootRange net zs root).1 = rlo net (levL net zs root.toNat 0) (net.nodes.length - 1) := by rw [hR, hR2]
      have e2 : (rRootRange net zs root).2.1 = rhi net (levL net zs root.toNat 0) (net.nodes.length - 1) := by rw [hR, hR2]
      have e3 : (rRootRange net zs root).2.2 = 0 := by rw [hR, hR2]
      have hM : rMiddleLevel net zs root = (((rRootRange net zs root).1 + (rRootRange net zs root).2.1) / 2, 0) := by unfold rMiddleLevel; rw [if_pos e3]
      refine ⟨?_, ?_, ?_, ?_, ?_, by rw [hM], by rw [hM]; show _ ≤ (_ + _) / 2; omega, by rw [hM]; show (_ + _) / 2 ≤ _; omega⟩
      · rw [hB, bpR_none]
        intro a' ha' b' hb'
        cases hx : blkB net (levL net zs 0 0) a' b' with
        | false => rfl
        | true =>
          have h1 := (hblk a' b' ha' hb').1 hx
          have h2 := rlo_ge net (levL net zs root.toNat 0) (j := a') (k := net.nodes.length - 1) (by omega)
          have h3 := rhi_le net (levL net zs root.toNat 0) (j := b') (k := net.nodes.length - 1) (by omega)
          omega
      · unfold rForestLevels
        rw [if_pos (codeT_other h0 hxs (levB_of (by omega)))]
      · unfold rForestLevels
        rw [if_pos (codeT_other h0 hxs (levB_of (by omega)))]
      · unfold isWithinB
        rw [hv, levL_len]
        simp only [decide_true, Bool.and_true, Bool.true_and]
        refine withinB_yes (k := net.nodes.length) (Nat.le_refl _) fun j hj => ?_
        rw [levL_shift hj, e1]
        have h2 := rlo_ge net (levL net zs root.toNat 0) (j := j) (k := net.nodes.length - 1) (by omega)
        have h3 := rhi_le net (levL net zs root.toNat 0) (j := j) (k := net.nodes.length - 1) (by omega)
        exact inB_iff'.2 ⟨by show ndl net j ≤ _; omega, by show _ ≤ ndh net j; omega⟩
      · unfold isWithinB
        rw [withinB_no (k := b) (by omega) (by
          rw [levL_shift (by omega), e2]
          have : ¬ (inB (ig (levL net zs root.toNat 0) b + (rhi net (levL net zs root.toNat 0) (net.nodes.length - 1) + 1)) (nd net.nodes b).low (nd net.nodes b).high = true) := by
            rw [inB_iff']
            rintro ⟨_, h⟩
            have h : _ ≤ ndh net b := h
            omega
          simpa using this)]
        simp
  · have hR : rRootRange net zs root = (0, 0, codeT net zs 0 [root]) := by unfold rRootRange; rw [if_neg h0]
    have hval := codeT_val net zs 0 [root]
    refine ⟨fun h => ?_, fun h => ?_⟩
    · rw [hR] at h
      have h : codeT net zs 0 [root] = 7 := h
      omega
    · rw [hR] at h; exact absurd h h0

end Go.Proofs.Ytioiebjgjimeiaa
