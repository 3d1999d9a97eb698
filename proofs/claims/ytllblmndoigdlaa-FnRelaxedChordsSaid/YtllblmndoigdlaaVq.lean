/- plain law: relaxing a chord -/
import Derived.Test.YtllblmndoigdlaaVp
import Derived.Test.YtllblmndoigdlaaQ8
namespace Go.Proofs.Ytllblmndoigdlaa

noncomputable def rRelaxChord (net : Net) (zs : List Int) (x : Int) : List Int × Int :=
  if codeC net zs x = 0 then (addL zs (cycL net x.toNat) (bestL net zs (cycL net x.toNat)), 0) else ([], codeC net zs x)
/-- the law FnRelaxedChords -/
theorem chord_law {net : Net} {zs : List Int} {x : Int} (h : (rRelaxChord net zs x).2 = 0) : ∃ E F, rEnergyOf net zs = (E, 0) ∧ rEnergyOf net (rRelaxChord net zs x).1 = (F, 0) ∧ F ≤ E ∧
    ∀ a, -30000 ≤ a → a ≤ 30000 → (∃ d, rEnergyChange net (rRelaxChord net zs x).1 x a = (d, 0) ∧ 0 ≤ d) ∨ rEnergyChange net (rRelaxChord net zs x).1 x a = (0, 5) := by
  have key : ∃ c : Nat, x = c ∧ c ∈ (netG net).chords ∧ c < net.pipes.length ∧ netB net = true ∧ flowB net zs = true ∧ rRelaxChord net zs x = (addL zs (cycL net c) (bestL net zs (cycL net c)), 0) := by
    unfold rRelaxChord at h ⊢
    by_cases h0 : codeC net zs x = 0
    · obtain ⟨h1, h2, c, rfl, hc, hlt⟩ := codeC_zero h0
      exact ⟨c, rfl, hc, hlt, h1, h2, by rw [if_pos h0]; rfl⟩
    · rw [if_neg h0] at h; exact absurd h h0
  obtain ⟨c, rfl, hc, hlt, h1, h2, e⟩ := key
  rw [e]
  have ok := NetOK.of h1
  have cy := cycL_cyc ok hc
  have el := flowB_len h2
  have hself : ig (cycL net c) c ≠ 0 := by rw [cycL_self ok hc]; decide
  obtain ⟨B, hB⟩ : ∃ B, bestL net zs (cycL net c) = B := ⟨_, rfl⟩
  have hok := bestL_ok h2 cy
  have hmin : ∀ a, okK zs (cycL net c) a net.pipes.length = true → enA net zs (cycL net c) B ≤ enA net zs (cycL net c) a := fun a ha => by
    rw [← hB]; exact bestL_min h1 h2 cy hlt hself ha
  rw [hB] at hok ⊢
  have hf : flowB net (addL zs (cycL net c) B) = true := (flow_okK h2 (cycL_len net c)).trans hok
  have hok0 : okK zs (cycL net c) 0 net.pipes.length = true := by
    rw [← flow_okK h2 (cycL_len net c), addL_zero (addL_cyc_len c h2)]; exact h2
  refine ⟨eng net.pipes zs net.pipes.length, eng net.pipes (addL zs (cycL net c) B) net.pipes.length, ?_, ?_, ?_, fun a ha1 ha2 => ?_⟩
  · unfold rEnergyOf; rw [if_pos (codeF_mk h1 h2), el]
  · show rEnergyOf net (addL zs (cycL net c) B) = _
    unfold rEnergyOf; rw [if_pos (codeF_mk h1 hf), addL_len, el]
  · have := hmin 0 hok0
    unfold enA at this
    rw [addL_zero (addL_cyc_len c h2)] at this
    exact this
  · show (∃ d, rEnergyChange net (addL zs (cycL net c) B) c a = (d, 0) ∧ 0 ≤ d) ∨ rEnergyChange net (addL zs (cycL net c) B) c a = (0, 5)
    unfold rEnergyChange
    rw [if_pos (codeC_mk h1 hf hc), inB_iff'.2 ⟨ha1, ha2⟩, if_pos rfl]
    show (∃ d, (if okK (addL zs (cycL net c) B) (cycL net c) a net.pipes.length = true then (chg net (addL zs (cycL net c) B) (cycL net c) a net.pipes.length, (0 : Int)) else (0, 5)) = (d, 0) ∧ 0 ≤ d) ∨ (if okK (addL zs (cycL net c) B) (cycL net c) a net.pipes.length = true then (chg net (addL zs (cycL net c) B) (cycL net c) a net.pipes.length, (0 : Int)) else (0, 5)) = (0, 5)
    rcases ho : okK (addL zs (cycL net c) B) (cycL net c) a net.pipes.length with _ | _
    · right; rfl
    · left
      refine ⟨_, if_pos rfl, ?_⟩
      rw [chg_eng (by rw [addL_len]; exact addL_cyc_len c h2), addL_add (addL_cyc_len c h2)]
      have hf2 : flowB net (addL (addL zs (cycL net c) B) (cycL net c) a) = true := (flow_okK hf (cycL_len net c)).trans ho
      rw [addL_add (addL_cyc_len c h2), flow_okK h2 (cycL_len net c)] at hf2
      have := hmin (B + a) hf2
      unfold enA at this
      omega

end Go.Proofs.Ytllblmndoigdlaa
