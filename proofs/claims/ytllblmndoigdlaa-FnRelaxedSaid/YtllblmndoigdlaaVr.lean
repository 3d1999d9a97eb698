/- plain law: relaxing -/
import Derived.Test.YtllblmndoigdlaaVp
import Derived.Test.YtllblmndoigdlaaRj
namespace Go.Proofs.Ytllblmndoigdlaa

/-- the law FnRelaxed -/
theorem relaxed_law {net : Net} {zs : List Int} {x : Int} (h : (rRelaxFlows net zs x).2.2 = 0) : ∃ E F, rEnergyOf net zs = (E, 0) ∧ rEnergyOf net (rRelaxFlows net zs x).1 = (F, 0) ∧ rSuppliesOf net (rRelaxFlows net zs x).1 = rSuppliesOf net zs ∧
    (((rRelaxFlows net zs x).2.1 = 0 ∧ F = E) ∨ (0 < (rRelaxFlows net zs x).2.1 ∧ F < E)) ∧ ((rRelaxFlows net zs x).2.1 = 5000 ∨ rIsRelaxed net (rRelaxFlows net zs x).1 = true) := by
  unfold rRelaxFlows at h ⊢
  by_cases h0 : codeF net zs = 0
  · obtain ⟨h1, h2⟩ := codeF_parts h0
    rw [if_pos h0] at h ⊢
    rcases hs : stepB x with _ | _
    · rw [hs] at h; cases h
    · rw [if_pos rfl]
      have ok := NetOK.of h1
      obtain ⟨hi, hr⟩ := rlx_inv (basL_bas ok) (st := x.toNat) (RI.start (net := net) h2)
      have hr := hr (by have := stepB_rng hs; omega)
      generalize rlx net (basL net) x.toNat (zs, 0) = S at *
      have el := flowB_len h2
      have el2 := flowB_len hi.flow
      refine ⟨eng net.pipes zs net.pipes.length, eng net.pipes S.1 net.pipes.length, ?_, ?_, ?_, ?_, ?_⟩
      · unfold rEnergyOf; rw [if_pos h0, el]
      · unfold rEnergyOf; rw [if_pos (codeF_mk h1 hi.flow), el2]
      · have eo : outL net.nodes.length net.pipes S.1 net.pipes.length = outL net.nodes.length net.pipes zs net.pipes.length := ext_ig (by rw [outL_len, outL_len]) fun j hj => by
          rw [outL_len] at hj
          rw [outL_ig ok _ hj, outL_ig ok _ hj, hi.out]
        unfold rSuppliesOf
        rw [eo, codeF_mk h1 hi.flow, h0]
      · rcases hi.en with ⟨e1, e2⟩ | ⟨e1, e2⟩
        · left; exact ⟨by show ((S.2 : Nat) : Int) = 0; omega, by rw [e2]⟩
        · right; exact ⟨by show (0 : Int) < ((S.2 : Nat) : Int); omega, e2⟩
      · rcases hr with e | e
        · left; show ((S.2 : Nat) : Int) = 5000; omega
        · right; exact rIsRelaxed_iff.2 ⟨h1, hi.flow, e⟩
  · rw [if_neg h0] at h; exact absurd h h0

end Go.Proofs.Ytllblmndoigdlaa
