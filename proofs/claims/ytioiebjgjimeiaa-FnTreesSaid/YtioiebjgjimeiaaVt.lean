/- plain law: levels of trees -/
import Derived.Test.YtioiebjgjimeiaaVp
import Derived.Test.YtioiebjgjimeiaaM5
namespace Go.Proofs.Ytioiebjgjimeiaa

theorem pp_ends {net : Net} (ok : NetOK net) {i : Nat} (hi : i < net.pipes.length) : ∃ f t : Nat, f < net.nodes.length ∧ t < net.nodes.length ∧ (pp net.pipes i).fr = f ∧ (pp net.pipes i).to = t ∧ (netG net).f i = f ∧ (netG net).t i = t := by
  have h := ok.pipe i hi
  have e1 := ok.fr hi
  have e2 := ok.to hi
  exact ⟨(netG net).f i, (netG net).t i, by omega, by omega, e1, e2, rfl, rfl⟩
theorem lev_diff {net : Net} {zs : List Int} (hv : netB net = true) (hc : (netG net).conn = true) {root : Nat} {level : Int} {i f t : Nat} (hf : f < net.nodes.length) (ht : t < net.nodes.length) (e1 : (netG net).f i = f) (e2 : (netG net).t i = t) (hF : (netG net).F i) :
    ig (levL net zs root level) f - ig (levL net zs root level) t = drp (pp net.pipes i).k (ig zs i) := by
  have ok := NetOK.of hv
  have := Gr.lev_lv ok.g ok.n1 hc (drF net zs) root level i hF
  rw [levL_ig hf, levL_ig ht, ← e1, ← e2]
  exact this
/-- the law FnTrees -/
theorem trees_law {net : Net} {zs : List Int} {root level : Int} (h : (rTreeLevels net zs root level).2 = 0) : ∃ F L, rTreeFlows net zs = (F, 0) ∧ rTreeLevels net zs root level = (L, 0) ∧ L.length = net.nodes.length ∧ (∀ j, -500043200000000000 ≤ ig L j ∧ ig L j ≤ 500043200000000000) ∧ netB net = true ∧ rDropsOf net F = (drL net F net.pipes.length, 0) ∧ rIsBalanced net F zs = true ∧
    (∀ i, i < net.pipes.length → ∃ f t : Nat, f < net.nodes.length ∧ t < net.nodes.length ∧ (pp net.pipes i).fr = f ∧ (pp net.pipes i).to = t ∧ ig L f - ig L t = ig (drL net F net.pipes.length) i) := by
  unfold rTreeLevels at h ⊢
  by_cases h0 : codeS net zs = 0
  · rw [if_pos h0] at h ⊢
    rcases hr : inB root 0 ((net.nodes.length : Int) - 1) with _ | _
    · rw [hr] at h; cases h
    · rw [hr, if_pos rfl] at h
      rw [if_pos rfl]
      rcases hl : levB level with _ | _
      · rw [hl] at h; cases h
      · rw [hl, if_pos rfl] at h
        rw [if_pos rfl]
        unfold rTL at h ⊢
        by_cases h2 : (rTF net zs).2 = 0
        · rw [if_pos h2]
          obtain ⟨ht, he, hf, e⟩ := rTF_zero h2
          obtain ⟨h1, hs⟩ := codeS_zero h0
          have ok := NetOK.of h1
          unfold treeB at ht
          simp only [Bool.and_eq_true, decide_eq_true_eq] at ht
          refine ⟨ffL net zs, levL net (ffL net zs) root.toNat level, ?_, rfl, levL_len _ _ _ _, fun j => (by
            rcases Nat.lt_or_ge j net.nodes.length with hj | hj
            · rw [levL_ig hj]; exact lev_lim h1 hf (levB_lim hl) j
            · rw [ig_ge (by rw [levL_len]; exact hj)]; omega), h1, ?_, ffL_balanced h1 hs he hf, fun i hi => ?_⟩
          · unfold rTreeFlows; rw [if_pos h0, e]
          · unfold rDropsOf; rw [if_pos (codeF_mk h1 hf)]
          · obtain ⟨f, t, a1, a2, a3, a4, a5, a6⟩ := pp_ends ok hi
            refine ⟨f, t, a1, a2, a3, a4, ?_⟩
            rw [lev_diff h1 ht.1 a1 a2 a5 a6 (Gr.tree_all ok.g ok.n1 ht.1 (by show net.pipes.length + 1 = net.nodes.length; omega) hi)]
            unfold drL; rw [mapTo_ig hi]
        · rw [if_neg h2] at h; exact absurd h h2
  · rw [if_neg h0] at h; exact absurd h h0

end Go.Proofs.Ytioiebjgjimeiaa
