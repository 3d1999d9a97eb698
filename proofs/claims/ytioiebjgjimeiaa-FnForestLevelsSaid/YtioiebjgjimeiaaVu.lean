/- plain law: levels along the forest -/
import Derived.Test.YtioiebjgjimeiaaVp
import Derived.Test.YtioiebjgjimeiaaL9
import Derived.Test.YtioiebjgjimeiaaRl
namespace Go.Proofs.Ytioiebjgjimeiaa

/-- the law FnForestLevels -/
theorem forestlev_law {net : Net} {zs : List Int} {root level : Int} (h : (rForestLevels net zs root level).2 = 0) : ∃ L Z D, ∃ r : Nat, root = r ∧ r < net.nodes.length ∧ rForestLevels net zs root level = (L, 0) ∧ rForestLevels net zs root 0 = (Z, 0) ∧ rDropsOf net zs = (D, 0) ∧ rSpanningForest net = (nl (netG net).forest, 0) ∧
    L.length = net.nodes.length ∧ Z.length = net.nodes.length ∧ D.length = net.pipes.length ∧ ig L r = level ∧ netB net = true ∧ (netG net).forest.length ≤ 40 ∧ (∀ j, -500043200000000000 ≤ ig L j ∧ ig L j ≤ 500043200000000000) ∧ (∀ j, -500043200000000000 ≤ ig Z j ∧ ig Z j ≤ 500043200000000000) ∧
    (∀ i, i < net.nodes.length → ig L i - ig Z i = level) ∧
    (∀ i, i < net.pipes.length → ∃ f t : Nat, f < net.nodes.length ∧ t < net.nodes.length ∧ (pp net.pipes i).fr = f ∧ (pp net.pipes i).to = t ∧ ((i : Int) ∈ nl (netG net).forest → ig L f - ig L t = ig D i)) := by
  have h0 : codeT net zs level [root] = 0 := by
    unfold rForestLevels at h
    by_cases h0 : codeT net zs level [root] = 0
    · exact h0
    · rw [if_neg h0] at h; exact absurd h h0
  obtain ⟨h1, h2, h3, h4, h5⟩ := codeT_zero h0
  have ok := NetOK.of h1
  have hr : 0 ≤ root ∧ root < net.nodes.length := by
    have := allB_at h3 0 (by simp)
    have e : ig [root] 0 = root := rfl
    rw [e] at this; omega
  obtain ⟨r, rfl⟩ := Int.eq_ofNat_of_zero_le hr.1
  have hrn : r < net.nodes.length := by omega
  have hz : codeT net zs 0 [(r : Int)] = 0 := codeT_other h0 h3 (levB_of ⟨by decide, by decide⟩)
  refine ⟨levL net zs r level, levL net zs r 0, drL net zs net.pipes.length, r, rfl, hrn, ?_, ?_, ?_, ?_, levL_len _ _ _ _, levL_len _ _ _ _, drL_len _ _ _, ?_, h1, ?_, levL_lim h1 h2 (levB_lim h4), levL_lim h1 h2 ⟨by decide, by decide⟩, fun i hi => ?_, fun i hi => ?_⟩
  · unfold rForestLevels; rw [if_pos h0]; rfl
  · unfold rForestLevels; rw [if_pos hz]; rfl
  · unfold rDropsOf; rw [if_pos (codeF_mk h1 h2)]
  · unfold rSpanningForest; rw [h1, if_pos rfl]
  · rw [levL_ig hrn]; unfold Gr.lev; omega
  · have := nodup_len (n := (netG net).m) (Gr.forest_nodup (netG net)) (fun x hx => (Gr.mem_forest.1 hx).1)
    have h40 := ok.m40
    have : (netG net).m = net.pipes.length := rfl
    omega
  · have := levL_shift (net := net) (zs := zs) (r := r) (l := level) hi
    omega
  · have hp := ok.pipe i hi
    have e1 := ok.fr hi
    have e2 := ok.to hi
    refine ⟨(netG net).f i, (netG net).t i, by omega, by omega, e1, e2, fun hm => ?_⟩
    have hF : (netG net).F i := by
      obtain ⟨j, hj, e⟩ := List.mem_map.1 hm
      have : j = i := Int.ofNat.inj e
      subst this
      exact (Gr.mem_forest.1 hj).2
    have key := Gr.lev_lv ok.g ok.n1 h5 (drF net zs) r level i hF
    rw [levL_ig (by omega), levL_ig (by omega)]
    unfold drL
    rw [mapTo_ig hi]
    exact key

end Go.Proofs.Ytioiebjgjimeiaa
