/- small words for the laws with draws: lists with all signs turned, built one by one -/
import Derived.Test.YtioiebjgjimeiaaVp
namespace Go.Proofs.Ytioiebjgjimeiaa

def negP (L : List Int) (k : Nat) : List Int := mapTo k (fun j => -ig L j)
theorem negP_succ (L : List Int) (k : Nat) : negP L (k + 1) = negP L k ++ [-ig L k] := by unfold negP mapTo; rw [List.range_succ, List.map_append]; rfl
theorem ffl_flow {net : Net} {zs : List Int} (h : rForestFlows net zs = (ffL net zs, 0)) : flowB net (ffL net zs) = true := by
  have h2 : (rForestFlows net zs).2 = 0 := by rw [h]
  have := (ffl_law h2).2.2.2
  exact (bal_facts this).2.1

end Go.Proofs.Ytioiebjgjimeiaa
