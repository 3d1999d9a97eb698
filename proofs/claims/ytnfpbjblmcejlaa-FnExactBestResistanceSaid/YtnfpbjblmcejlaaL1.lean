/- the law FnExactSeriesOf -/
import Derived.Test.YtnfpbjblmcejlaaC
namespace Go.Proofs.Ytnfpbjblmcejlaa
open Go.RowKit

set_option maxHeartbeats 1000000 in
theorem lawSeries_any (A : Option Addr) (n c : Nat) (zs : List Int) (w : World) (h : Ints w A n c zs) :
    Calls Try.prog 4 #[.slice A n c] w fun e w' => e = .returned (.bool true) ∧ Below w.heap.size w w' := by
  by_cases hn : 1048576 < n
  · go_enter Try.func4, Try.ntmps4
    go_wp2_with fail
    go_ret
    exact ⟨rfl, Below.refl _ _⟩
  · have he : eqL zs zs = true := by simp [eqL]
    go_enter Try.func4, Try.ntmps4
    go_wp2_with fail
    refine (toInt64S_any _ _ _ _ _ h (by omega)).mono ?_
    rintro e w1 ⟨A1, c1, rfl, o1, f1, b1⟩
    go_wp2_with fail
    refine (specSeries_any _ _ _ _ _ o1.ints).mono ?_
    rintro e w' ⟨rfl, rfl⟩
    go_wp2_with fail
    refine (toInt64S_any _ _ _ _ _ (h.later b1) (by omega)).mono ?_
    rintro e w2 ⟨A2, c2, rfl, o2, f2, b2⟩
    go_wp2_with fail
    refine (implSeries_any _ _ _ _ _ o2.ints).mono ?_
    rintro e w' ⟨rfl, rfl⟩
    go_wp2_with fail
    have b12 := below_step b1 b2
    refine (toInt64S_any _ _ _ _ _ (h.later b12) (by omega)).mono ?_
    rintro e w3 ⟨A3, c3, rfl, o3, f3, b3⟩
    go_wp2_with fail
    refine (eqInt64S_any _ _ _ _ _ _ _ _ _ (o2.later b3).ints o3.ints).mono ?_
    rintro e w' ⟨rfl, q, rfl⟩
    go_wp2_with fail
    go_ret
    exact ⟨rfl, below_drew (below_step b12 b3) _⟩

theorem lawBestRow (flow drop : Int) (w : World) (_h1 : I64 flow) (_h2 : I64 drop) :
    Calls Try.prog 3 #[.int .i64 flow, .int .i64 drop] w fun e w' => e = .returned (.bool true) ∧ Below w.heap.size w w' :=
  (lawBest_any flow drop w).mono fun e w' ⟨h1, h2⟩ => ⟨h1, h2 ▸ Below.refl _ _⟩
end Go.Proofs.Ytnfpbjblmcejlaa
