/- the laws FnExactFlowFor, FnExactPressureOf -/
import Derived.Test.YtnfpbjblmcejlaaS
namespace Go.Proofs.Ytnfpbjblmcejlaa
open Go.RowKit

set_option maxHeartbeats 1000000 in
theorem lawFlowFor_any (k d : Int) (w : World) (_h1 : I64 k) (_h2 : I64 d) :
    Calls Try.prog 5 #[.int .i64 k, .int .i64 d] w fun e w' => e = .returned (.bool true) ∧ Below w.heap.size w w' := by
  go_enter Try.func5, Try.ntmps5
  go_wp2_with (first | (go_at_call 16; refine (specFlowFor_any _ _ _).mono ?_; rintro e w' ⟨rfl, rfl⟩) | (go_at_call 17; refine (implFlowFor_any _ _ _).mono ?_; rintro e w' ⟨rfl, rfl⟩))
  go_ret
  exact ⟨rfl, Below.refl _ _⟩

set_option maxHeartbeats 1000000 in
theorem lawPressureOf_any (d : Int) (w : World) (_h1 : I64 d) :
    Calls Try.prog 6 #[.int .i64 d] w fun e w' => e = .returned (.bool true) ∧ Below w.heap.size w w' := by
  go_enter Try.func6, Try.ntmps6
  go_wp2_with (first | (go_at_call 18; refine (specPressure_any _ _).mono ?_; rintro e w' ⟨rfl, rfl⟩) | (go_at_call 19; refine (implPressure_any _ _).mono ?_; rintro e w' ⟨rfl, rfl⟩))
  go_ret
  exact ⟨rfl, Below.refl _ _⟩
end Go.Proofs.Ytnfpbjblmcejlaa
