/- laws.size -/
import Derived.Test.YtllblmndoigdlaaF6
namespace Go.Proofs.Ytllblmndoigdlaa
open Go.RowKit

theorem size_any (q : Int) (w : World) (hq : -9000000000000000000 ≤ q ∧ q ≤ 9000000000000000000) :
    Calls Try.prog 34 #[.int .i64 q] w fun e w' => e = .returned (.int .i64 (ab q)) ∧ w = w' := by
  by_cases h : q < 0
  · have e : ab q = -q := by unfold ab; rw [if_pos h]
    rw [e]
    go_enter Try.func34, Try.ntmps34
    go_wp2_with fail
    go_ret
    exact ⟨rfl, rfl⟩
  · have e : ab q = q := by unfold ab; rw [if_neg h]
    rw [e]
    go_enter Try.func34, Try.ntmps34
    go_wp2_with fail
    go_ret
    exact ⟨rfl, rfl⟩

end Go.Proofs.Ytllblmndoigdlaa
