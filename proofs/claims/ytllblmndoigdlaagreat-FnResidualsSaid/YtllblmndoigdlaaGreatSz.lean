/- laws.size -/
import Derived.Test.YtllblmndoigdlaaGreatF6
namespace Go.Proofs.YtllblmndoigdlaaGreat
open Go.RowKit

theorem size_any (q : Int) (w : World) (hq : -9000000000000000000 ≤ q ∧ q ≤ 9000000000000000000) :
    Calls Tryz.prog 13 #[.int .i64 q] w fun e w' => e = .returned (.int .i64 (ab q)) ∧ w = w' := by
  by_cases h : q < 0
  · have e : ab q = -q := by unfold ab; rw [if_pos h]
    rw [e]
    go_enter Tryz.func13, Tryz.ntmps13
    go_wp2_with fail
    go_ret
    exact ⟨rfl, rfl⟩
  · have e : ab q = q := by unfold ab; rw [if_neg h]
    rw [e]
    go_enter Tryz.func13, Tryz.ntmps13
    go_wp2_with fail
    go_ret
    exact ⟨rfl, rfl⟩

end Go.Proofs.YtllblmndoigdlaaGreat
