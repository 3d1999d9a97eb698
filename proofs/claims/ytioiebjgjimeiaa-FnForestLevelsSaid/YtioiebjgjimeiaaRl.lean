/- SpanningForest -/
import Derived.Test.YtioiebjgjimeiaaR5
namespace Go.Proofs.Ytioiebjgjimeiaa
open Go.RowKit

def rSpanningForest (net : Net) : List Int × Int := if netB net then (nl (netG net).forest, 0) else ([], 1)

set_option maxRecDepth 100000 in
set_option maxHeartbeats 2000000 in
theorem implSpanningForest_any (A : Option Addr) (n c : Nat) (B : Option Addr) (m d : Nat) (net : Net) (w : World) (h : NetAt w A n c B m d net) :
    Calls Try.prog 55 #[.agg #[.slice A n c, .slice B m d]] w fun e w' => RetLI w (rSpanningForest net) e w' := by
  have HB := Lib.hid (bel1 w (.cells #[.slice A n c, .slice B m d] 27))
  rcases hv : netB net with _ | _
  · have HR : Hid (rSpanningForest net = ([], 1)) := Lib.hid (by unfold rSpanningForest; rw [hv]; rfl)
    go_enter Try.func55, Try.ntmps55
    go_wp2_with fail
    refine (implIsNetwork_is _ _ _ _ _ _ net _ _ (h.later HB.out) hv).mono ?_
    rintro e w1 ⟨rfl, b1⟩
    have t1 := below_step HB.out b1
    have s1 := b1
    obtain ⟨k0, k1⟩ := box_cells s1
    go_wp2_with fail
    go_ret2
    exact retLI_nil rfl HR.out t1
  · have ok := NetOK.of hv
    have HR : Hid (rSpanningForest net = (nl (netG net).forest, 0)) := Lib.hid (by unfold rSpanningForest; rw [hv]; rfl)
    go_enter Try.func55, Try.ntmps55
    go_wp2_with fail
    refine (implIsNetwork_is _ _ _ _ _ _ net _ _ (h.later HB.out) hv).mono ?_
    rintro e w1 ⟨rfl, b1⟩
    have t1 := below_step HB.out b1
    have s1 := b1
    obtain ⟨k0, k1⟩ := box_cells s1
    go_wp2_with fail
    refine (forestOf_any _ _ _ _ _ _ net _ (h.later t1) ok).mono ?_
    rintro e w2 ⟨Af, cf, rfl, of, ff, b2⟩
    clear k0 k1
    have t2 := below_step t1 b2
    have s2 := below_step s1 b2
    obtain ⟨k0, k1⟩ := box_cells s2
    go_wp2_with fail
    go_ret2
    exact retLI_own rfl HR.out of (fresh_up ff (by have := t1.size; omega)) t2

end Go.Proofs.Ytioiebjgjimeiaa
