/- ChordsOf, both sides -/
import Derived.Test.YtllblmndoigdlaaGreatR5
import Derived.Test.YtllblmndoigdlaaGreatK2
namespace Go.Proofs.YtllblmndoigdlaaGreat
open Go.RowKit

def rChordsOf (net : Net) : List Int × Int := if netB net then (nl (netG net).chords, 0) else ([], 1)

set_option maxRecDepth 100000 in
set_option maxHeartbeats 2000000 in
theorem implChordsOf_any (A : Option Addr) (n c : Nat) (B : Option Addr) (m d : Nat) (net : Net) (w : World) (h : NetAt w A n c B m d net) :
    Calls Tryz.prog 11 #[.agg #[.slice A n c, .slice B m d]] w fun e w' => RetLI w (rChordsOf net) e w' := by
  have HB := Lib.hid (bel1 w (.cells #[.slice A n c, .slice B m d] 27))
  rcases hv : netB net with _ | _
  · have HR : Hid (rChordsOf net = ([], 1)) := Lib.hid (by unfold rChordsOf; rw [hv]; rfl)
    go_enter Tryz.func11, Tryz.ntmps11
    go_wp2_with fail
    refine (implIsNetwork_is _ _ _ _ _ _ net _ _ (h.later HB.out) hv).mono ?_
    rintro e w1 ⟨rfl, b1⟩
    have t1 := below_step HB.out b1
    have s1 := b1
    obtain ⟨k0, k1⟩ := box_cells s1
    go_wp2_with fail
    go_ret2
    exact retLI_nil rfl HR.out t1
  · have ok := NetOK.of hv
    have HR : Hid (rChordsOf net = (nl (netG net).chords, 0)) := Lib.hid (by unfold rChordsOf; rw [hv]; rfl)
    go_enter Tryz.func11, Tryz.ntmps11
    go_wp2_with fail
    refine (implIsNetwork_is _ _ _ _ _ _ net _ _ (h.later HB.out) hv).mono ?_
    rintro e w1 ⟨rfl, b1⟩
    have t1 := below_step HB.out b1
    have s1 := b1
    obtain ⟨k0, k1⟩ := box_cells s1
    go_wp2_with fail
    refine (chordsOf_any _ _ _ _ _ _ net _ (h.later t1) ok).mono ?_
    rintro e w2 ⟨Af, cf, rfl, of, ff, b2⟩
    clear k0 k1
    have t2 := below_step t1 b2
    have s2 := below_step s1 b2
    obtain ⟨k0, k1⟩ := box_cells s2
    go_wp2_with fail
    go_ret2
    exact retLI_own rfl HR.out of (fresh_up ff (by have := t1.size; omega)) t2

set_option maxRecDepth 100000 in
set_option maxHeartbeats 2000000 in
theorem specChordsOf_li (A : Option Addr) (n c : Nat) (B : Option Addr) (m d : Nat) (net : Net) (w : World) (h : NetAt w A n c B m d net) :
    Calls Tryz.prog 12 #[.agg #[.slice A n c, .slice B m d]] w fun e w' => RetLI w (rChordsOf net) e w' := by
  have HB := Lib.hid (bel1 w (.cells #[.slice A n c, .slice B m d] 27))
  rcases hv : netB net with _ | _
  · have HR : Hid (rChordsOf net = ([], 1)) := Lib.hid (by unfold rChordsOf; rw [hv]; rfl)
    go_enter Tryz.func12, Tryz.ntmps12
    go_wp2_with fail
    refine (specIsNetwork_is _ _ _ _ _ _ net _ _ (h.later HB.out) hv).mono ?_
    rintro e w1 ⟨rfl, b1⟩
    have t1 := below_step HB.out b1
    have s1 := b1
    obtain ⟨k0, k1⟩ := box_cells s1
    go_wp2_with fail
    go_ret2
    exact retLI_nil rfl HR.out t1
  · have ok := NetOK.of hv
    have HR : Hid (rChordsOf net = (nl (netG net).chords, 0)) := Lib.hid (by unfold rChordsOf; rw [hv]; rfl)
    go_enter Tryz.func12, Tryz.ntmps12
    go_wp2_with fail
    refine (specIsNetwork_is _ _ _ _ _ _ net _ _ (h.later HB.out) hv).mono ?_
    rintro e w1 ⟨rfl, b1⟩
    have t1 := below_step HB.out b1
    have s1 := b1
    obtain ⟨k0, k1⟩ := box_cells s1
    go_wp2_with fail
    refine (l05Chords_any _ _ _ _ _ _ net _ (h.later t1) ok).mono ?_
    rintro e w2 ⟨Af, cf, rfl, of, ff, b2⟩
    clear k0 k1
    have t2 := below_step t1 b2
    have s2 := below_step s1 b2
    obtain ⟨k0, k1⟩ := box_cells s2
    go_wp2_with fail
    go_ret2
    exact retLI_own rfl HR.out of (fresh_up ff (by have := t1.size; omega)) t2

end Go.Proofs.YtllblmndoigdlaaGreat
