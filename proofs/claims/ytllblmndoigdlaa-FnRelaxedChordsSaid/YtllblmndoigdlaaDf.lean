/- draws: DrawRelaxChord -/
import Derived.Test.YtllblmndoigdlaaDe
import Derived.Test.YtllblmndoigdlaaDa
namespace Go.Proofs.Ytllblmndoigdlaa
open Go.RowKit

set_option maxRecDepth 100000 in
set_option maxHeartbeats 8000000 in
theorem DrawRelaxChord_any (A : Option Addr) (n c : Nat) (bs : List Int) (w : World) (h : Bytes w A n c bs) :
    Calls Try.prog 40 #[.slice A n c] w (DG w fun x _ => #[.int .i64 x]) := by
  go_enter Try.func40, Try.ntmps40
  go_wp2_with fail
  refine (l01From_any _ _ _ _ _ (h.later (bel1 _ _))).mono ?_
  rintro e w1 ⟨rfl, s1, b1⟩
  simp only [World.size_alloc] at s1
  go_wp2_with fail
  refine (l10Draw_any _ _ _ _ _ _ s1).mono ?_
  rintro e w2 ⟨An, k, cn, Ap, m, cp, ns, ps, Al, L, cl, zs, xc, rfl, hd, ol, fl, hk7, hm, hL, hxc, hs2, hg2⟩
  have x1 : w1.heap[w.heap.size]? = some (.cells #[.slice none 0 0, .slice none 0 0] 27 (0, 0)) := (b1.block _ (by simp)).trans (heap_alloc_new _ _)
  have hl1 := s1.lt
  have x2 := (hg2.block w.heap.size (by omega) (by intro e; injection e; omega)).trans x1
  have d0 : w2.cell? ⟨w.heap.size, 0, none⟩ = some (.slice none 0 0) := by rw [cell_blk x2]; rfl
  have d1 : w2.cell? ⟨w.heap.size, 1, none⟩ = some (.slice none 0 0) := by rw [cell_blk x2]; rfl
  have d2 : w2.frozen? ⟨w.heap.size, 0, none⟩ = false := frozen_blk x2 0
  have d3 : w2.frozen? ⟨w.heap.size, 1, none⟩ = false := frozen_blk x2 1
  have B1 := below_step (bel1 w (.cells #[.slice none 0 0, .slice none 0 0] 27)) b1
  have B2 : Below w.heap.size w w2 := B1.grown hg2 (by omega) (fun i hi => by injection hi with hi; omega)
  have FI : Hid (DG w (fun x _ => #[.int .i64 x]) (.returned (.tuple #[.agg #[.slice An k cn, .slice Ap m cp], .slice Al L cl, .int .i64 xc])) ((w2.setCell ⟨w.heap.size, 0, none⟩ (.slice An k cn)).setCell ⟨w.heap.size, 1, none⟩ (.slice Ap m cp))) :=
    Lib.hid ⟨_, _, _, _, _, _, _, _, _, _, _, zs, xc, 0, rfl, hd.out (by omega) _ _, (ol.far (fun a ha => by have := fl a ha; show a.block ≠ w.heap.size; omega) _).far (fun a ha => by have := fl a ha; show a.block ≠ w.heap.size; omega) _, (fun a ha => by have := fl a ha; omega), hk7, hm, by omega, hxc, ⟨by decide, by decide⟩, (B2.setCell (p := ⟨w.heap.size, 0, none⟩) (Nat.le_refl _) _).setCell (p := ⟨w.heap.size, 1, none⟩) (Nat.le_refl _) _⟩
  clear hd ol fl hs2 hg2 x1 x2 B1 B2 b1 s1
  go_wp2_with fail
  exact bodyPost_ret (v := .tuple #[.agg #[.slice An k cn, .slice Ap m cp], .slice Al L cl, .int .i64 xc]) (by simp [results, Try.results40, go_sem, d0, d1]) rfl FI.out

end Go.Proofs.Ytllblmndoigdlaa
