/- draws: DrawEnergyOf, DrawWorstResidual -/
import Derived.Test.YtllblmndoigdlaaDe
import Derived.Test.YtllblmndoigdlaaDa
namespace Go.Proofs.Ytllblmndoigdlaa
open Go.RowKit

set_option maxRecDepth 100000 in
set_option maxHeartbeats 8000000 in
theorem DrawEnergyOf_any (A : Option Addr) (n c : Nat) (bs : List Int) (w : World) (h : Bytes w A n c bs) :
    Calls Try.prog 85 #[.slice A n c] w (DG w fun _ _ => #[]) := by
  go_enter Try.func85, Try.ntmps85
  go_wp2_with fail
  refine (l01From_any _ _ _ _ _ (h.later (bel1 _ _))).mono ?_
  rintro e w1 ⟨rfl, s1, b1⟩
  simp only [World.size_alloc] at s1
  go_wp2_with fail
  refine (l10Draw_any _ _ _ _ _ _ s1).mono ?_
  rintro e w2 ⟨An, k, cn, Ap, m, cp, ns, ps, Al, L, cl, zs, xc, rfl, hd, ol, fl, hk7, hm, hL, hxc, hs2, hg2⟩
  have st0 := DT.start s1 b1 hd hs2 hg2
  have ol0 := ol.later (bel1 w2 (.cells #[.slice An k cn, .slice Ap m cp] 27))
  have k0 := st0.c60
  have k1 := st0.c61
  have hl1 := s1.lt
  have hl2 := hg2.size
  have x1 : w1.heap[w.heap.size]? = some (.cells #[.slice none 0 0, .slice none 0 0] 27 (0, 0)) := (b1.block _ (by simp)).trans (heap_alloc_new _ _)
  have x2 := (hg2.block w.heap.size (by omega) (by intro e; injection e; omega)).trans x1
  have d0 : w2.cell? ⟨w.heap.size, 0, none⟩ = some (.slice none 0 0) := by rw [cell_blk x2]; rfl
  have d1 : w2.cell? ⟨w.heap.size, 1, none⟩ = some (.slice none 0 0) := by rw [cell_blk x2]; rfl
  have d2 : w2.frozen? ⟨w.heap.size, 0, none⟩ = false := frozen_blk x2 0
  have d3 : w2.frozen? ⟨w.heap.size, 1, none⟩ = false := frozen_blk x2 1
  have B1 := below_step (bel1 w (.cells #[.slice none 0 0, .slice none 0 0] 27)) b1
  have B2 : Below w.heap.size w w2 := B1.grown hg2 (by omega) (fun i hi => by injection hi with hi; omega)
  have FI0 : Hid (DG w (fun _ _ => #[]) (.returned (.tuple #[.agg #[.slice An k cn, .slice Ap m cp], .slice Al L cl])) ((w2.setCell ⟨w.heap.size, 0, none⟩ (.slice An k cn)).setCell ⟨w.heap.size, 1, none⟩ (.slice Ap m cp))) :=
    Lib.hid ⟨_, _, _, _, _, _, _, _, _, _, _, zs, 0, 0, rfl, hd.out (by omega) _ _, (ol.far (fun a ha => by have := fl a ha; show a.block ≠ w.heap.size; omega) _).far (fun a ha => by have := fl a ha; show a.block ≠ w.heap.size; omega) _, (fun a ha => by have := fl a ha; omega), hk7, hm, by omega, ⟨by decide, by decide⟩, ⟨by decide, by decide⟩, (B2.setCell (p := ⟨w.heap.size, 0, none⟩) (Nat.le_refl _) _).setCell (p := ⟨w.heap.size, 1, none⟩) (Nat.le_refl _) _⟩
  have FI := dg_alloc FI0 (.cells #[.slice An k cn, .slice Ap m cp] 27)
  have e0 := st0.c20
  have e1 := st0.c21
  have e2 := st0.f2 0
  have e3 := st0.f2 1
  have l0 : w.heap.size < w2.heap.size := by omega
  have rx := (Below.heap_alloc ((w2.setCell ⟨w.heap.size, 0, none⟩ (.slice An k cn)).setCell ⟨w.heap.size, 1, none⟩ (.slice Ap m cp)) (.cells #[.slice An k cn, .slice Ap m cp] 27) w.heap.size (by simp [World.setCell]; omega)).trans (heap_set (heap_set x2 0 (.slice An k cn)) 1 (.slice Ap m cp))
  have r0 := cell_blk rx 0
  have r1 := cell_blk rx 1
  simp at r0 r1
  clear hd ol fl hs2 hg2 x1 x2 B1 B2 b1 s1 st0 ol0 FI0 rx
  go_wp2_with fail
  exact bodyPost_ret (v := .tuple #[.agg #[.slice An k cn, .slice Ap m cp], .slice Al L cl]) (by simp [results, Try.results85, go_sem, r0, r1]) rfl FI.out

set_option maxRecDepth 100000 in
set_option maxHeartbeats 4000000 in
theorem DrawWorstResidual_any (A : Option Addr) (n c : Nat) (bs : List Int) (w : World) (h : Bytes w A n c bs) :
    Calls Try.prog 28 #[.slice A n c] w (DG w fun _ _ => #[]) := by
  go_enter Try.func28, Try.ntmps28
  go_wp2_with fail
  refine (DrawEnergyOf_any _ _ _ _ _ (h.later (bel1 _ _))).mono ?_
  rintro e w1 ⟨An, k, cn, Ap, m, cp, ns, ps, Al, L, cl, zs, x, y, rfl, hn, ho, hf, hk7, hm, hL, hx, hy, b1⟩
  have HS := DGS.mk' hn ho hf b1
  have d0 := HS.c0
  have d1 := HS.c1
  have d2 := HS.f0 0
  have d3 := HS.f0 1
  have FI : Hid (DG w (fun _ _ => #[]) (.returned (.tuple #[.agg #[.slice An k cn, .slice Ap m cp], .slice Al L cl])) ((w1.setCell ⟨w.heap.size, 0, none⟩ (.slice An k cn)).setCell ⟨w.heap.size, 1, none⟩ (.slice Ap m cp))) := Lib.hid ⟨An, k, cn, Ap, m, cp, ns, ps, Al, L, cl, zs, 0, 0, rfl, HS.dn, HS.own, HS.fr, hk7, hm, hL, ⟨by decide, by decide⟩, ⟨by decide, by decide⟩, HS.bel⟩
  clear hn ho hf b1 HS
  go_wp2_with fail
  exact bodyPost_ret (v := .tuple #[.agg #[.slice An k cn, .slice Ap m cp], .slice Al L cl]) (by simp [results, Try.results28, go_sem, d0, d1]) rfl FI.out

end Go.Proofs.Ytllblmndoigdlaa
