/- draws: DrawEnergyChange -/
import Derived.Test.YtllblmndoigdlaaDe
import Derived.Test.YtllblmndoigdlaaDa
namespace Go.Proofs.Ytllblmndoigdlaa
open Go.RowKit

set_option maxRecDepth 100000 in
set_option maxHeartbeats 8000000 in
theorem DrawEnergyChange_any (A : Option Addr) (n c : Nat) (bs : List Int) (w : World) (h : Bytes w A n c bs) :
    Calls Try.prog 23 #[.slice A n c] w (DG w fun x y => #[.int .i64 x, .int .i64 y]) := by
  go_enter Try.func23, Try.ntmps23
  go_wp2_with fail
  refine (l01From_any _ _ _ _ _ (h.later (bel1 _ _))).mono ?_
  rintro e w1 ⟨rfl, s1, b1⟩
  simp only [World.size_alloc] at s1
  go_wp2_with fail
  refine (l10Draw_any _ _ _ _ _ _ s1).mono ?_
  rintro e w2 ⟨An, k, cn, Ap, m, cp, ns, ps, Al, L, cl, zs, xc, rfl, hd, ol, fl, hk7, hm, hL, hxc, hs2, hg2⟩
  have st0 := DT.start s1 b1 hd hs2 hg2
  have ol0 := ol.later (bel1 w2 (.cells #[.slice An k cn, .slice Ap m cp] 27))
  obtain ⟨w3, hw3⟩ : ∃ w3, w3 = w2.alloc (.cells #[.slice An k cn, .slice Ap m cp] 27) := ⟨_, rfl⟩
  rw [← hw3] at st0 ol0
  have HW3 := Lib.hid hw3
  have k0 := st0.c60
  have k1 := st0.c61
  rw [hw3] at k0 k1
  clear hd hs2 hg2 b1 s1 hw3 ol
  go_wp2_with fail
  rw [← HW3.out]
  clear HW3 k0 k1
  refine (l01Next_any _ _ _ _ _ _ _ st0.src).mono ?_
  rintro e w4 ⟨q, rfl, q0, q1, _, hs4, hg4⟩
  clear q1
  have ol4 := ol0.lone fl hg4 st0.e3
  have st4 := st0.next hg4 hs4
  clear st0 ol0 hs4 hg4
  have OL := Lib.hid (ol4.later (Below.refl _ _).drew)
  have j0 := st4.c60
  have j1 := st4.c61
  have d0 := st4.c20
  have d1 := st4.c21
  have d2 := st4.f2 0
  have d3 := st4.f2 1
  have hgs := st4.e3
  have ST := Lib.hid (st4.later (Below.refl _ _).drew)
  have FIN : ∀ {W : World} {x y : Int}, DT w w1 (w.heap.size + 1) A n c bs w2.heap.size An k cn Ap m cp ns ps W → Own W Al L cl zs → Fresh w1.heap.size Al → L ≤ 20 → I64 x → I64 y → Hid (DG w (fun x y => #[.int .i64 x, .int .i64 y]) (.returned (.tuple #[.agg #[.slice An k cn, .slice Ap m cp], .slice Al L cl, .int .i64 x, .int .i64 y])) ((W.setCell ⟨w.heap.size, 0, none⟩ (.slice An k cn)).setCell ⟨w.heap.size, 1, none⟩ (.slice Ap m cp))) := fun {W x y} h ho hf hL hx hy => Lib.hid ⟨An, k, cn, Ap, m, cp, ns, ps, Al, L, cl, zs, x, y, rfl, h.fnD, h.fiO ho hf, h.fiF hf, hk7, hm, hL, hx, hy, h.fin.2⟩
  have FIX := fun {W : World} {y : Int} (h1 : DT w w1 (w.heap.size + 1) A n c bs w2.heap.size An k cn Ap m cp ns ps W) (h2 : Own W Al L cl zs) (hy : I64 y) => FIN h1 h2 fl (by omega) hxc hy
  have hgr4 := st4.gr.size
  clear FIN st4 ol4
  by_cases hq : q = 0
  · subst hq
    have l3 := World.block_lt_of_cell? _ _ j0
    have l4 := World.block_lt_of_cell? _ _ d0
    simp only at l3 l4
    go_wp2_with fail
    go_region_with (go_at_call 49; first | (refine (l01Next_any _ _ _ _ _ _ _ (ST.out.src.alloc _)).mono ?_; rintro e wz ⟨y, rfl, y0, y1, _, hsz, hgz⟩; have y1' := y1 (by omega); clear y1; obtain ⟨Y, rfl⟩ := Int.eq_ofNat_of_zero_le y0; have hY : Y < 3 := (by omega); have hYi : (Y : Int) < 3 := (by omega); obtain ⟨z, hz, hzl, hzi⟩ := pick3 (a := 30000) (b := 30001) (d := -30001) ⟨by decide, by decide⟩ ⟨by decide, by decide⟩ ⟨by decide, by decide⟩ hY; have stz := (ST.out.later (bel1 _ _)).next hgz hsz; have olz := (OL.out.later (bel1 _ (.cells #[.int .i64 30000, .int .i64 30001, .int .i64 (-30001)] 2))).lone fl hgz hgs; have bl := (grown_at hgz (b := w4.heap.size) (by simp) (by omega)).trans (heap_alloc_new w4.drew _); have c0 := stz.c20; have c1 := stz.c21; have v0 := stz.f2 0; have v1 := stz.f2 1; have z0 := stz.c60; have z1 := stz.c61; have cc := cell_blk bl Y; rw [hz] at cc; have l1 := World.block_lt_of_cell? _ _ c0; have l2 := World.block_lt_of_cell? _ _ z0; simp only at l1 l2; have FI := FIX (y := z) stz olz hzi; clear stz bl olz) | (refine (l01Next_any _ _ _ _ _ _ _ ST.out.src).mono ?_; rintro e wz ⟨y, rfl, y0, y1, _, hsz, hgz⟩; have y1' := y1 (by omega); clear y1; obtain ⟨Y, rfl⟩ := Int.eq_ofNat_of_zero_le y0; have hY : Y < 3 := (by omega); have hYi : (Y : Int) < 3 := (by omega); obtain ⟨z, hz, hzl, hzi⟩ := pick3 (a := 30000) (b := 30001) (d := -30001) ⟨by decide, by decide⟩ ⟨by decide, by decide⟩ ⟨by decide, by decide⟩ hY; have stz := ST.out.next hgz hsz; have olz := OL.out.lone fl hgz hgs; have c0 := stz.c20; have c1 := stz.c21; have v0 := stz.f2 0; have v1 := stz.f2 1; have z0 := stz.c60; have z1 := stz.c61; have l1 := World.block_lt_of_cell? _ _ c0; have l2 := World.block_lt_of_cell? _ _ z0; simp only at l1 l2; have FI := FIX (y := z) (stz.later (bel1 _ (.cells #[.int .i64 30000, .int .i64 30001, .int .i64 (-30001)] 2))) (olz.later (bel1 _ (.cells #[.int .i64 30000, .int .i64 30001, .int .i64 (-30001)] 2))) hzi; have rx := (Below.heap_alloc ((wz.setCell ⟨w.heap.size, 0, none⟩ (.slice An k cn)).setCell ⟨w.heap.size, 1, none⟩ (.slice Ap m cp)) (.cells #[.int .i64 30000, .int .i64 30001, .int .i64 (-30001)] 2) w.heap.size (by simp [World.setCell]; omega)).trans (heap_set (heap_set stz.xx 0 (.slice An k cn)) 1 (.slice Ap m cp)); have r0 := cell_blk rx 0; have r1 := cell_blk rx 1; simp at r0 r1; clear rx; have FI2 := dg_alloc (FIX (y := z) stz olz hzi) (.cells #[.int .i64 30000, .int .i64 30001, .int .i64 (-30001)] 2); clear stz olz))
    all_goals
      go_wp2_with fail
      first
        | exact bodyPost_ret (v := .tuple #[.agg #[.slice An k cn, .slice Ap m cp], .slice Al L cl, .int .i64 xc, .int .i64 z]) (by simp [results, Try.results23, go_sem, c0, c1]) rfl FI.out
        | exact bodyPost_ret (v := .tuple #[.agg #[.slice An k cn, .slice Ap m cp], .slice Al L cl, .int .i64 xc, .int .i64 z]) (by simp [results, Try.results23, go_sem, r0, r1]) rfl FI2.out
  · have hq' : (q == 0) = false := by simp [hq]
    clear hq
    go_wp2_with fail
    go_region_with (go_at_call 49; refine (l01Next_any _ _ _ _ _ _ _ ST.out.src).mono ?_; rintro e wz ⟨y, rfl, y0, y1, _, hsz, hgz⟩; have y1' := y1 (by omega); clear y1; have stz := ST.out.next hgz hsz; have hw := wrap_id (z := y - 10) ⟨by omega, by omega⟩; have FI := FIX (y := y - 10) stz (OL.out.lone fl hgz hgs) ⟨by omega, by omega⟩; have z0 := stz.c60; have z1 := stz.c61; have c0 := stz.c20; have c1 := stz.c21; have v0 := stz.f2 0; have v1 := stz.f2 1; clear stz)
    all_goals
      go_wp2_with fail
      exact bodyPost_ret (v := .tuple #[.agg #[.slice An k cn, .slice Ap m cp], .slice Al L cl, .int .i64 xc, .int .i64 (y - 10)]) (by simp [results, Try.results23, go_sem, c0, c1]) rfl FI.out

end Go.Proofs.Ytllblmndoigdlaa
