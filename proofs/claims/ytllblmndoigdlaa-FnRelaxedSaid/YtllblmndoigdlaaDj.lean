/- draws: DrawRelaxFlows -/
import Derived.Test.YtllblmndoigdlaaDe
import Derived.Test.YtllblmndoigdlaaDa
namespace Go.Proofs.Ytllblmndoigdlaa
open Go.RowKit

theorem pick8 {Y : Nat} (h : Y < 8) : ∃ z : Int, (#[Value.int .i64 1, .int .i64 2, .int .i64 4, .int .i64 16, .int .i64 32768, .int .i64 0, .int .i64 3, .int .i64 65536] : Array Value)[Y]? = some (.int .i64 z) ∧ (∀ hh, ([Value.int .i64 1, .int .i64 2, .int .i64 4, .int .i64 16, .int .i64 32768, .int .i64 0, .int .i64 3, .int .i64 65536] : List Value)[Y]'hh = .int .i64 z) ∧ I64 z := by
  have hY : Y = 0 ∨ Y = 1 ∨ Y = 2 ∨ Y = 3 ∨ Y = 4 ∨ Y = 5 ∨ Y = 6 ∨ Y = 7 := by omega
  rcases hY with rfl | rfl | rfl | rfl | rfl | rfl | rfl | rfl
  · exact ⟨1, rfl, fun _ => rfl, by decide, by decide⟩
  · exact ⟨2, rfl, fun _ => rfl, by decide, by decide⟩
  · exact ⟨4, rfl, fun _ => rfl, by decide, by decide⟩
  · exact ⟨16, rfl, fun _ => rfl, by decide, by decide⟩
  · exact ⟨32768, rfl, fun _ => rfl, by decide, by decide⟩
  · exact ⟨0, rfl, fun _ => rfl, by decide, by decide⟩
  · exact ⟨3, rfl, fun _ => rfl, by decide, by decide⟩
  · exact ⟨65536, rfl, fun _ => rfl, by decide, by decide⟩

set_option maxRecDepth 100000 in
set_option maxHeartbeats 8000000 in
theorem DrawRelaxFlows_any (A : Option Addr) (n c : Nat) (bs : List Int) (w : World) (h : Bytes w A n c bs) :
    Calls Try.prog 35 #[.slice A n c] w (DG w fun x _ => #[.int .i64 x]) := by
  go_enter Try.func35, Try.ntmps35
  go_wp2_with fail
  refine (l01From_any _ _ _ _ _ (h.later (bel1 _ _))).mono ?_
  rintro e w1 ⟨rfl, s1, b1⟩
  simp only [World.size_alloc] at s1
  go_wp2_with fail
  refine (l10Draw_any _ _ _ _ _ _ s1).mono ?_
  rintro e w2 ⟨An, k, cn, Ap, m, cp, ns, ps, Al, L, cl, zs, xc, rfl, hd, ol, fl, hk7, hm, hL, hxc, hs2, hg2⟩
  have st0 := DT.start s1 b1 hd hs2 hg2
  have ol0 := ol.later (bel1 w2 (.cells #[.slice An k cn, .slice Ap m cp] 27))
  obtain ⟨w3, hw3⟩ : ∃ w3, w3 = w2.alloc (.cells #[.slice An k cn, .slice Ap m cp] 27) := ⟨_, rfl⟩
  rw [← hw3] at st0 ol0
  have HW3 := Lib.hid hw3
  have k0 := st0.c60
  have k1 := st0.c61
  rw [hw3] at k0 k1
  clear hd hs2 hg2 b1 s1 hw3 ol
  go_wp2_with fail
  rw [← HW3.out]
  clear HW3 k0 k1
  have OL := Lib.hid (ol0.later (Below.refl _ _).drew)
  have j0 := st0.c60
  have j1 := st0.c61
  have d0 := st0.c20
  have d1 := st0.c21
  have d2 := st0.f2 0
  have d3 := st0.f2 1
  have hgs := st0.e3
  have ST := Lib.hid (st0.later (Below.refl _ _).drew)
  have FIN : ∀ {W : World} {x : Int}, DT w w1 (w.heap.size + 1) A n c bs w2.heap.size An k cn Ap m cp ns ps W → Own W Al L cl zs → Fresh w1.heap.size Al → L ≤ 20 → I64 x → Hid (DG w (fun x _ => #[.int .i64 x]) (.returned (.tuple #[.agg #[.slice An k cn, .slice Ap m cp], .slice Al L cl, .int .i64 x])) ((W.setCell ⟨w.heap.size, 0, none⟩ (.slice An k cn)).setCell ⟨w.heap.size, 1, none⟩ (.slice Ap m cp))) := fun {W x} h ho hf hL hx => Lib.hid ⟨An, k, cn, Ap, m, cp, ns, ps, Al, L, cl, zs, x, 0, rfl, h.fnD, h.fiO ho hf, h.fiF hf, hk7, hm, hL, hx, ⟨by decide, by decide⟩, h.fin.2⟩
  have FIX := fun {W : World} {x : Int} (h1 : DT w w1 (w.heap.size + 1) A n c bs w2.heap.size An k cn Ap m cp ns ps W) (h2 : Own W Al L cl zs) (hy : I64 x) => FIN h1 h2 fl (by omega) hy
  have hgr4 := st0.gr.size
  clear FIN st0 ol0
  have l3 := World.block_lt_of_cell? _ _ j0
  have l4 := World.block_lt_of_cell? _ _ d0
  simp only at l3 l4
  go_region_with (go_at_call 49; first | (refine (l01Next_any _ _ _ _ _ _ _ (ST.out.src.alloc _)).mono ?_; rintro e wz ⟨y, rfl, y0, y1, _, hsz, hgz⟩; have y1' := y1 (by omega); clear y1; obtain ⟨Y, rfl⟩ := Int.eq_ofNat_of_zero_le y0; have hY : Y < 8 := (by omega); have hYi : (Y : Int) < 8 := (by omega); obtain ⟨z, hz, hzl, hzi⟩ := pick8 hY; have stz := (ST.out.later (bel1 _ _)).next hgz hsz; have olz := (OL.out.later (bel1 _ (.cells #[.int .i64 1, .int .i64 2, .int .i64 4, .int .i64 16, .int .i64 32768, .int .i64 0, .int .i64 3, .int .i64 65536] 2))).lone fl hgz hgs; have bl := (grown_at hgz (b := w3.heap.size) (by simp) (by omega)).trans (heap_alloc_new w3.drew _); have c0 := stz.c20; have c1 := stz.c21; have v0 := stz.f2 0; have v1 := stz.f2 1; have z0 := stz.c60; have z1 := stz.c61; have cc := cell_blk bl Y; rw [hz] at cc; have l1 := World.block_lt_of_cell? _ _ c0; have l2 := World.block_lt_of_cell? _ _ z0; simp only at l1 l2; have FI := FIX (x := z) stz olz hzi; clear stz bl olz) | (refine (l01Next_any _ _ _ _ _ _ _ ST.out.src).mono ?_; rintro e wz ⟨y, rfl, y0, y1, _, hsz, hgz⟩; have y1' := y1 (by omega); clear y1; obtain ⟨Y, rfl⟩ := Int.eq_ofNat_of_zero_le y0; have hY : Y < 8 := (by omega); have hYi : (Y : Int) < 8 := (by omega); obtain ⟨z, hz, hzl, hzi⟩ := pick8 hY; have stz := ST.out.next hgz hsz; have olz := OL.out.lone fl hgz hgs; have c0 := stz.c20; have c1 := stz.c21; have v0 := stz.f2 0; have v1 := stz.f2 1; have z0 := stz.c60; have z1 := stz.c61; have l1 := World.block_lt_of_cell? _ _ c0; have l2 := World.block_lt_of_cell? _ _ z0; simp only at l1 l2; have FI := FIX (x := z) (stz.later (bel1 _ (.cells #[.int .i64 1, .int .i64 2, .int .i64 4, .int .i64 16, .int .i64 32768, .int .i64 0, .int .i64 3, .int .i64 65536] 2))) (olz.later (bel1 _ (.cells #[.int .i64 1, .int .i64 2, .int .i64 4, .int .i64 16, .int .i64 32768, .int .i64 0, .int .i64 3, .int .i64 65536] 2))) hzi; have rx := (Below.heap_alloc ((wz.setCell ⟨w.heap.size, 0, none⟩ (.slice An k cn)).setCell ⟨w.heap.size, 1, none⟩ (.slice Ap m cp)) (.cells #[.int .i64 1, .int .i64 2, .int .i64 4, .int .i64 16, .int .i64 32768, .int .i64 0, .int .i64 3, .int .i64 65536] 2) w.heap.size (by simp [World.setCell]; omega)).trans (heap_set (heap_set stz.xx 0 (.slice An k cn)) 1 (.slice Ap m cp)); have r0 := cell_blk rx 0; have r1 := cell_blk rx 1; simp at r0 r1; clear rx; have FI2 := dg_alloc (FIX (x := z) stz olz hzi) (.cells #[.int .i64 1, .int .i64 2, .int .i64 4, .int .i64 16, .int .i64 32768, .int .i64 0, .int .i64 3, .int .i64 65536] 2); clear stz olz))
  all_goals
    go_wp2_with fail
    first
      | exact bodyPost_ret (v := .tuple #[.agg #[.slice An k cn, .slice Ap m cp], .slice Al L cl, .int .i64 z]) (by simp [results, Try.results35, go_sem, c0, c1]) rfl FI.out
      | exact bodyPost_ret (v := .tuple #[.agg #[.slice An k cn, .slice Ap m cp], .slice Al L cl, .int .i64 z]) (by simp [results, Try.results35, go_sem, r0, r1]) rfl FI2.out

end Go.Proofs.Ytllblmndoigdlaa
