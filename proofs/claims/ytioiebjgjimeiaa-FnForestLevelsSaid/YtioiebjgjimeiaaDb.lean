/- draws: DrawForestLevels -/
import Derived.Test.YtioiebjgjimeiaaDa
namespace Go.Proofs.Ytioiebjgjimeiaa
open Go.RowKit

set_option maxRecDepth 100000 in
set_option maxHeartbeats 8000000 in
theorem DrawForestLevels_any (A : Option Addr) (n c : Nat) (bs : List Int) (w : World) (h : Bytes w A n c bs) :
    Calls Try.prog 52 #[.slice A n c] w (DG w fun x y => #[.int .i64 x, .int .i64 y]) := by
  go_enter Try.func52, Try.ntmps52
  go_wp2_with fail
  refine (l01From_any _ _ _ _ _ (h.later (bel1 _ _))).mono ?_
  rintro e w1 ⟨rfl, s1, b1⟩
  simp only [World.size_alloc] at s1
  go_wp2_with fail
  refine (l05DrawChord_any _ _ _ _ _ _ s1).mono ?_
  rintro e w2 ⟨An, k, cn, Ap, m, cp, ns, ps, xc, rfl, hd, hk7, hm, hxc, hs2, hg2⟩
  have st0 := DT.start s1 b1 hd hs2 hg2
  obtain ⟨w3, hw3⟩ : ∃ w3, w3 = w2.alloc (.cells #[.slice An k cn, .slice Ap m cp] 27) := ⟨_, rfl⟩
  rw [← hw3] at st0
  have HW3 := Lib.hid hw3
  have k0 := st0.c60
  have k1 := st0.c61
  rw [hw3] at k0 k1
  clear hd hs2 hg2 b1 s1 hw3
  go_wp2_with fail
  rw [← HW3.out]
  refine (l05DrawFlows_any _ _ _ _ _ _ _ _ _ _ _ _ st0.src hm).mono ?_
  rintro e w5 ⟨Al, L, cl, zs, rfl, ol, fl, hL, hs5, hg5⟩
  have st := st0.next hg5 hs5
  have fl1 : Fresh w1.heap.size Al := fun a ha => by have h1 := fl a ha; have h2 := st0.gr.size; omega
  clear st0 hs5 hg5 HW3 k0 k1 fl
  have j1 := st.c61
  have j0 := st.c60
  go_wp2_with fail
  refine (l02DrawIndex_any _ _ _ _ _ k _ st.src (by omega)).mono ?_
  rintro e w6 ⟨x, rfl, hx, hs6, hg6⟩
  have ol6 := ol.lone fl1 hg6 st.e3
  have st6 := st.next hg6 hs6
  clear st ol hs6 hg6 j0 j1
  have OL := Lib.hid (ol6.later (Below.refl _ _).drew)
  have j0 := st6.c60
  have j1 := st6.c61
  have d0 := st6.c20
  have d1 := st6.c21
  have d2 := st6.f2 0
  have d3 := st6.f2 1
  have hgs := st6.e3
  have ST := Lib.hid (st6.later (Below.refl _ _).drew)
  have FIN : ∀ {W : World} {x y : Int}, DT w w1 (w.heap.size + 1) A n c bs w2.heap.size An k cn Ap m cp ns ps W → Own W Al L cl zs → Fresh w1.heap.size Al → L ≤ 20 → I64 x → I64 y → Hid (DG w (fun x y => #[.int .i64 x, .int .i64 y]) (.returned (.tuple #[.agg #[.slice An k cn, .slice Ap m cp], .slice Al L cl, .int .i64 x, .int .i64 y])) ((W.setCell ⟨w.heap.size, 0, none⟩ (.slice An k cn)).setCell ⟨w.heap.size, 1, none⟩ (.slice Ap m cp))) := fun {W x y} h ho hf hL hx hy => Lib.hid ⟨An, k, cn, Ap, m, cp, ns, ps, Al, L, cl, zs, x, y, rfl, h.fnD, h.fiO ho hf, h.fiF hf, hk7, hm, hL, hx, hy, h.fin.2⟩
  have FIX := fun {W : World} {y : Int} (h1 : DT w w1 (w.heap.size + 1) A n c bs w2.heap.size An k cn Ap m cp ns ps W) (h2 : Own W Al L cl zs) h3 h4 (hy : I64 y) => FIN h1 h2 h3 h4 hx hy
  clear FIN st6 ol6
  go_wp2_with fail
  go_region_with (go_at_call 115; refine (l07DrawLevel_any _ _ _ _ _ _ ST.out.src).mono ?_; rintro e wz ⟨y, rfl, hy, hsz, hgz⟩; have stz := ST.out.next hgz hsz; have FI := FIX stz (OL.out.lone fl1 hgz hgs) fl1 (by omega) hy; have z0 := stz.c60; have z1 := stz.c61; have c0 := stz.c20; have c1 := stz.c21; have v0 := stz.f2 0; have v1 := stz.f2 1; clear stz)
  all_goals
    go_wp2_with fail
    exact bodyPost_ret (v := .tuple #[.agg #[.slice An k cn, .slice Ap m cp], .slice Al L cl, .int .i64 x, .int .i64 y]) (by simp [results, Try.results52, go_sem, c0, c1]) rfl FI.out

end Go.Proofs.Ytioiebjgjimeiaa
