/- draws at the top: DrawGapBetween -/
import Derived.Test.YtahmhmicegjdkaaK9
namespace Go.Proofs.Ytahmhmicegjdkaa
open Go.RowKit

set_option maxRecDepth 100000 in
set_option maxHeartbeats 20000000 in
theorem DrawGapBetween_any (A : Option Addr) (n c : Nat) (bs : List Int) (w : World) (h : Bytes w A n c bs) :
    Calls Try.prog 30 #[.slice A n c] w (DFl w fun x y => #[.int .i64 x, .int .i64 y]) := by
  go_enter Try.func30, Try.ntmps30
  go_wp2_with fail
  refine (l01From_any _ _ _ _ _ (h.later (bel1 _ _))).mono ?_
  rintro e w1 ⟨rfl, s1, b1⟩
  simp only [World.size_alloc] at s1
  go_wp2_with fail
  refine (l05DrawChord_any _ _ _ _ _ _ s1).mono ?_
  rintro e w2 ⟨An, k, cn, Ap, m, cp, ns, ps, xc, rfl, hd, hk7, hm, _, hs2, hg2⟩
  have st0 := DT.start s1 b1 hd hs2 hg2
  obtain ⟨w3, hw3⟩ : ∃ w3, w3 = w2.alloc (.cells #[.slice An k cn, .slice Ap m cp] 32) := ⟨_, rfl⟩
  rw [← hw3] at st0
  have HW3 := Lib.hid hw3
  have k0 := st0.c60
  have k1 := st0.c61
  rw [hw3] at k0 k1
  clear hd hs2 hg2 b1 s1 hw3
  go_wp2_with fail
  rw [← HW3.out]
  refine (l05DrawFlows_any _ _ _ _ _ _ _ _ _ _ _ _ st0.src hm).mono ?_
  rintro e w5 ⟨Al, L, cl, zs, rfl, ol, fl, hL, hs5, hg5⟩
  have st := st0.next hg5 hs5
  have fl1 : Fresh w1.heap.size Al := fun a ha => by have h1 := fl a ha; have h2 := st0.gr.size; omega
  clear st0 hs5 hg5 HW3 k0 k1 fl
  have j0 := st.c60
  have j1 := st.c61
  have hgs := st.e3
  have hst := Lib.hid (st.later (Below.refl _ _).drew)
  have hol := Lib.hid (ol.later (Below.refl _ _).drew)
  have FIN : ∀ {W : World} {x y : Int}, DT w w1 (w.heap.size + 1) A n c bs w2.heap.size An k cn Ap m cp ns ps W → Own W Al L cl zs → I64 x → I64 y → Hid (DFl w (fun x y => #[.int .i64 x, .int .i64 y]) (.returned (.tuple #[.agg #[.slice An k cn, .slice Ap m cp], .slice Al L cl, .int .i64 x, .int .i64 y])) ((W.setCell ⟨w.heap.size, 0, none⟩ (.slice An k cn)).setCell ⟨w.heap.size, 1, none⟩ (.slice Ap m cp))) := fun {W x y} h ho hx hy => Lib.hid ⟨An, k, cn, Ap, m, cp, ns, ps, Al, L, cl, zs, x, y, rfl, h.fin.1, h.finL ho fl1, hk7, hm, hL, hx, hy, h.fin.2⟩
  have hmark : Hid (0 < 1) := Lib.hid (by decide)
  have d0 := st.c20
  have d1 := st.c21
  clear st ol
  go_wp2_with fail
  go_region_with (go_at_call 88; first | (clear hmark; refine (l02DrawIndex_any _ _ _ _ _ k _ hst.out.src (by omega)).mono ?_; rintro e wz ⟨x, rfl, hx, hsz, hgz⟩; have hst1 := Lib.hid (hst.out.next hgz hsz); have hol1 := Lib.hid (hol.out.lone fl1 hgz hgs); have z0 := hst1.out.c60; have z1 := hst1.out.c61; clear hsz hgz) | (refine (l02DrawIndex_any _ _ _ _ _ k _ hst1.out.src (by omega)).mono ?_; rintro e wy ⟨y, rfl, hy, hsz, hgz⟩; have hst2 := Lib.hid (hst1.out.next hgz hsz); have FI := FIN (x := x) (y := y) hst2.out (hol1.out.lone fl1 hgz hgs) hx hy; have y0 := hst2.out.c60; have y1 := hst2.out.c61; have c0 := hst2.out.c20; have c1 := hst2.out.c21; have v0 := hst2.out.f2 0; have v1 := hst2.out.f2 1; clear hsz hgz hst2))
  all_goals
    go_wp2_with fail
    exact bodyPost_ret (v := .tuple #[.agg #[.slice An k cn, .slice Ap m cp], .slice Al L cl, .int .i64 x, .int .i64 y]) (by simp [results, Try.results30, go_sem, c0, c1]) rfl FI.out

end Go.Proofs.Ytahmhmicegjdkaa
