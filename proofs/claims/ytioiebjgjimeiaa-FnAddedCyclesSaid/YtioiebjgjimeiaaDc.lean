/- draws: DrawAddCycle -/
import Derived.Test.YtioiebjgjimeiaaDa
namespace Go.Proofs.Ytioiebjgjimeiaa
open Go.RowKit

set_option maxRecDepth 100000 in
set_option maxHeartbeats 8000000 in
theorem DrawAddCycle_any (A : Option Addr) (n c : Nat) (bs : List Int) (w : World) (h : Bytes w A n c bs) :
    Calls Try.prog 63 #[.slice A n c] w (DG w fun x y => #[.int .i64 x, .int .i64 y]) := by
  go_enter Try.func63, Try.ntmps63
  go_wp2_with fail
  refine (l01From_any _ _ _ _ _ (h.later (bel1 _ _))).mono ?_
  rintro e w1 ⟨rfl, s1, b1⟩
  simp only [World.size_alloc] at s1
  go_wp2_with fail
  refine (l05DrawChord_any _ _ _ _ _ _ s1).mono ?_
  rintro e w2 ⟨An, k, cn, Ap, m, cp, ns, ps, xc, rfl, hd, hk7, hm, hxc, hs2, hg2⟩
  have st0 := DT.start s1 b1 hd hs2 hg2
  obtain ⟨w3, hw3⟩ : ∃ w3, w3 = w2.alloc (.cells #[.slice An k cn, .slice Ap m cp] 27) := ⟨_, rfl⟩
  rw [← hw3] at st0
  have HW3 := Lib.hid hw3
  have k0 := st0.c60
  have k1 := st0.c61
  rw [hw3] at k0 k1
  clear hd hs2 hg2 b1 s1 hw3
  go_wp2_with fail
  rw [← HW3.out]
  refine (l01Next_any _ _ _ _ _ _ _ st0.src).mono ?_
  rintro e w4 ⟨q, rfl, q0, q1, _, hs4, hg4⟩
  have q1' := q1 (by omega)
  clear q1
  have st4 := st0.next hg4 hs4
  clear st0 hs4 hg4 HW3 k0 k1
  have FIN0 : Hid (0 < 1) := Lib.hid (by decide)
  clear FIN0
  go_wp2_with fail
  refine (l01Next_any _ _ _ _ _ _ _ st4.src).mono ?_
  rintro e w5 ⟨p, rfl, p0, p1, _, hs5, hg5⟩
  clear p1
  have st5 := st4.next hg5 hs5
  clear st4 hs5 hg5
  by_cases hp : p = 0
  · subst hp
    clear p0
    have hw5 := st5.gr.size
    have h53 := st5.e3
    go_wp2_with fail
    refine (l01Next_any _ _ _ _ _ _ _ (st5.src.alloc _)).mono ?_
    rintro e w6 ⟨y, rfl, y0, y1, _, hs6, hg6⟩
    have y1' := y1 (by omega)
    clear y1
    obtain ⟨Y, rfl⟩ := Int.eq_ofNat_of_zero_le y0
    obtain ⟨z, hz, hzl, hzi⟩ := pick3 (a := 30000) (b := 30001) (d := -30001) ⟨by decide, by decide⟩ ⟨by decide, by decide⟩ ⟨by decide, by decide⟩ (Y := Y) (by omega)
    have bl := (grown_at hg6 (b := w5.heap.size) (by simp) (by omega)).trans (heap_alloc_new w5 _)
    have cc := cell_blk bl Y
    rw [hz] at cc
    have st6 := (st5.later (bel1 _ _)).next hg6 hs6
    clear bl hz hzl st5 hs6 hg6
    have j0 := st6.c60
    have j1 := st6.c61
    have d0 := st6.c20
    have d1 := st6.c21
    have d2 := st6.f2 0
    have d3 := st6.f2 1
    have hgs := st6.e3
    have ST := Lib.hid (st6.later (Below.refl _ _).drew)
    have FIN : ∀ {W : World} {Al : Option Addr} {L cl : Nat} {zs : List Int} {x y : Int}, DT w w1 (w.heap.size + 1) A n c bs w2.heap.size An k cn Ap m cp ns ps W → Own W Al L cl zs → Fresh w1.heap.size Al → L ≤ 20 → I64 x → I64 y → Hid (DG w (fun x y => #[.int .i64 x, .int .i64 y]) (.returned (.tuple #[.agg #[.slice An k cn, .slice Ap m cp], .slice Al L cl, .int .i64 x, .int .i64 y])) ((W.setCell ⟨w.heap.size, 0, none⟩ (.slice An k cn)).setCell ⟨w.heap.size, 1, none⟩ (.slice Ap m cp))) := fun {W Al L cl zs x y} h ho hf hL hx hy => Lib.hid ⟨An, k, cn, Ap, m, cp, ns, ps, Al, L, cl, zs, x, y, rfl, h.fnD, h.fiO ho hf, h.fiF hf, hk7, hm, hL, hx, hy, h.fin.2⟩
    have FIX := fun {W : World} {Al : Option Addr} {L cl : Nat} {zs : List Int} (h1 : DT w w1 (w.heap.size + 1) A n c bs w2.heap.size An k cn Ap m cp ns ps W) (h2 : Own W Al L cl zs) h3 h4 => FIN h1 h2 h3 h4 hxc hzi
    clear FIN st6
    go_wp2_with fail
    go_region_with (go_at_call 78; refine (l05DrawFlows_any _ _ _ _ _ _ _ _ _ _ _ _ ST.out.src hm).mono ?_; rintro e wz ⟨Al, L, cl, zs, rfl, oq, fq, hLq, hsz, hgz⟩; have fq1 : Fresh w1.heap.size Al := (fun a ha => by have h1 := fq a ha; have h2 := ST.out.gr.size; omega); have stz := ST.out.next hgz hsz; have FI := FIX stz oq fq1 (by omega); have z0 := stz.c60; have z1 := stz.c61; have c0 := stz.c20; have c1 := stz.c21; have v0 := stz.f2 0; have v1 := stz.f2 1; clear stz)
    all_goals
      go_wp2_with fail
      exact bodyPost_ret (v := .tuple #[.agg #[.slice An k cn, .slice Ap m cp], .slice Al L cl, .int .i64 xc, .int .i64 z]) (by simp [results, Try.results63, go_sem, c0, c1]) rfl FI.out
  · have hp' : (p == 0) = false := by simp [hp]
    clear hp
    have hyi : I64 (q - 20) := ⟨by omega, by omega⟩
    have j0 := st5.c60
    have j1 := st5.c61
    have d0 := st5.c20
    have d1 := st5.c21
    have d2 := st5.f2 0
    have d3 := st5.f2 1
    have hgs := st5.e3
    have ST := Lib.hid (st5.later (Below.refl _ _).drew)
    have FIN : ∀ {W : World} {Al : Option Addr} {L cl : Nat} {zs : List Int} {x y : Int}, DT w w1 (w.heap.size + 1) A n c bs w2.heap.size An k cn Ap m cp ns ps W → Own W Al L cl zs → Fresh w1.heap.size Al → L ≤ 20 → I64 x → I64 y → Hid (DG w (fun x y => #[.int .i64 x, .int .i64 y]) (.returned (.tuple #[.agg #[.slice An k cn, .slice Ap m cp], .slice Al L cl, .int .i64 x, .int .i64 y])) ((W.setCell ⟨w.heap.size, 0, none⟩ (.slice An k cn)).setCell ⟨w.heap.size, 1, none⟩ (.slice Ap m cp))) := fun {W Al L cl zs x y} h ho hf hL hx hy => Lib.hid ⟨An, k, cn, Ap, m, cp, ns, ps, Al, L, cl, zs, x, y, rfl, h.fnD, h.fiO ho hf, h.fiF hf, hk7, hm, hL, hx, hy, h.fin.2⟩
    have FIX := fun {W : World} {Al : Option Addr} {L cl : Nat} {zs : List Int} (h1 : DT w w1 (w.heap.size + 1) A n c bs w2.heap.size An k cn Ap m cp ns ps W) (h2 : Own W Al L cl zs) h3 h4 => FIN h1 h2 h3 h4 hxc hyi
    clear FIN st5
    go_wp2_with fail
    go_region_with (go_at_call 78; refine (l05DrawFlows_any _ _ _ _ _ _ _ _ _ _ _ _ ST.out.src hm).mono ?_; rintro e wz ⟨Al, L, cl, zs, rfl, oq, fq, hLq, hsz, hgz⟩; have fq1 : Fresh w1.heap.size Al := (fun a ha => by have h1 := fq a ha; have h2 := ST.out.gr.size; omega); have stz := ST.out.next hgz hsz; have FI := FIX stz oq fq1 (by omega); have z0 := stz.c60; have z1 := stz.c61; have c0 := stz.c20; have c1 := stz.c21; have v0 := stz.f2 0; have v1 := stz.f2 1; clear stz)
    all_goals
      go_wp2_with fail
      exact bodyPost_ret (v := .tuple #[.agg #[.slice An k cn, .slice Ap m cp], .slice Al L cl, .int .i64 xc, .int .i64 (q - 20)]) (by simp [results, Try.results63, go_sem, c0, c1]) rfl FI.out

end Go.Proofs.Ytioiebjgjimeiaa
