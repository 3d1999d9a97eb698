/- draws at the top: DrawTightNodes -/
import Derived.Test.YtahmhmicegjdkaaK9
import Derived.Test.YtahmhmicegjdkaaJ3
namespace Go.Proofs.Ytahmhmicegjdkaa
open Go.RowKit

/-- the answer of a draw: a network, a list and numbers, all in rows of their own -/
def DFo (w : World) (vs : Int → Int → Array Value) (e : Ending) (w' : World) : Prop :=
  ∃ An k cn Ap m cp ns ps Al L cl zs x y, e = .returned (.tuple (#[.agg #[.slice An k cn, .slice Ap m cp], .slice Al L cl] ++ vs x y)) ∧ DN w.heap.size w' An k cn Ap m cp ns ps ∧ Own w' Al L cl zs ∧ Fresh w.heap.size Al ∧ k ≤ 7 ∧ m ≤ 12 ∧ L ≤ 13 ∧ I64 x ∧ I64 y ∧ Below w.heap.size w w'

section
variable {w0 w1 W : World} {g : Nat} {A : Option Addr} {n c : Nat} {bs : List Int} {b6 : Nat} {An : Option Addr} {k cn : Nat} {Ap : Option Addr} {m cp : Nat} {ns : List Node} {ps : List Pipe} {Al : Option Addr} {L cl : Nat} {zs : List Int}
theorem DT.finF (h : DT w0 w1 g A n c bs b6 An k cn Ap m cp ns ps W) (hf : Fresh w1.heap.size Al) : Fresh w0.heap.size Al := fun a ha => by
  have h2 := h.e2; have h3 := h.e3; have := hf a ha; omega
theorem DT.finD (h : DT w0 w1 g A n c bs b6 An k cn Ap m cp ns ps W) : DN w0.heap.size ((W.setCell ⟨w0.heap.size, 0, none⟩ (.slice An k cn)).setCell ⟨w0.heap.size, 1, none⟩ (.slice Ap m cp)) An k cn Ap m cp ns ps := by
  have h2 := h.e2; have h3 := h.e3
  refine ⟨?_, ?_, h.finF h.dn.fn, h.finF h.dn.fp, h.dn.ne, h.dn.np⟩
  · exact (h.dn.on.keepOther (fun a ha => by have := h.dn.fn a ha; show a.block ≠ w0.heap.size; omega) _).keepOther (fun a ha => by have := h.dn.fn a ha; show a.block ≠ w0.heap.size; omega) _
  · exact (h.dn.op.keepOther (fun a ha => by have := h.dn.fp a ha; show a.block ≠ w0.heap.size; omega) _).keepOther (fun a ha => by have := h.dn.fp a ha; show a.block ≠ w0.heap.size; omega) _
theorem DT.finO (h : DT w0 w1 g A n c bs b6 An k cn Ap m cp ns ps W) (ho : Own W Al L cl zs) (hf : Fresh w1.heap.size Al) :
    Own ((W.setCell ⟨w0.heap.size, 0, none⟩ (.slice An k cn)).setCell ⟨w0.heap.size, 1, none⟩ (.slice Ap m cp)) Al L cl zs := by
  have h2 := h.e2; have h3 := h.e3
  exact (ho.far (fun a ha => by have := hf a ha; show a.block ≠ w0.heap.size; omega) _).far (fun a ha => by have := hf a ha; show a.block ≠ w0.heap.size; omega) _
theorem dfl_alloc {w w' : World} {vs : Int → Int → Array Value} {e : Ending} (h : Hid (DFl w vs e w')) (o : Obj) : Hid (DFl w vs e (w'.alloc o)) := by
  obtain ⟨An, k, cn, Ap, m, cp, ns, ps, Al, L, cl, zs, x, y, he, hn, hz, h1, h2, h3, h4, h5, hb⟩ := h.out
  exact Lib.hid ⟨An, k, cn, Ap, m, cp, ns, ps, Al, L, cl, zs, x, y, he, hn.later (bel1 _ _), hz.later (bel1 _ _), h1, h2, h3, h4, h5, below_step hb (bel1 _ _)⟩

end

set_option maxRecDepth 100000 in
set_option maxHeartbeats 8000000 in
theorem DrawRootRange_own (A : Option Addr) (n c : Nat) (bs : List Int) (w : World) (h : Bytes w A n c bs) :
    Calls Try.prog 43 #[.slice A n c] w (DFo w fun x _ => #[.int .i64 x]) := by
  go_enter Try.func43, Try.ntmps43
  go_wp2_with fail
  refine (l01From_any _ _ _ _ _ (h.later (bel1 _ _))).mono ?_
  rintro e w1 ⟨rfl, s1, b1⟩
  simp only [World.size_alloc] at s1
  go_wp2_with fail
  refine (l05DrawChord_any _ _ _ _ _ _ s1).mono ?_
  rintro e w2 ⟨An, k, cn, Ap, m, cp, ns, ps, xc, rfl, hd, hk7, hm, _, hs2, hg2⟩
  have st0 := DT.start s1 b1 hd hs2 hg2
  obtain ⟨w3, hw3⟩ : ∃ w3, w3 = w2.alloc (.cells #[.slice An k cn, .slice Ap m cp] 32) := ⟨_, rfl⟩
  rw [← hw3] at st0
  have HW3 := Lib.hid hw3
  have k0 := st0.c60
  have k1 := st0.c61
  rw [hw3] at k0 k1
  clear hd hs2 hg2 b1 s1 hw3
  go_wp2_with fail
  rw [← HW3.out]
  refine (l05DrawFlows_any _ _ _ _ _ _ _ _ _ _ _ _ st0.src hm).mono ?_
  rintro e w5 ⟨Al, L, cl, zs, rfl, ol, fl, hL, hs5, hg5⟩
  have st := st0.next hg5 hs5
  have fl1 : Fresh w1.heap.size Al := fun a ha => by have h1 := fl a ha; have h2 := st0.gr.size; omega
  clear st0 hs5 hg5 HW3 k0 k1 fl
  have j0 := st.c60
  have j1 := st.c61
  have d0 := st.c20
  have d1 := st.c21
  have d2 := st.f2 0
  have d3 := st.f2 1
  have hgs := st.e3
  have ST := Lib.hid (st.later (Below.refl _ _).drew)
  have OL := Lib.hid (ol.later (Below.refl _ _).drew)
  have FIN : ∀ {W : World} {x : Int}, DT w w1 (w.heap.size + 1) A n c bs w2.heap.size An k cn Ap m cp ns ps W → Own W Al L cl zs → I64 x → Hid (DFo w (fun x _ => #[.int .i64 x]) (.returned (.tuple #[.agg #[.slice An k cn, .slice Ap m cp], .slice Al L cl, .int .i64 x])) ((W.setCell ⟨w.heap.size, 0, none⟩ (.slice An k cn)).setCell ⟨w.heap.size, 1, none⟩ (.slice Ap m cp))) := fun {W x} h ho hy => Lib.hid ⟨An, k, cn, Ap, m, cp, ns, ps, Al, L, cl, zs, x, 0, rfl, h.finD, h.finO ho fl1, h.finF fl1, hk7, hm, hL, hy, ⟨by decide, by decide⟩, h.fin.2⟩
  clear st ol
  go_wp2_with fail
  go_region_with (go_at_call 88; refine (l02DrawIndex_any _ _ _ _ _ k _ ST.out.src (by omega)).mono ?_; rintro e wz ⟨y, rfl, hy, hsz, hgz⟩; have stz := ST.out.next hgz hsz; have FI := FIN (x := y) stz (OL.out.lone fl1 hgz hgs) hy; have z0 := stz.c60; have z1 := stz.c61; have c0 := stz.c20; have c1 := stz.c21; have v0 := stz.f2 0; have v1 := stz.f2 1; clear stz)
  all_goals
    go_wp2_with fail
    exact bodyPost_ret (v := .tuple #[.agg #[.slice An k cn, .slice Ap m cp], .slice Al L cl, .int .i64 y]) (by simp [results, Try.results43, go_sem, c0, c1]) rfl FI.out

set_option maxRecDepth 100000 in
set_option maxHeartbeats 20000000 in
theorem DrawTightNodes_any (A : Option Addr) (n c : Nat) (bs : List Int) (w : World) (h : Bytes w A n c bs) :
    Calls Try.prog 58 #[.slice A n c] w (DFl w fun x y => #[.int .i64 x, .int .i64 y]) := by
  go_enter Try.func58, Try.ntmps58
  go_wp2_with fail
  refine (l01From_any _ _ _ _ _ (h.later (bel1 _ _))).mono ?_
  rintro e w1 ⟨rfl, s1, b1⟩
  simp only [World.size_alloc] at s1
  have hy1 := h.later (below_step (bel1 _ _) b1)
  go_wp2_with fail
  refine (DrawRootRange_own _ _ _ _ _ hy1).mono ?_
  rintro e w2 ⟨An, k, cn, Ap, m, cp, ns, ps, Al, L, cl, zs, x, _, rfl, hd, ol0, fl1, hk7, hm, hL, hx, _, b2⟩
  have st0 := DT.start s1 b1 hd (s1.keep b2) (only_below b2)
  obtain ⟨w3, hw3⟩ : ∃ w3, w3 = w2.alloc (.cells #[.slice An k cn, .slice Ap m cp] 32) := ⟨_, rfl⟩
  have ol3 := ol0.later (bel1 w2 (.cells #[.slice An k cn, .slice Ap m cp] 32))
  rw [← hw3] at st0 ol3
  have HW3 := Lib.hid hw3
  have k0 := st0.c60
  have k1 := st0.c61
  rw [hw3] at k0 k1
  clear hd b2 b1 s1 hw3 ol0 hy1
  go_wp2_with fail
  rw [← HW3.out]
  refine (specRootRange_any _ _ _ _ _ _ ⟨ns, ps⟩ _ _ _ zs _ _ st0.net ol3.ints hx).mono ?_
  rintro e w4 ⟨rfl, b4⟩
  have st4 := st0.later b4
  have ol4 := ol3.later b4
  have hlim := rRootRange_lim ⟨ns, ps⟩ zs x
  generalize (rRootRange ⟨ns, ps⟩ zs x).1 = P at *
  generalize (rRootRange ⟨ns, ps⟩ zs x).2.1 = Q at *
  generalize (rRootRange ⟨ns, ps⟩ zs x).2.2 = K at *
  clear st0 ol3 b4 HW3 k0 k1
  have FIN : ∀ {W : World} {y : Int}, DT w w1 (w.heap.size + 1) A n c bs w2.heap.size An k cn Ap m cp ns ps W → Own W Al L cl zs → I64 y → Hid (DFl w (fun x y => #[.int .i64 x, .int .i64 y]) (.returned (.tuple #[.agg #[.slice An k cn, .slice Ap m cp], .slice Al L cl, .int .i64 x, .int .i64 y])) ((W.setCell ⟨w.heap.size, 0, none⟩ (.slice An k cn)).setCell ⟨w.heap.size, 1, none⟩ (.slice Ap m cp))) := fun {W y} h ho hy => Lib.hid ⟨An, k, cn, Ap, m, cp, ns, ps, Al, L, cl, zs, x, y, rfl, h.fin.1, h.finL ho fl1, hk7, hm, hL, hx, hy, h.fin.2⟩
  by_cases hK : K = 0
  · subst hK
    go_wp2_with fail
    refine (l01Next_any _ _ _ _ _ _ _ st4.src).mono ?_
    rintro e w5 ⟨q, rfl, q0, q1, _, hs5, hg5⟩
    clear q1 q0
    have st := st4.next hg5 hs5
    have ol := ol4.lone fl1 hg5 st4.e3
    clear st4 ol4 hs5 hg5
    by_cases hq : q = 0
    · subst hq
      have j0 := st.c60
      have j1 := st.c61
      have d0 := st.c20
      have d1 := st.c21
      have d2 := st.f2 0
      have d3 := st.f2 1
      have hgs := st.e3
      have ST := Lib.hid (st.later (Below.refl _ _).drew)
      have OL := Lib.hid (ol.later (Below.refl _ _).drew)
      clear st ol
      go_wp2_with fail
      go_region_with (go_at_call 115; refine (l07DrawLevel_any _ _ _ _ _ _ ST.out.src).mono ?_; rintro e wz ⟨y, rfl, hy, hsz, hgz⟩; have stz := ST.out.next hgz hsz; have FI := FIN (y := y) stz (OL.out.lone fl1 hgz hgs) hy; have z0 := stz.c60; have z1 := stz.c61; have c0 := stz.c20; have c1 := stz.c21; have v0 := stz.f2 0; have v1 := stz.f2 1; clear stz)
      all_goals
        go_wp2_with fail
        exact bodyPost_ret (v := .tuple #[.agg #[.slice An k cn, .slice Ap m cp], .slice Al L cl, .int .i64 x, .int .i64 y]) (by simp [results, Try.results58, go_sem, c0, c1]) rfl FI.out
    · have hq' : (q == 0) = false := by simp [hq]
      have hP1 := wrap_id (z := P + 1) ⟨by omega, by omega⟩
      have iP : I64 P := ⟨by omega, by omega⟩
      have iQ : I64 Q := ⟨by omega, by omega⟩
      have iR : I64 (P + 1) := ⟨by omega, by omega⟩
      have j0 := st.c60
      have j1 := st.c61
      have d0 := st.c20
      have d1 := st.c21
      have d2 := st.f2 0
      have d3 := st.f2 1
      have hgs := st.e3
      have ST := Lib.hid (st.later (Below.refl _ _).drew)
      have OL := Lib.hid (ol.later (Below.refl _ _).drew)
      have l3 := World.block_lt_of_cell? _ _ j0
      have l4 := World.block_lt_of_cell? _ _ d0
      simp only at l3 l4
      have hg6 := st.e4
      have hgr := st.gr.size
      clear st ol hq
      go_wp2_with fail
      go_region_with (go_at_call 110; first | (refine (l01Next_any _ _ _ _ _ _ _ (ST.out.src.alloc _)).mono ?_; rintro e wz ⟨y, rfl, y0, y1, _, hsz, hgz⟩; have y1' := y1 (by omega); clear y1; obtain ⟨Y, rfl⟩ := Int.eq_ofNat_of_zero_le y0; have hY : Y < 3 := (by omega); have hYi : (Y : Int) < 3 := (by omega); obtain ⟨z, hz, hzl, hzi⟩ := pick3 (a := P) (b := Q) (d := P + 1) iP iQ iR hY; have stz := (ST.out.later (bel1 _ _)).next hgz hsz; have olz := (OL.out.later (bel1 _ _)).lone fl1 hgz hgs; have bl := (grown_at hgz (b := w5.heap.size) (by simp) (by omega)).trans (heap_alloc_new w5.drew _); have c0 := stz.c20; have c1 := stz.c21; have v0 := stz.f2 0; have v1 := stz.f2 1; have z0 := stz.c60; have z1 := stz.c61; have cc := cell_blk bl Y; rw [hz] at cc; have l1 := World.block_lt_of_cell? _ _ c0; have l2 := World.block_lt_of_cell? _ _ z0; simp only at l1 l2; have FI := FIN (y := z) stz olz hzi; clear stz bl olz) | (refine (l01Next_any _ _ _ _ _ _ _ ST.out.src).mono ?_; rintro e wz ⟨y, rfl, y0, y1, _, hsz, hgz⟩; have y1' := y1 (by omega); clear y1; obtain ⟨Y, rfl⟩ := Int.eq_ofNat_of_zero_le y0; have hY : Y < 3 := (by omega); have hYi : (Y : Int) < 3 := (by omega); obtain ⟨z, hz, hzl, hzi⟩ := pick3 (a := P) (b := Q) (d := P + 1) iP iQ iR hY; have stz := ST.out.next hgz hsz; have olz := OL.out.lone fl1 hgz hgs; have c0 := stz.c20; have c1 := stz.c21; have v0 := stz.f2 0; have v1 := stz.f2 1; have z0 := stz.c60; have z1 := stz.c61; have l1 := World.block_lt_of_cell? _ _ c0; have l2 := World.block_lt_of_cell? _ _ z0; simp only at l1 l2; have FI := FIN (y := z) (stz.later (bel1 _ (.cells #[.int .i64 P, .int .i64 Q, .int .i64 (P + 1)] 2))) (olz.later (bel1 _ _)) hzi; have rx := (Below.heap_alloc ((wz.setCell ⟨w.heap.size, 0, none⟩ (.slice An k cn)).setCell ⟨w.heap.size, 1, none⟩ (.slice Ap m cp)) (.cells #[.int .i64 P, .int .i64 Q, .int .i64 (P + 1)] 2) w.heap.size (by simp [World.setCell]; omega)).trans (heap_set (heap_set stz.xx 0 (.slice An k cn)) 1 (.slice Ap m cp)); have r0 := cell_blk rx 0; have r1 := cell_blk rx 1; simp at r0 r1; clear rx; have FI2 := dfl_alloc (FIN (y := z) stz olz hzi) (.cells #[.int .i64 P, .int .i64 Q, .int .i64 (P + 1)] 2); clear stz olz))
      all_goals
        go_wp2_with fail
        first
          | exact bodyPost_ret (v := .tuple #[.agg #[.slice An k cn, .slice Ap m cp], .slice Al L cl, .int .i64 x, .int .i64 z]) (by simp [results, Try.results58, go_sem, c0, c1]) rfl FI.out
          | exact bodyPost_ret (v := .tuple #[.agg #[.slice An k cn, .slice Ap m cp], .slice Al L cl, .int .i64 x, .int .i64 z]) (by simp [results, Try.results58, go_sem, r0, r1]) rfl FI2.out
  · have hK' : (K != 0) = true := by simp [hK]
    clear hK
    have j0 := st4.c60
    have j1 := st4.c61
    have d0 := st4.c20
    have d1 := st4.c21
    have d2 := st4.f2 0
    have d3 := st4.f2 1
    have hgs := st4.e3
    have ST := Lib.hid (st4.later (Below.refl _ _).drew)
    have OL := Lib.hid (ol4.later (Below.refl _ _).drew)
    clear st4 ol4
    go_wp2_with fail
    go_region_with (go_at_call 115; refine (l07DrawLevel_any _ _ _ _ _ _ ST.out.src).mono ?_; rintro e wz ⟨y, rfl, hy, hsz, hgz⟩; have stz := ST.out.next hgz hsz; have FI := FIN (y := y) stz (OL.out.lone fl1 hgz hgs) hy; have z0 := stz.c60; have z1 := stz.c61; have c0 := stz.c20; have c1 := stz.c21; have v0 := stz.f2 0; have v1 := stz.f2 1; clear stz)
    all_goals
      go_wp2_with fail
      exact bodyPost_ret (v := .tuple #[.agg #[.slice An k cn, .slice Ap m cp], .slice Al L cl, .int .i64 x, .int .i64 y]) (by simp [results, Try.results58, go_sem, c0, c1]) rfl FI.out

end Go.Proofs.Ytahmhmicegjdkaa
