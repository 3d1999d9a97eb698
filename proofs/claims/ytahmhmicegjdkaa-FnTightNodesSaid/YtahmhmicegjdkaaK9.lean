/- draws at the top: networks with flow lists -/
import Derived.Test.YtahmhmicegjdkaaK8
namespace Go.Proofs.Ytahmhmicegjdkaa
open Go.RowKit

/-- the answer of a draw: a network, a list and numbers -/
def DFl (w : World) (vs : Int → Int → Array Value) (e : Ending) (w' : World) : Prop :=
  ∃ An k cn Ap m cp ns ps Al L cl zs x y, e = .returned (.tuple (#[.agg #[.slice An k cn, .slice Ap m cp], .slice Al L cl] ++ vs x y)) ∧ NetAt w' An k cn Ap m cp ⟨ns, ps⟩ ∧ Ints w' Al L cl zs ∧ k ≤ 7 ∧ m ≤ 12 ∧ L ≤ 13 ∧ I64 x ∧ I64 y ∧ Below w.heap.size w w'
/-- a draw at the top with a list: the end -/
theorem DT.finL {w0 w1 W : World} {g : Nat} {A : Option Addr} {n c : Nat} {bs : List Int} {b6 : Nat} {An : Option Addr} {k cn : Nat} {Ap : Option Addr} {m cp : Nat} {ns : List Node} {ps : List Pipe} {Al : Option Addr} {L cl : Nat} {zs : List Int} (h : DT w0 w1 g A n c bs b6 An k cn Ap m cp ns ps W) (ho : Own W Al L cl zs) (hf : Fresh w1.heap.size Al) :
    Ints ((W.setCell ⟨w0.heap.size, 0, none⟩ (.slice An k cn)).setCell ⟨w0.heap.size, 1, none⟩ (.slice Ap m cp)) Al L cl zs := by
  have h2 := h.e2; have h3 := h.e3
  exact ((ho.far (fun a ha => by have := hf a ha; show a.block ≠ w0.heap.size; omega) _).far (fun a ha => by have := hf a ha; show a.block ≠ w0.heap.size; omega) _).ints

set_option maxRecDepth 100000 in
set_option maxHeartbeats 8000000 in
theorem DrawRootRange_any (A : Option Addr) (n c : Nat) (bs : List Int) (w : World) (h : Bytes w A n c bs) :
    Calls Try.prog 43 #[.slice A n c] w (DFl w fun x _ => #[.int .i64 x]) := by
  go_enter Try.func43, Try.ntmps43
  go_wp2_with fail
  refine (l01From_any _ _ _ _ _ (h.later (bel1 _ _))).mono ?_
  rintro e w1 ⟨rfl, s1, b1⟩
  simp only [World.size_alloc] at s1
  go_wp2_with fail
  refine (l05DrawChord_any _ _ _ _ _ _ s1).mono ?_
  rintro e w2 ⟨An, k, cn, Ap, m, cp, ns, ps, xc, rfl, hd, hk7, hm, _, hs2, hg2⟩
  have st0 := DT.start s1 b1 hd hs2 hg2
  obtain ⟨w3, hw3⟩ : ∃ w3, w3 = w2.alloc (.cells #[.slice An k cn, .slice Ap m cp] 32) := ⟨_, rfl⟩
  rw [← hw3] at st0
  have HW3 := Lib.hid hw3
  have k0 := st0.c60
  have k1 := st0.c61
  rw [hw3] at k0 k1
  clear hd hs2 hg2 b1 s1 hw3
  go_wp2_with fail
  rw [← HW3.out]
  refine (l05DrawFlows_any _ _ _ _ _ _ _ _ _ _ _ _ st0.src hm).mono ?_
  rintro e w5 ⟨Al, L, cl, zs, rfl, ol, fl, hL, hs5, hg5⟩
  have st := st0.next hg5 hs5
  have fl1 : Fresh w1.heap.size Al := fun a ha => by have h1 := fl a ha; have h2 := st0.gr.size; omega
  clear st0 hs5 hg5 HW3 k0 k1 fl
  have j0 := st.c60
  have j1 := st.c61
  have d0 := st.c20
  have d1 := st.c21
  have d2 := st.f2 0
  have d3 := st.f2 1
  have hgs := st.e3
  have ST := Lib.hid (st.later (Below.refl _ _).drew)
  have OL := Lib.hid (ol.later (Below.refl _ _).drew)
  have FIN : ∀ {W : World} {x : Int}, DT w w1 (w.heap.size + 1) A n c bs w2.heap.size An k cn Ap m cp ns ps W → Own W Al L cl zs → I64 x → Hid (DFl w (fun x _ => #[.int .i64 x]) (.returned (.tuple #[.agg #[.slice An k cn, .slice Ap m cp], .slice Al L cl, .int .i64 x])) ((W.setCell ⟨w.heap.size, 0, none⟩ (.slice An k cn)).setCell ⟨w.heap.size, 1, none⟩ (.slice Ap m cp))) := fun {W x} h ho hy => Lib.hid ⟨An, k, cn, Ap, m, cp, ns, ps, Al, L, cl, zs, x, 0, rfl, h.fin.1, h.finL ho fl1, hk7, hm, hL, hy, ⟨by decide, by decide⟩, h.fin.2⟩
  clear st ol
  go_wp2_with fail
  go_region_with (go_at_call 88; refine (l02DrawIndex_any _ _ _ _ _ k _ ST.out.src (by omega)).mono ?_; rintro e wz ⟨y, rfl, hy, hsz, hgz⟩; have stz := ST.out.next hgz hsz; have FI := FIN (x := y) stz (OL.out.lone fl1 hgz hgs) hy; have z0 := stz.c60; have z1 := stz.c61; have c0 := stz.c20; have c1 := stz.c21; have v0 := stz.f2 0; have v1 := stz.f2 1; clear stz)
  all_goals
    go_wp2_with fail
    exact bodyPost_ret (v := .tuple #[.agg #[.slice An k cn, .slice Ap m cp], .slice Al L cl, .int .i64 y]) (by simp [results, Try.results43, go_sem, c0, c1]) rfl FI.out

set_option maxHeartbeats 2000000 in
theorem l07DrawLevel_any (g : Nat) (A : Option Addr) (n c : Nat) (bs : List Int) (w : World) (h : Src w g A n c bs) :
    Calls Try.prog 115 #[.pointer (some ⟨g, 0, none⟩)] w fun e w' => ∃ r : Int, e = .returned (.int .i64 r) ∧ I64 r ∧ Src w' g A n c bs ∧ w.grownBy w' (some g) := by
  have hlt := h.lt
  go_enter Try.func115, Try.ntmps115
  go_wp2_with fail
  refine (l01Next_any _ _ _ _ _ _ _ h).mono ?_
  rintro e w1 ⟨q, rfl, q0, q1, _, s1, g1⟩
  clear q1 q0
  have hs := g1.size
  by_cases hq : q = 0
  · subst hq
    go_wp2_with fail
    refine (l01Next_any _ _ _ _ _ _ _ (s1.alloc _)).mono ?_
    rintro e w2 ⟨x, rfl, x0, x1, _, s2, g2⟩
    have x1' := x1 (by omega)
    clear x1
    obtain ⟨X, rfl⟩ := Int.eq_ofNat_of_zero_le x0
    obtain ⟨z, hz, hzl, hzi⟩ := pick3 (a := 500000000000000000) (b := 500000000000000001) (d := -500000000000000000) ⟨by decide, by decide⟩ ⟨by decide, by decide⟩ ⟨by decide, by decide⟩ (Y := X) (by omega)
    have bl := (grown_at g2 (b := w1.heap.size) (by simp) (by omega)).trans (heap_alloc_new w1 _)
    have cc := cell_blk bl X
    rw [hz] at cc
    have gr := only_trans (only_alloc g1 _) g2
    clear bl hz hzl g1 g2
    go_wp2_with fail
    go_ret
    exact ⟨z, rfl, hzi, s2, gr⟩
  · have hq' : (q == 0) = false := by simp [hq]
    clear hq
    go_wp2_with fail
    refine (l01Next_any _ _ _ _ _ _ _ s1).mono ?_
    rintro e w2 ⟨x, rfl, x0, x1, _, s2, g2⟩
    have x1' := x1 (by omega)
    clear x1
    go_wp2_with fail
    go_ret
    exact ⟨x, rfl, ⟨by omega, by omega⟩, s2, only_trans g1 g2⟩

end Go.Proofs.Ytahmhmicegjdkaa
