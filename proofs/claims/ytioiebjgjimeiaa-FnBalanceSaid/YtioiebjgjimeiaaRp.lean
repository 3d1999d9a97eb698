/- DrawIsBalanced -/
import Derived.Test.YtioiebjgjimeiaaRn
import Derived.Test.YtioiebjgjimeiaaM4
namespace Go.Proofs.Ytioiebjgjimeiaa
open Go.RowKit

/-- the answer of a draw at the top: a network and two lists -/
def DTop2 (w : World) (e : Ending) (w' : World) : Prop :=
  ∃ An k cn Ap m cp ns ps Al L cl zs Al2 L2 cl2 zs2, e = .returned (.tuple #[.agg #[.slice An k cn, .slice Ap m cp], .slice Al L cl, .slice Al2 L2 cl2]) ∧ NetAt w' An k cn Ap m cp ⟨ns, ps⟩ ∧ Own w' Al L cl zs ∧ Own w' Al2 L2 cl2 zs2 ∧ Fresh w.heap.size Al ∧ Fresh w.heap.size Al2 ∧ k ≤ 7 ∧ m ≤ 12 ∧ Below w.heap.size w w'
theorem rForestFlows_list (net : Net) (zs : List Int) : ∃ F K, rForestFlows net zs = (F, K) := ⟨_, _, rfl⟩

set_option maxRecDepth 100000 in
set_option maxHeartbeats 8000000 in
theorem DrawIsBalanced_any (A : Option Addr) (n c : Nat) (bs : List Int) (w : World) (h : Bytes w A n c bs) :
    Calls Try.prog 21 #[.slice A n c] w (DTop2 w) := by
  go_enter Try.func21, Try.ntmps21
  go_wp2_with fail
  refine (l01From_any _ _ _ _ _ (h.later (bel1 _ _))).mono ?_
  rintro e w1 ⟨rfl, s1, b1⟩
  simp only [World.size_alloc] at s1
  go_wp2_with fail
  refine (l06Draw_any _ _ _ _ _ _ s1).mono ?_
  rintro e w2 ⟨An, k, cn, Ap, m, cp, ns, ps, Al, L, cl, zs, rfl, hd, ho, hf, hk7, hm, hL, hs2, hg2⟩
  have st0 := DT.start s1 b1 hd hs2 hg2
  have ol0 := ho.later (bel1 w2 (.cells #[.slice An k cn, .slice Ap m cp] 27))
  obtain ⟨w3, hw3⟩ : ∃ w3, w3 = w2.alloc (.cells #[.slice An k cn, .slice Ap m cp] 27) := ⟨_, rfl⟩
  rw [← hw3] at st0 ol0
  have HW3 := Lib.hid hw3
  have k0 := st0.c60
  have k1 := st0.c61
  rw [hw3] at k0 k1
  clear hd hs2 hg2 b1 s1 hw3 ho
  go_wp2_with fail
  rw [← HW3.out]
  obtain ⟨F, K, hFK⟩ := rForestFlows_list ⟨ns, ps⟩ zs
  refine (specForestFlows_any _ _ _ _ _ _ ⟨ns, ps⟩ _ _ _ zs _ st0.net ol0.ints).mono ?_
  rintro e w4 hR
  rw [hFK] at hR
  obtain ⟨Ax, cx, rfl, ox, fx, b4⟩ := hR
  simp only at ox
  have fx1 : Fresh w1.heap.size Ax := fun a ha => by have h1 := fx a ha; have h2 := st0.gr.size; omega
  have st4 := st0.later b4
  have ol4 := ol0.later b4
  clear st0 ol0 b4 HW3 k0 k1 fx hFK
  have FIN : ∀ {W : World} {Al1 : Option Addr} {L1 cl1 : Nat} {zs1 : List Int}, DT w w1 (w.heap.size + 1) A n c bs w2.heap.size An k cn Ap m cp ns ps W → Own W Al1 L1 cl1 zs1 → Fresh w1.heap.size Al1 → Own W Al L cl zs → Hid (DTop2 w (.returned (.tuple #[.agg #[.slice An k cn, .slice Ap m cp], .slice Al1 L1 cl1, .slice Al L cl])) ((W.setCell ⟨w.heap.size, 0, none⟩ (.slice An k cn)).setCell ⟨w.heap.size, 1, none⟩ (.slice Ap m cp))) := fun {W Al1 L1 cl1 zs1} h h1 f1 h2 => Lib.hid ⟨_, _, _, _, _, _, _, _, _, _, _, _, _, _, _, _, rfl, h.fin.1, h.fiO h1 f1, h.fiO h2 hf, h.fiF f1, h.fiF hf, hk7, hm, h.fin.2⟩
  by_cases hK : K = 0
  · subst hK
    go_wp2_with (go_at_call 77; refine (l01Next_any _ _ _ _ _ _ _ st4.src).mono ?_; rintro e w5 ⟨q, rfl, q0, q1, _, hs5, hg5⟩; clear q1 q0; have st := st4.next hg5 hs5; have ol := ol4.lone hf hg5 st4.e3; have oy := ox.lone fx1 hg5 st4.e3; clear st4 ol4 ox hs5 hg5; have FI6 := FIN st oy fx1 ol; have j0 := st.c60; have j1 := st.c61; have d0 := st.c20; have d1 := st.c21; have d2 := st.f2 0; have d3 := st.f2 1)
    · clear FI6 oy
      have hgs := st.e3
      have ST := Lib.hid (st.later (Below.refl _ _).drew)
      have OL := Lib.hid (ol.later (Below.refl _ _).drew)
      clear st ol
      go_region_with (go_at_call 78; refine (l05DrawFlows_any _ _ _ _ _ _ _ _ _ _ _ _ ST.out.src hm).mono ?_; rintro e wz ⟨Aq, Lq, cq, zq, rfl, oq, fq, hLq, hsz, hgz⟩; have fq1 : Fresh w1.heap.size Aq := (fun a ha => by have h1 := fq a ha; have h2 := ST.out.gr.size; omega); have stz := ST.out.next hgz hsz; have FI := FIN stz oq fq1 (OL.out.lone hf hgz hgs); have z0 := stz.c60; have z1 := stz.c61; have c0 := stz.c20; have c1 := stz.c21; have v0 := stz.f2 0; have v1 := stz.f2 1; clear stz)
      all_goals
        go_wp2_with fail
        exact bodyPost_ret (v := .tuple #[.agg #[.slice An k cn, .slice Ap m cp], .slice Aq Lq cq, .slice Al L cl]) (by simp [results, Try.results21, go_sem, c0, c1]) rfl FI.out
    · exact bodyPost_ret (v := .tuple #[.agg #[.slice An k cn, .slice Ap m cp], .slice Ax _ cx, .slice Al L cl]) (by simp [results, Try.results21, go_sem, d0, d1]) rfl FI6.out
  · have hK' : (K != 0) = true := by simp [hK]
    have st := st4
    have ol := ol4
    have j0 := st.c60
    have j1 := st.c61
    have d0 := st.c20
    have d1 := st.c21
    have d2 := st.f2 0
    have d3 := st.f2 1
    clear st4 ol4 ox
    go_wp2_with fail
    have hgs := st.e3
    have ST := Lib.hid (st.later (Below.refl _ _).drew)
    have OL := Lib.hid (ol.later (Below.refl _ _).drew)
    clear st ol
    go_region_with (go_at_call 78; refine (l05DrawFlows_any _ _ _ _ _ _ _ _ _ _ _ _ ST.out.src hm).mono ?_; rintro e wz ⟨Aq, Lq, cq, zq, rfl, oq, fq, hLq, hsz, hgz⟩; have fq1 : Fresh w1.heap.size Aq := (fun a ha => by have h1 := fq a ha; have h2 := ST.out.gr.size; omega); have stz := ST.out.next hgz hsz; have FI := FIN stz oq fq1 (OL.out.lone hf hgz hgs); have z0 := stz.c60; have z1 := stz.c61; have c0 := stz.c20; have c1 := stz.c21; have v0 := stz.f2 0; have v1 := stz.f2 1; clear stz)
    all_goals
      go_wp2_with fail
      exact bodyPost_ret (v := .tuple #[.agg #[.slice An k cn, .slice Ap m cp], .slice Aq Lq cq, .slice Al L cl]) (by simp [results, Try.results21, go_sem, c0, c1]) rfl FI.out

end Go.Proofs.Ytioiebjgjimeiaa
