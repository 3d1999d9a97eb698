/- draws: DrawIsRelaxed -/
import Derived.Test.YtllblmndoigdlaaGreatDe
import Derived.Test.YtllblmndoigdlaaGreatDa
import Derived.Test.YtllblmndoigdlaaGreatRj
namespace Go.Proofs.YtllblmndoigdlaaGreat
open Go.RowKit

set_option maxRecDepth 100000 in
set_option maxHeartbeats 8000000 in
theorem DrawIsRelaxed_any (A : Option Addr) (n c : Nat) (bs : List Int) (w : World) (h : Bytes w A n c bs) :
    Calls Tryz.prog 5 #[.slice A n c] w (DG w fun _ _ => #[]) := by
  go_enter Tryz.func5, Tryz.ntmps5
  go_wp2_with fail
  refine (l01From_any _ _ _ _ _ (h.later (bel1 _ _))).mono ?_
  rintro e w1 ⟨rfl, s1, b1⟩
  simp only [World.size_alloc] at s1
  go_wp2_with fail
  refine (l10Draw_any _ _ _ _ _ _ s1).mono ?_
  rintro e w2 ⟨An, k, cn, Ap, m, cp, ns, ps, Al, L, cl, zs, xc, rfl, hd, ol, fl, hk7, hm, hL, hxc, hs2, hg2⟩
  have st0 := DT.start s1 b1 hd hs2 hg2
  have ol0 := ol.later (bel1 w2 (.cells #[.slice An k cn, .slice Ap m cp] 27))
  obtain ⟨w3, hw3⟩ : ∃ w3, w3 = w2.alloc (.cells #[.slice An k cn, .slice Ap m cp] 27) := ⟨_, rfl⟩
  rw [← hw3] at st0 ol0
  have HW3 := Lib.hid hw3
  have k0 := st0.c60
  have k1 := st0.c61
  rw [hw3] at k0 k1
  clear hd hs2 hg2 b1 s1 hw3 ol
  go_wp2_with fail
  rw [← HW3.out]
  clear HW3 k0 k1
  have j0 := st0.c60
  have j1 := st0.c61
  by_cases hK : codeF ⟨ns, ps⟩ zs = 0
  · refine (l05Code_is _ _ _ _ _ _ _ _ _ ⟨ns, ps⟩ zs _ _ st0.net ol0.ints hK).mono ?_
    rintro e w4 ⟨rfl, b4⟩
    have st4 := st0.later b4
    have ol4 := ol0.later b4
    clear st0 ol0 b4 j0 j1
    go_wp2_with fail
    refine (l01Next_any _ _ _ _ _ _ _ st4.src).mono ?_
    rintro e w5 ⟨q, rfl, q0, q1, _, hs5, hg5⟩
    clear q1
    have ol5 := ol4.lone fl hg5 st4.e3
    have st5 := st4.next hg5 hs5
    clear st4 ol4 hs5 hg5
    by_cases hq : q = 0
    · subst hq
      clear hK q0
      have j0 := st5.c60
      have j1 := st5.c61
      have d0 := st5.c20
      have d1 := st5.c21
      have d2 := st5.f2 0
      have d3 := st5.f2 1
      have FIN : ∀ {W : World} {Al : Option Addr} {L cl : Nat} {zs : List Int}, DT w w1 (w.heap.size + 1) A n c bs w2.heap.size An k cn Ap m cp ns ps W → Own W Al L cl zs → Fresh w1.heap.size Al → L ≤ 20 → Hid (DG w (fun _ _ => #[]) (.returned (.tuple #[.agg #[.slice An k cn, .slice Ap m cp], .slice Al L cl])) ((W.setCell ⟨w.heap.size, 0, none⟩ (.slice An k cn)).setCell ⟨w.heap.size, 1, none⟩ (.slice Ap m cp))) := fun {W Al L cl zs} h ho hf hL  => Lib.hid ⟨An, k, cn, Ap, m, cp, ns, ps, Al, L, cl, zs, 0, 0, rfl, h.fnD, h.fiO ho hf, h.fiF hf, hk7, hm, hL, ⟨by decide, by decide⟩, ⟨by decide, by decide⟩, h.fin.2⟩
      have FI := FIN st5 ol5 fl (by omega)
      clear FIN st5 ol5
      go_wp2_with fail
      exact bodyPost_ret (v := .tuple #[.agg #[.slice An k cn, .slice Ap m cp], .slice Al L cl]) (by simp [results, Tryz.results5, go_sem, d0, d1]) rfl FI.out
    · have hq' : (q == 0) = false := by simp [hq]
      clear hq
      have j0 := st5.c60
      have j1 := st5.c61
      go_wp2_with fail
      refine (l11Relax_any _ _ _ _ _ _ ⟨ns, ps⟩ _ _ _ zs 64 _ st5.net ol5.ints (codeF_zero hK).1 (codeF_zero hK).2 (by omega)).mono ?_
      rintro e w6 ⟨Ax, cx, rfl, ox, fx, b6⟩
      have hw5 := st5.gr.size
      have fx1 : Fresh w1.heap.size Ax := fun a ha => by have := fx a ha; omega
      have st6 := st5.later b6
      generalize (rlx ⟨ns, ps⟩ (basL ⟨ns, ps⟩) 64 (zs, 0)).2 = T at *
      clear st5 ol5 fx b6 j0 j1 hK
      have j0 := st6.c60
      have j1 := st6.c61
      have d0 := st6.c20
      have d1 := st6.c21
      have d2 := st6.f2 0
      have d3 := st6.f2 1
      have FIN : ∀ {W : World} {Al : Option Addr} {L cl : Nat} {zs : List Int}, DT w w1 (w.heap.size + 1) A n c bs w2.heap.size An k cn Ap m cp ns ps W → Own W Al L cl zs → Fresh w1.heap.size Al → L ≤ 20 → Hid (DG w (fun _ _ => #[]) (.returned (.tuple #[.agg #[.slice An k cn, .slice Ap m cp], .slice Al L cl])) ((W.setCell ⟨w.heap.size, 0, none⟩ (.slice An k cn)).setCell ⟨w.heap.size, 1, none⟩ (.slice Ap m cp))) := fun {W Al L cl zs} h ho hf hL  => Lib.hid ⟨An, k, cn, Ap, m, cp, ns, ps, Al, L, cl, zs, 0, 0, rfl, h.fnD, h.fiO ho hf, h.fiF hf, hk7, hm, hL, ⟨by decide, by decide⟩, ⟨by decide, by decide⟩, h.fin.2⟩
      have FI := FIN st6 ox fx1 (by omega)
      clear FIN st6 ox
      go_wp2_with fail
      exact bodyPost_ret (v := .tuple #[.agg #[.slice An k cn, .slice Ap m cp], .slice Ax L cx]) (by simp [results, Tryz.results5, go_sem, d0, d1]) rfl FI.out
  · obtain ⟨K, hC⟩ : ∃ K, codeF ⟨ns, ps⟩ zs = K := ⟨_, rfl⟩
    rw [hC] at hK
    refine (l05Code_is _ _ _ _ _ _ _ _ _ ⟨ns, ps⟩ zs _ _ st0.net ol0.ints hC).mono ?_
    rintro e w4 ⟨rfl, b4⟩
    have st4 := st0.later b4
    have ol4 := ol0.later b4
    have hK' : (K != 0) = true := by simp [hK]
    clear st0 ol0 b4 hC hK j0 j1
    have j0 := st4.c60
    have j1 := st4.c61
    have d0 := st4.c20
    have d1 := st4.c21
    have d2 := st4.f2 0
    have d3 := st4.f2 1
    have FIN : ∀ {W : World} {Al : Option Addr} {L cl : Nat} {zs : List Int}, DT w w1 (w.heap.size + 1) A n c bs w2.heap.size An k cn Ap m cp ns ps W → Own W Al L cl zs → Fresh w1.heap.size Al → L ≤ 20 → Hid (DG w (fun _ _ => #[]) (.returned (.tuple #[.agg #[.slice An k cn, .slice Ap m cp], .slice Al L cl])) ((W.setCell ⟨w.heap.size, 0, none⟩ (.slice An k cn)).setCell ⟨w.heap.size, 1, none⟩ (.slice Ap m cp))) := fun {W Al L cl zs} h ho hf hL  => Lib.hid ⟨An, k, cn, Ap, m, cp, ns, ps, Al, L, cl, zs, 0, 0, rfl, h.fnD, h.fiO ho hf, h.fiF hf, hk7, hm, hL, ⟨by decide, by decide⟩, ⟨by decide, by decide⟩, h.fin.2⟩
    have FI := FIN st4 ol4 fl (by omega)
    clear FIN st4 ol4
    go_wp2_with fail
    exact bodyPost_ret (v := .tuple #[.agg #[.slice An k cn, .slice Ap m cp], .slice Al L cl]) (by simp [results, Tryz.results5, go_sem, d0, d1]) rfl FI.out

end Go.Proofs.YtllblmndoigdlaaGreat
