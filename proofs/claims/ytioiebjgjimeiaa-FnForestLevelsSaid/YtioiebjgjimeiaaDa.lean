/- draws: DrawLowestNode, DrawBlockingPair -/
import Derived.Test.YtioiebjgjimeiaaRn
import Derived.Test.YtioiebjgjimeiaaK9
namespace Go.Proofs.Ytioiebjgjimeiaa
open Go.RowKit

/-- the answer of a draw: a network, a list in a row of its own, and numbers -/
def DG (w : World) (vs : Int → Int → Array Value) (e : Ending) (w' : World) : Prop :=
  ∃ An k cn Ap m cp ns ps Al L cl zs x y, e = .returned (.tuple (#[.agg #[.slice An k cn, .slice Ap m cp], .slice Al L cl] ++ vs x y)) ∧ DN w.heap.size w' An k cn Ap m cp ns ps ∧ Own w' Al L cl zs ∧ Fresh w.heap.size Al ∧ k ≤ 7 ∧ m ≤ 12 ∧ L ≤ 20 ∧ I64 x ∧ I64 y ∧ Below w.heap.size w w'

theorem DN.out {w : World} {b0 b : Nat} {An : Option Addr} {k cn : Nat} {Ap : Option Addr} {m cp : Nat} {ns : List Node} {ps : List Pipe} (h : DN b0 w An k cn Ap m cp ns ps) (hb : b < b0) (u v : Value) : DN b ((w.setCell ⟨b, 0, none⟩ u).setCell ⟨b, 1, none⟩ v) An k cn Ap m cp ns ps := by
  have g2 : ∀ a, An = some a → a.block ≠ b := fun a ha => by have := h.fn a ha; omega
  have g3 : ∀ a, Ap = some a → a.block ≠ b := fun a ha => by have := h.fp a ha; omega
  exact ⟨(h.on.keepOther g2 _).keepOther g2 _, (h.op.keepOther g3 _).keepOther g3 _, fun a ha => by have := h.fn a ha; omega, fun a ha => by have := h.fp a ha; omega, h.ne, h.np⟩
theorem DT.fnD {w0 w1 W : World} {g : Nat} {A : Option Addr} {n c : Nat} {bs : List Int} {b6 : Nat} {An : Option Addr} {k cn : Nat} {Ap : Option Addr} {m cp : Nat} {ns : List Node} {ps : List Pipe} (h : DT w0 w1 g A n c bs b6 An k cn Ap m cp ns ps W) : DN w0.heap.size ((W.setCell ⟨w0.heap.size, 0, none⟩ (.slice An k cn)).setCell ⟨w0.heap.size, 1, none⟩ (.slice Ap m cp)) An k cn Ap m cp ns ps :=
  h.dn.out (by have := h.e2; have := h.e3; omega) _ _
/-- a draw that hands on another draw's network and list: the result's box lies below all that the other draw made -/
structure DGS (w w1 : World) (An : Option Addr) (k cn : Nat) (Ap : Option Addr) (m cp : Nat) (ns : List Node) (ps : List Pipe) (Al : Option Addr) (L cl : Nat) (zs : List Int) : Prop where
  c0 : w1.cell? ⟨w.heap.size, 0, none⟩ = some (.slice none 0 0)
  c1 : w1.cell? ⟨w.heap.size, 1, none⟩ = some (.slice none 0 0)
  f0 : ∀ i, w1.frozen? ⟨w.heap.size, i, none⟩ = false
  dn : DN w.heap.size ((w1.setCell ⟨w.heap.size, 0, none⟩ (.slice An k cn)).setCell ⟨w.heap.size, 1, none⟩ (.slice Ap m cp)) An k cn Ap m cp ns ps
  own : Own ((w1.setCell ⟨w.heap.size, 0, none⟩ (.slice An k cn)).setCell ⟨w.heap.size, 1, none⟩ (.slice Ap m cp)) Al L cl zs
  fr : Fresh w.heap.size Al
  bel : Below w.heap.size w ((w1.setCell ⟨w.heap.size, 0, none⟩ (.slice An k cn)).setCell ⟨w.heap.size, 1, none⟩ (.slice Ap m cp))
theorem DGS.mk' {w w1 : World} {An : Option Addr} {k cn : Nat} {Ap : Option Addr} {m cp : Nat} {ns : List Node} {ps : List Pipe} {Al : Option Addr} {L cl : Nat} {zs : List Int} (hn : DN (w.alloc (.cells #[.slice none 0 0, .slice none 0 0] 27)).heap.size w1 An k cn Ap m cp ns ps) (ho : Own w1 Al L cl zs) (hf : Fresh (w.alloc (.cells #[.slice none 0 0, .slice none 0 0] 27)).heap.size Al)
    (b1 : Below (w.alloc (.cells #[.slice none 0 0, .slice none 0 0] 27)).heap.size (w.alloc (.cells #[.slice none 0 0, .slice none 0 0] 27)) w1) : DGS w w1 An k cn Ap m cp ns ps Al L cl zs := by
  have hx : w1.heap[w.heap.size]? = some (.cells #[.slice none 0 0, .slice none 0 0] 27 (0, 0)) := (b1.block _ (by simp)).trans (heap_alloc_new _ _)
  have hs : (w.alloc (.cells #[.slice none 0 0, .slice none 0 0] 27)).heap.size = w.heap.size + 1 := World.size_alloc _ _
  have g1 : ∀ a, Al = some a → a.block ≠ w.heap.size := fun a ha => by have := hf a ha; omega
  exact ⟨by rw [cell_blk hx]; rfl, by rw [cell_blk hx]; rfl, fun i => frozen_blk hx i, hn.out (by omega) _ _, (ho.far g1 _).far g1 _, fun a ha => by have := hf a ha; omega, ((below_step (bel1 w _) b1).setCell (p := ⟨w.heap.size, 0, none⟩) (Nat.le_refl _) _).setCell (p := ⟨w.heap.size, 1, none⟩) (Nat.le_refl _) _⟩

theorem dg_alloc {w w' : World} {vs : Int → Int → Array Value} {e : Ending} (h : Hid (DG w vs e w')) (o : Obj) : Hid (DG w vs e (w'.alloc o)) := by
  obtain ⟨An, k, cn, Ap, m, cp, ns, ps, Al, L, cl, zs, x, y, he, hn, hz, hf, h1, h2, h3, h4, h5, hb⟩ := h.out
  exact Lib.hid ⟨An, k, cn, Ap, m, cp, ns, ps, Al, L, cl, zs, x, y, he, hn.later (bel1 _ _), hz.later (bel1 _ _), hf, h1, h2, h3, h4, h5, below_step hb (bel1 _ _)⟩

set_option maxRecDepth 100000 in
set_option maxHeartbeats 8000000 in
theorem DrawLowestNode_any (A : Option Addr) (n c : Nat) (bs : List Int) (w : World) (h : Bytes w A n c bs) :
    Calls Try.prog 94 #[.slice A n c] w (DG w fun _ _ => #[]) := by
  go_enter Try.func94, Try.ntmps94
  go_wp2_with fail
  refine (l01From_any _ _ _ _ _ (h.later (bel1 _ _))).mono ?_
  rintro e w1 ⟨rfl, s1, b1⟩
  simp only [World.size_alloc] at s1
  go_wp2_with fail
  refine (l05DrawChord_any _ _ _ _ _ _ s1).mono ?_
  rintro e w2 ⟨An, k, cn, Ap, m, cp, ns, ps, xc, rfl, hd, hk7, hm, hxc, hs2, hg2⟩
  have st0 := DT.start s1 b1 hd hs2 hg2
  obtain ⟨w3, hw3⟩ : ∃ w3, w3 = w2.alloc (.cells #[.slice An k cn, .slice Ap m cp] 27) := ⟨_, rfl⟩
  rw [← hw3] at st0
  have HW3 := Lib.hid hw3
  have k0 := st0.c60
  have k1 := st0.c61
  rw [hw3] at k0 k1
  clear hd hs2 hg2 b1 s1 hw3
  go_wp2_with fail
  rw [← HW3.out]
  have j0 := st0.c60
  have j1 := st0.c61
  have d0 := st0.c20
  have d1 := st0.c21
  have d2 := st0.f2 0
  have d3 := st0.f2 1
  have hgs := st0.e3
  have ST := Lib.hid (st0.later (Below.refl _ _).drew)
  have FIN : ∀ {W : World} {Al : Option Addr} {L cl : Nat} {zs : List Int}, DT w w1 (w.heap.size + 1) A n c bs w2.heap.size An k cn Ap m cp ns ps W → Own W Al L cl zs → Fresh w1.heap.size Al → L ≤ 20 → Hid (DG w (fun _ _ => #[]) (.returned (.tuple #[.agg #[.slice An k cn, .slice Ap m cp], .slice Al L cl])) ((W.setCell ⟨w.heap.size, 0, none⟩ (.slice An k cn)).setCell ⟨w.heap.size, 1, none⟩ (.slice Ap m cp))) := fun {W Al L cl zs} h ho hf hL  => Lib.hid ⟨An, k, cn, Ap, m, cp, ns, ps, Al, L, cl, zs, 0, 0, rfl, h.fnD, h.fiO ho hf, h.fiF hf, hk7, hm, hL, ⟨by decide, by decide⟩, ⟨by decide, by decide⟩, h.fin.2⟩
  clear st0 HW3 k0 k1
  go_region_with (go_at_call 78; refine (l05DrawFlows_any _ _ _ _ _ _ _ _ _ _ _ _ ST.out.src hm).mono ?_; rintro e wz ⟨Al, L, cl, zs, rfl, oq, fq, hLq, hsz, hgz⟩; have fq1 : Fresh w1.heap.size Al := (fun a ha => by have h1 := fq a ha; have h2 := ST.out.gr.size; omega); have stz := ST.out.next hgz hsz; have FI := FIN stz oq fq1 (by omega); have z0 := stz.c60; have z1 := stz.c61; have c0 := stz.c20; have c1 := stz.c21; have v0 := stz.f2 0; have v1 := stz.f2 1; clear stz)
  all_goals
    go_wp2_with fail
    exact bodyPost_ret (v := .tuple #[.agg #[.slice An k cn, .slice Ap m cp], .slice Al L cl]) (by simp [results, Try.results94, go_sem, c0, c1]) rfl FI.out

set_option maxRecDepth 100000 in
set_option maxHeartbeats 4000000 in
theorem DrawBlockingPair_any (A : Option Addr) (n c : Nat) (bs : List Int) (w : World) (h : Bytes w A n c bs) :
    Calls Try.prog 31 #[.slice A n c] w (DG w fun _ _ => #[]) := by
  go_enter Try.func31, Try.ntmps31
  go_wp2_with fail
  refine (DrawLowestNode_any _ _ _ _ _ (h.later (bel1 _ _))).mono ?_
  rintro e w1 ⟨An, k, cn, Ap, m, cp, ns, ps, Al, L, cl, zs, x, y, rfl, hn, ho, hf, hk7, hm, hL, hx, hy, b1⟩
  have HS := DGS.mk' hn ho hf b1
  have d0 := HS.c0
  have d1 := HS.c1
  have d2 := HS.f0 0
  have d3 := HS.f0 1
  have FI : Hid (DG w (fun _ _ => #[]) (.returned (.tuple #[.agg #[.slice An k cn, .slice Ap m cp], .slice Al L cl])) ((w1.setCell ⟨w.heap.size, 0, none⟩ (.slice An k cn)).setCell ⟨w.heap.size, 1, none⟩ (.slice Ap m cp))) := Lib.hid ⟨An, k, cn, Ap, m, cp, ns, ps, Al, L, cl, zs, 0, 0, rfl, HS.dn, HS.own, HS.fr, hk7, hm, hL, ⟨by decide, by decide⟩, ⟨by decide, by decide⟩, HS.bel⟩
  clear hn ho hf b1 HS
  go_wp2_with fail
  exact bodyPost_ret (v := .tuple #[.agg #[.slice An k cn, .slice Ap m cp], .slice Al L cl]) (by simp [results, Try.results31, go_sem, d0, d1]) rfl FI.out

end Go.Proofs.Ytioiebjgjimeiaa
