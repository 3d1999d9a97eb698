/- draws at the top: networks with numbers -/
import Derived.Test.YtndieicmjdkojaaK7
import Derived.Test.YtndieicmjdkojaaJ4
namespace Go.Proofs.Ytndieicmjdkojaa
open Go.RowKit

set_option maxHeartbeats 400000 in
theorem big_any (A : Option Addr) (n c : Nat) (w : World) :
    Calls Try.prog 14 #[.slice A n c] w fun e w' => e = .returned (.bool (decide (4096 < n))) ∧ w = w' := by
  by_cases h : 4096 < n
  · go_enter Try.func14, Try.ntmps14
    go_wp2_with fail
    go_ret
    exact ⟨ret_bool (by simp [h]; omega), rfl⟩
  · go_enter Try.func14, Try.ntmps14
    go_wp2_with fail
    go_ret
    exact ⟨ret_bool (by simp [h]; omega), rfl⟩

/-- what lies in a draw at the top -/
structure DT (w0 w1 : World) (g : Nat) (A : Option Addr) (n c : Nat) (bs : List Int) (b6 : Nat) (An : Option Addr) (k cn : Nat) (Ap : Option Addr) (m cp : Nat) (ns : List Node) (ps : List Pipe) (W : World) : Prop where
  dn : DN w1.heap.size W An k cn Ap m cp ns ps
  xb : W.heap[b6]? = some (.cells #[.slice An k cn, .slice Ap m cp] 27 (0, 0))
  src : Src W g A n c bs
  gr : w1.grownBy W (some g)
  x2 : w1.heap[w0.heap.size]? = some (.cells #[.slice none 0 0, .slice none 0 0] 27 (0, 0))
  bel : Below w0.heap.size w0 w1
  e2 : w0.heap.size < g
  e3 : g < w1.heap.size
  e4 : w1.heap.size ≤ b6

section
variable {w0 w1 W W' : World} {g : Nat} {A : Option Addr} {n c : Nat} {bs : List Int} {b6 : Nat} {An : Option Addr} {k cn : Nat} {Ap : Option Addr} {m cp : Nat} {ns : List Node} {ps : List Pipe}
theorem DT.next (h : DT w0 w1 g A n c bs b6 An k cn Ap m cp ns ps W) (hg : W.grownBy W' (some g)) (hs : Src W' g A n c bs) : DT w0 w1 g A n c bs b6 An k cn Ap m cp ns ps W' := by
  have h3 := h.e3; have h4 := h.e4
  exact ⟨h.dn.lone hg h.e3, (grown_at hg (Array.getElem?_eq_some_iff.1 h.xb).1 (by omega)).trans h.xb, hs, only_trans h.gr hg, h.x2, h.bel, h.e2, h.e3, h.e4⟩
theorem DT.later (h : DT w0 w1 g A n c bs b6 An k cn Ap m cp ns ps W) (hb : Below W.heap.size W W') : DT w0 w1 g A n c bs b6 An k cn Ap m cp ns ps W' := h.next (only_below hb) (h.src.keep hb)
theorem DT.c60 (h : DT w0 w1 g A n c bs b6 An k cn Ap m cp ns ps W) : W.cell? ⟨b6, 0, none⟩ = some (.slice An k cn) := by rw [cell_blk h.xb]; rfl
theorem DT.c61 (h : DT w0 w1 g A n c bs b6 An k cn Ap m cp ns ps W) : W.cell? ⟨b6, 1, none⟩ = some (.slice Ap m cp) := by rw [cell_blk h.xb]; rfl
theorem DT.xx (h : DT w0 w1 g A n c bs b6 An k cn Ap m cp ns ps W) : W.heap[w0.heap.size]? = some (.cells #[.slice none 0 0, .slice none 0 0] 27 (0, 0)) := (grown_at h.gr (Array.getElem?_eq_some_iff.1 h.x2).1 (by have := h.e2; omega)).trans h.x2
theorem DT.c20 (h : DT w0 w1 g A n c bs b6 An k cn Ap m cp ns ps W) : W.cell? ⟨w0.heap.size, 0, none⟩ = some (.slice none 0 0) := by rw [cell_blk h.xx]; rfl
theorem DT.c21 (h : DT w0 w1 g A n c bs b6 An k cn Ap m cp ns ps W) : W.cell? ⟨w0.heap.size, 1, none⟩ = some (.slice none 0 0) := by rw [cell_blk h.xx]; rfl
theorem DT.f2 (h : DT w0 w1 g A n c bs b6 An k cn Ap m cp ns ps W) (i : Nat) : W.frozen? ⟨w0.heap.size, i, none⟩ = false := frozen_blk h.xx i
theorem DT.net (h : DT w0 w1 g A n c bs b6 An k cn Ap m cp ns ps W) : NetAt W An k cn Ap m cp ⟨ns, ps⟩ := h.dn.net
theorem DT.belW (h : DT w0 w1 g A n c bs b6 An k cn Ap m cp ns ps W) : Below w0.heap.size w0 W := h.bel.trans (below_only h.gr (by have := h.e2; have := h.e3; omega) (by have := h.e2; omega))
/-- the network is stored into the result -/
theorem DT.fin (h : DT w0 w1 g A n c bs b6 An k cn Ap m cp ns ps W) : NetAt ((W.setCell ⟨w0.heap.size, 0, none⟩ (.slice An k cn)).setCell ⟨w0.heap.size, 1, none⟩ (.slice Ap m cp)) An k cn Ap m cp ⟨ns, ps⟩ ∧ Below w0.heap.size w0 ((W.setCell ⟨w0.heap.size, 0, none⟩ (.slice An k cn)).setCell ⟨w0.heap.size, 1, none⟩ (.slice Ap m cp)) := by
  have h2 := h.e2; have h3 := h.e3
  refine ⟨⟨?_, ?_⟩, (h.belW.setCell (Nat.le_refl _) _).setCell (Nat.le_refl _) _⟩
  · exact ((h.dn.on.keepOther (fun a ha => by have := h.dn.fn a ha; show a.block ≠ w0.heap.size; omega) _).keepOther (fun a ha => by have := h.dn.fn a ha; show a.block ≠ w0.heap.size; omega) _).nodes
  · exact ((h.dn.op.keepOther (fun a ha => by have := h.dn.fp a ha; show a.block ≠ w0.heap.size; omega) _).keepOther (fun a ha => by have := h.dn.fp a ha; show a.block ≠ w0.heap.size; omega) _).pipes
/-- at the start -/
theorem DT.start {w2 : World} (hs1 : Src w1 (w0.heap.size + 1) A n c bs) (hb1 : Below (w0.alloc (.cells #[.slice none 0 0, .slice none 0 0] 27)).heap.size (w0.alloc (.cells #[.slice none 0 0, .slice none 0 0] 27)) w1) (hd : DN w1.heap.size w2 An k cn Ap m cp ns ps) (hs2 : Src w2 (w0.heap.size + 1) A n c bs) (hg2 : w1.grownBy w2 (some (w0.heap.size + 1))) :
    DT w0 w1 (w0.heap.size + 1) A n c bs w2.heap.size An k cn Ap m cp ns ps (w2.alloc (.cells #[.slice An k cn, .slice Ap m cp] 27)) :=
  ⟨hd.alloc _, heap_alloc_new _ _, hs2.alloc _, only_alloc hg2 _, (hb1.block _ (by simp)).trans (heap_alloc_new _ _), below_step (bel1 _ _) hb1, by omega, hs1.lt, hg2.size⟩

end

theorem pick3 {a b d : Int} (ha : I64 a) (hb : I64 b) (hd : I64 d) {Y : Nat} (h : Y < 3) : ∃ z, (#[Value.int .i64 a, .int .i64 b, .int .i64 d] : Array Value)[Y]? = some (.int .i64 z) ∧ (∀ hh, ([Value.int .i64 a, .int .i64 b, .int .i64 d] : List Value)[Y]'hh = .int .i64 z) ∧ I64 z := by
  have hY : Y = 0 ∨ Y = 1 ∨ Y = 2 := by omega
  rcases hY with rfl | rfl | rfl
  · exact ⟨a, rfl, fun _ => rfl, ha⟩
  · exact ⟨b, rfl, fun _ => rfl, hb⟩
  · exact ⟨d, rfl, fun _ => rfl, hd⟩

/-- the answer of a draw: a network and numbers -/
def DNum (w : World) (vs : Int → Int → Array Value) (e : Ending) (w' : World) : Prop :=
  ∃ An k cn Ap m cp ns ps x y, e = .returned (.tuple (#[.agg #[.slice An k cn, .slice Ap m cp]] ++ vs x y)) ∧ NetAt w' An k cn Ap m cp ⟨ns, ps⟩ ∧ k ≤ 7 ∧ m ≤ 12 ∧ I64 x ∧ I64 y ∧ Below w.heap.size w w'

theorem dnum_alloc {w w' : World} {vs : Int → Int → Array Value} {e : Ending} (h : Hid (DNum w vs e w')) (o : Obj) : Hid (DNum w vs e (w'.alloc o)) := by
  obtain ⟨An, k, cn, Ap, m, cp, ns, ps, x, y, he, hn, h1, h2, h3, h4, hb⟩ := h.out
  exact Lib.hid ⟨An, k, cn, Ap, m, cp, ns, ps, x, y, he, hn.later (bel1 _ _), h1, h2, h3, h4, below_step hb (bel1 _ _)⟩

set_option maxRecDepth 100000 in
set_option maxHeartbeats 8000000 in
theorem DrawDropOf_any (A : Option Addr) (n c : Nat) (bs : List Int) (w : World) (h : Bytes w A n c bs) :
    Calls Try.prog 23 #[.slice A n c] w (DNum w fun x y => #[.int .i64 x, .int .i64 y]) := by
  go_enter Try.func23, Try.ntmps23
  go_wp2_with fail
  refine (l01From_any _ _ _ _ _ (h.later (bel1 _ _))).mono ?_
  rintro e w1 ⟨rfl, s1, b1⟩
  simp only [World.size_alloc] at s1
  go_wp2_with fail
  refine (l02DrawAny_any _ _ _ _ _ _ s1).mono ?_
  rintro e w2 ⟨An, k, cn, Ap, m, cp, ns, ps, rfl, hd, _, hk7, hm, hs2, hg2⟩
  have st0 := DT.start s1 b1 hd hs2 hg2
  obtain ⟨w3, hw3⟩ : ∃ w3, w3 = w2.alloc (.cells #[.slice An k cn, .slice Ap m cp] 27) := ⟨_, rfl⟩
  rw [← hw3] at st0
  have HW3 := Lib.hid hw3
  have k1 := st0.c61
  rw [hw3] at k1
  clear hd hs2 hg2 b1 s1 hw3
  go_wp2_with fail
  rw [← HW3.out]
  refine (l02DrawIndex_any _ _ _ _ _ m _ st0.src (by omega)).mono ?_
  rintro e w4 ⟨x, rfl, hx, hs4, hg4⟩
  have st4 := st0.next hg4 hs4
  clear st0 hs4 hg4 HW3 k1
  go_wp2_with fail
  refine (l01Next_any _ _ _ _ _ _ _ st4.src).mono ?_
  rintro e w5 ⟨q, rfl, q0, q1, _, hs5, hg5⟩
  clear q1 q0
  have st := st4.next hg5 hs5
  clear st4 hs5 hg5
  have j0 := st.c60
  have j1 := st.c61
  have d0 := st.c20
  have d1 := st.c21
  have d2 := st.f2 0
  have d3 := st.f2 1
  have ST := Lib.hid (st.later (Below.refl _ _).drew)
  have FIN : ∀ {W : World} {y : Int}, DT w w1 (w.heap.size + 1) A n c bs w2.heap.size An k cn Ap m cp ns ps W → I64 y → Hid (DNum w (fun x y => #[.int .i64 x, .int .i64 y]) (.returned (.tuple #[.agg #[.slice An k cn, .slice Ap m cp], .int .i64 x, .int .i64 y])) ((W.setCell ⟨w.heap.size, 0, none⟩ (.slice An k cn)).setCell ⟨w.heap.size, 1, none⟩ (.slice Ap m cp))) := fun h hy => Lib.hid ⟨_, _, _, _, _, _, _, _, x, _, rfl, h.fin.1, hk7, by omega, hx, hy, h.fin.2⟩
  have l3 := World.block_lt_of_cell? _ _ j0
  have l4 := World.block_lt_of_cell? _ _ d0
  simp only at l3 l4
  have hgs := st.e3
  have hg6 := st.e4
  have hgz := st.gr.size
  clear st
  by_cases hq : q = 0
  · subst hq
    go_wp2_with fail
    go_region_with (go_at_call 73; first | (refine (l01Next_any _ _ _ _ _ _ _ (ST.out.src.alloc _)).mono ?_; rintro e wz ⟨y, rfl, y0, y1, _, hsz, hgz⟩; have y1' := y1 (by omega); clear y1; obtain ⟨Y, rfl⟩ := Int.eq_ofNat_of_zero_le y0; have hY : Y < 3 := (by omega); have hYi : (Y : Int) < 3 := (by omega); obtain ⟨z, hz, hzl, hzi⟩ := pick3 (a := 30000) (b := 30001) (d := -30000) ⟨by decide, by decide⟩ ⟨by decide, by decide⟩ ⟨by decide, by decide⟩ hY; have stz := (ST.out.later (bel1 _ _)).next hgz hsz; have bl := (grown_at hgz (b := w5.heap.size) (by simp) (by omega)).trans (heap_alloc_new w5.drew _); have c0 := stz.c20; have c1 := stz.c21; have v0 := stz.f2 0; have v1 := stz.f2 1; have z0 := stz.c60; have z1 := stz.c61; have cc := cell_blk bl Y; rw [hz] at cc; have l1 := World.block_lt_of_cell? _ _ c0; have l2 := World.block_lt_of_cell? _ _ z0; simp only at l1 l2; have FI := FIN (y := z) stz hzi; clear stz bl) | (refine (l01Next_any _ _ _ _ _ _ _ ST.out.src).mono ?_; rintro e wz ⟨y, rfl, y0, y1, _, hsz, hgz⟩; have y1' := y1 (by omega); clear y1; obtain ⟨Y, rfl⟩ := Int.eq_ofNat_of_zero_le y0; have hY : Y < 3 := (by omega); have hYi : (Y : Int) < 3 := (by omega); obtain ⟨z, hz, hzl, hzi⟩ := pick3 (a := 30000) (b := 30001) (d := -30000) ⟨by decide, by decide⟩ ⟨by decide, by decide⟩ ⟨by decide, by decide⟩ hY; have stz := ST.out.next hgz hsz; have c0 := stz.c20; have c1 := stz.c21; have v0 := stz.f2 0; have v1 := stz.f2 1; have z0 := stz.c60; have z1 := stz.c61; have l1 := World.block_lt_of_cell? _ _ c0; have l2 := World.block_lt_of_cell? _ _ z0; simp only at l1 l2; have FI := FIN (y := z) (stz.later (bel1 _ (.cells #[.int .i64 30000, .int .i64 30001, .int .i64 (-30000)] 2))) hzi; have rx := (Below.heap_alloc ((wz.setCell ⟨w.heap.size, 0, none⟩ (.slice An k cn)).setCell ⟨w.heap.size, 1, none⟩ (.slice Ap m cp)) (.cells #[.int .i64 30000, .int .i64 30001, .int .i64 (-30000)] 2) w.heap.size (by simp [World.setCell]; omega)).trans (heap_set (heap_set stz.xx 0 (.slice An k cn)) 1 (.slice Ap m cp)); have r0 := cell_blk rx 0; have r1 := cell_blk rx 1; simp at r0 r1; clear rx; have FI2 := dnum_alloc (FIN (y := z) stz hzi) (.cells #[.int .i64 30000, .int .i64 30001, .int .i64 (-30000)] 2); clear stz))
    all_goals
      go_wp2_with fail
      first
        | exact bodyPost_ret (v := .tuple #[.agg #[.slice An k cn, .slice Ap m cp], .int .i64 x, .int .i64 z]) (by simp [results, Try.results23, go_sem, c0, c1]) rfl FI.out
        | exact bodyPost_ret (v := .tuple #[.agg #[.slice An k cn, .slice Ap m cp], .int .i64 x, .int .i64 z]) (by simp [results, Try.results23, go_sem, r0, r1]) rfl FI2.out
  · have hq' : (q == 0) = false := by simp [hq]
    clear hq
    go_wp2_with fail
    go_region_with (go_at_call 73; refine (l01Next_any _ _ _ _ _ _ _ ST.out.src).mono ?_; rintro e wz ⟨y, rfl, y0, y1, _, hsz, hgz⟩; have y1' := y1 (by omega); clear y1; have hw := wrap_id (z := y - 30) ⟨by omega, by omega⟩; have stz := ST.out.next hgz hsz; have FI := FIN (y := y - 30) stz ⟨by omega, by omega⟩; have z0 := stz.c60; have z1 := stz.c61; have c0 := stz.c20; have c1 := stz.c21; have v0 := stz.f2 0; have v1 := stz.f2 1; clear stz)
    all_goals
      go_wp2_with fail
      exact bodyPost_ret (v := .tuple #[.agg #[.slice An k cn, .slice Ap m cp], .int .i64 x, .int .i64 (y - 30)]) (by simp [results, Try.results23, go_sem, c0, c1]) rfl FI.out

end Go.Proofs.Ytndieicmjdkojaa
