/- the flows through the forest: the program -/
import Derived.Test.YtioiebjgjimeiaaM1
namespace Go.Proofs.Ytioiebjgjimeiaa
open Go Go.RowKit Go.Shelf

attribute [local go_sem] Oper.semAt_some

/-- what lies in memory while the flows through the forest are found -/
structure FW (w : World) (A : Option Addr) (n c : Nat) (B : Option Addr) (m d : Nat) (bn bf gF bl gL bc cl : Nat) (comp fl left : Nat → Int) (W : World) : Prop where
  bx : W.heap[bn]? = some (.cells #[.slice A n c, .slice B m d] 27 (0, 0))
  xF : W.heap[gF]? = some (.cells #[.slice (some ⟨bf, 0, none⟩) m m] 28 (0, 0))
  xL : W.heap[gL]? = some (.cells #[.slice (some ⟨bl, 0, none⟩) n cl] 28 (0, 0))
  oF : Own W (some ⟨bf, 0, none⟩) m m (mapTo m fl)
  oL : Own W (some ⟨bl, 0, none⟩) n cl (mapTo n left)
  oC : Own W (some ⟨bc, 0, none⟩) n n (mapTo n comp)
  bel : Below w.heap.size w W
  h0 : w.heap.size ≤ bn
  h1 : bn < bf
  h2 : bf < gF
  h3 : gF < bl
  h4 : bl < gL
  h5 : gL < bc

section
variable {w W W' : World} {A B : Option Addr} {n c m d bn bf gF bl gL bc cl : Nat} {comp fl left : Nat → Int}
theorem FW.lt (h : FW w A n c B m d bn bf gF bl gL bc cl comp fl left W) : bc < W.heap.size := h.oC.lt _ rfl
theorem FW.later (h : FW w A n c B m d bn bf gF bl gL bc cl comp fl left W) (hb : Below W.heap.size W W') : FW w A n c B m d bn bf gF bl gL bc cl comp fl left W' := by
  have hl := h.lt
  have e1 := h.h1; have e2 := h.h2; have e3 := h.h3; have e4 := h.h4; have e5 := h.h5
  exact ⟨(hb.block _ (by omega)).trans h.bx, (hb.block _ (by omega)).trans h.xF, (hb.block _ (by omega)).trans h.xL, h.oF.later hb, h.oL.later hb, h.oC.later hb, below_step h.bel hb, h.h0, h.h1, h.h2, h.h3, h.h4, h.h5⟩
theorem FW.kept {row : Option Nat} {S : Nat} (h : FW w A n c B m d bn bf gF bl gL bc cl comp fl left W) (hg : W.grownBy W' row) (hS : w.heap.size ≤ S) (hr : ∀ r, row = some r → S ≤ r ∧ ∃ o : Obj, W.heap[r]? = some o ∧ o.isCells = false) : FW w A n c B m d bn bf gF bl gL bc cl comp fl left W' :=
  have hr' : ∀ r, row = some r → ∃ o : Obj, W.heap[r]? = some o ∧ o.isCells = false := fun r e => (hr r e).2
  ⟨blk_kept h.bx hg hr', blk_kept h.xF hg hr', blk_kept h.xL hg hr', h.oF.kept hg hr', h.oL.kept hg hr', h.oC.kept hg hr', h.bel.grown hg h.bel.size (fun k e => Nat.le_trans hS (hr k e).1), h.h0, h.h1, h.h2, h.h3, h.h4, h.h5⟩
theorem FW.putF (h : FW w A n c B m d bn bf gF bl gL bc cl comp fl left W) (j : Nat) {z : Int} (hz : I64 z) : FW w A n c B m d bn bf gF bl gL bc cl comp (upd fl j z) left (W.setCell ⟨bf, j, none⟩ (.int .i64 z)) := by
  have e0 := h.h0; have e1 := h.h1; have e2 := h.h2; have e3 := h.h3; have e4 := h.h4; have e5 := h.h5
  refine ⟨(Below.heap_setCell W _ _ _ (by show bn ≠ bf; omega)).trans h.bx, (Below.heap_setCell W _ _ _ (by show gF ≠ bf; omega)).trans h.xF, (Below.heap_setCell W _ _ _ (by show gL ≠ bf; omega)).trans h.xL, ?_, ?_, ?_, h.bel.setCell (by show _ ≤ bf; omega) _, h.h0, h.h1, h.h2, h.h3, h.h4, h.h5⟩
  · rw [← mapTo_upd]; exact h.oF.store j hz
  · exact h.oL.far (fun a ha => by injection ha with ha; subst ha; show bl ≠ bf; omega) _
  · exact h.oC.far (fun a ha => by injection ha with ha; subst ha; show bc ≠ bf; omega) _
theorem FW.putL (h : FW w A n c B m d bn bf gF bl gL bc cl comp fl left W) (j : Nat) {z : Int} (hz : I64 z) : FW w A n c B m d bn bf gF bl gL bc cl comp fl (upd left j z) (W.setCell ⟨bl, j, none⟩ (.int .i64 z)) := by
  have e0 := h.h0; have e1 := h.h1; have e2 := h.h2; have e3 := h.h3; have e4 := h.h4; have e5 := h.h5
  refine ⟨(Below.heap_setCell W _ _ _ (by show bn ≠ bl; omega)).trans h.bx, (Below.heap_setCell W _ _ _ (by show gF ≠ bl; omega)).trans h.xF, (Below.heap_setCell W _ _ _ (by show gL ≠ bl; omega)).trans h.xL, ?_, ?_, ?_, h.bel.setCell (by show _ ≤ bl; omega) _, h.h0, h.h1, h.h2, h.h3, h.h4, h.h5⟩
  · exact h.oF.far (fun a ha => by injection ha with ha; subst ha; show bf ≠ bl; omega) _
  · rw [← mapTo_upd]; exact h.oL.store j hz
  · exact h.oC.far (fun a ha => by injection ha with ha; subst ha; show bc ≠ bl; omega) _
theorem FW.cbn0 (h : FW w A n c B m d bn bf gF bl gL bc cl comp fl left W) : W.cell? ⟨bn, 0, none⟩ = some (.slice A n c) := by rw [cell_blk h.bx]; rfl
theorem FW.cbn1 (h : FW w A n c B m d bn bf gF bl gL bc cl comp fl left W) : W.cell? ⟨bn, 1, none⟩ = some (.slice B m d) := by rw [cell_blk h.bx]; rfl
theorem FW.cF (h : FW w A n c B m d bn bf gF bl gL bc cl comp fl left W) : W.cell? ⟨gF, 0, none⟩ = some (.slice (some ⟨bf, 0, none⟩) m m) := by rw [cell_blk h.xF]; rfl
theorem FW.cL (h : FW w A n c B m d bn bf gF bl gL bc cl comp fl left W) : W.cell? ⟨gL, 0, none⟩ = some (.slice (some ⟨bl, 0, none⟩) n cl) := by rw [cell_blk h.xL]; rfl

end

def marked (w : World) (Ds : List Nat) (W : World) : Prop := Ds.Nodup ∧ ∀ D ∈ Ds, w.heap.size ≤ D ∧ W.heap[D]? = some (.deferred (some []))
theorem marked.keep {w W W' : World} {Ds : List Nat} (h : marked w Ds W) (hk : KeepsOthers W W') : marked w Ds W' := ⟨h.1, fun D hD => ⟨(h.2 D hD).1, hk.same D _ (h.2 D hD).2 rfl⟩⟩

/-- the program's steps, in whatever order -/
def Gr.fsP (g : Gr) (r : Nat) (s : Fst) (pre : List Nat) : Fst := pre.foldl (fun s x => g.fs false r s ((g.ord r).getD ((g.ord r).length - 1 - 1 - x + 1) 0)) s
theorem Gr.fsP_snoc (g : Gr) (r : Nat) (s : Fst) (pre : List Nat) (x : Nat) : g.fsP r s (pre ++ [x]) = g.fs false r (g.fsP r s pre) ((g.ord r).getD ((g.ord r).length - 1 - 1 - x + 1) 0) := by simp [Gr.fsP, List.foldl_append]
theorem Gr.fsP_range (g : Gr) (r : Nat) (s : Fst) (j : Nat) (h : j ≤ (g.ord r).length - 1) : g.fsP r s (List.range j) = g.fsJ false r s j := by
  induction j with
  | zero => rfl
  | succ j ih =>
    rw [List.range_succ, Gr.fsP_snoc, ih (by omega), show (g.ord r).length - 1 - 1 - j + 1 = (g.ord r).length - 1 - j by omega]; rfl
theorem Gr.fsP_lim {g : Gr} {r k : Nat} {s : Fst} (h : Lim (pw k) s) (pre : List Nat) : Lim (pw (k + pre.length)) (g.fsP r s pre) := by
  suffices ∀ (t : List Nat), Lim (pw (k + t.length)) (g.fsP r s t.reverse) by have := this pre.reverse; simpa using this
  intro t
  induction t with
  | nil => exact h
  | cons x t ih =>
    rw [List.reverse_cons, Gr.fsP_snoc, List.length_cons]
    exact ih.fs
theorem upd_upd (f : Nat → Int) (j : Nat) (a b : Int) : upd (upd f j a) j b = upd f j b := funext fun v => by
  unfold upd; split <;> rfl
theorem marked.grown {w W W' : World} {Ds : List Nat} {row : Option Nat} {S : Nat} (h : marked w Ds W) (hlt : ∀ D ∈ Ds, D < S) (hg : W.grownBy W' row) (hr : ∀ r, row = some r → S ≤ r) : marked w Ds W' :=
  ⟨h.1, fun D hD => ⟨(h.2 D hD).1, (hg.block D (Array.getElem?_eq_some_iff.1 (h.2 D hD).2).1 (fun e => by have := hr D e.symm; have := hlt D hD; omega)).trans (h.2 D hD).2⟩⟩

/-- what a round of the inner loop keeps -/
structure FR (Wa : World) (gB ga ge gS : Nat) (srch : Array Value) (l : Nat) (ent : Nat → Int) (w : World) (Ds : List Nat) (s8 : Nat) (W : World) : Prop where
  xs : W.heap[gS]? = some (.cells srch 118 (0, 0))
  oe : Own W (some ⟨ge, 0, none⟩) l l (mapTo l ent)
  mrk : marked w Ds W
  sz : s8 ≤ W.heap.size
  ko : KeepsOthers Wa W
  kp : bkK gB ga Wa W
theorem FR.below {Wa : World} {gB ga ge gS : Nat} {srch : Array Value} {l : Nat} {ent : Nat → Int} {w : World} {Ds : List Nat} {s8 : Nat} {W W' : World} (h : FR Wa gB ga ge gS srch l ent w Ds s8 W) (h1 : gB < s8) (h2 : ga < s8) (hb : Below W.heap.size W W') : FR Wa gB ga ge gS srch l ent w Ds s8 W' := by
  have hs := h.sz
  have hx := (Array.getElem?_eq_some_iff.1 h.xs).1
  have hbs := hb.size
  exact ⟨(hb.block _ hx).trans h.xs, h.oe.later hb, h.mrk.keep (keepsOthers_below hb), by omega, h.ko.trans (keepsOthers_below hb), h.kp.trans ⟨hb.block _ (by omega), hb.block _ (by omega)⟩⟩
theorem FR.put {Wa : World} {gB ga ge gS : Nat} {srch : Array Value} {l : Nat} {ent : Nat → Int} {w : World} {Ds : List Nat} {s8 : Nat} {W : World} (h : FR Wa gB ga ge gS srch l ent w Ds s8 W) {b : Nat} (h1 : gB ≠ b) (h2 : ga ≠ b) (h3 : ge ≠ b) (h4 : gS ≠ b) (j : Nat) (u : Value) : FR Wa gB ga ge gS srch l ent w Ds s8 (W.setCell ⟨b, j, none⟩ u) :=
  ⟨(Below.heap_setCell W _ _ _ h4).trans h.xs, h.oe.far (fun a ha => by injection ha with ha; subst ha; exact h3) _, h.mrk.keep (KeepsOthers.setCell _ _ _), by simpa [World.setCell] using h.sz, h.ko.trans (KeepsOthers.setCell _ _ _), h.kp.trans ⟨Below.heap_setCell W _ _ _ h1, Below.heap_setCell W _ _ _ h2⟩⟩

set_option maxRecDepth 100000 in
set_option maxHeartbeats 4000000 in
theorem forestFlows_any (A : Option Addr) (n c : Nat) (B : Option Addr) (m d : Nat) (net : Net) (C : Option Addr) (l e : Nat) (zs : List Int) (w : World) (h : NetAt w A n c B m d net) (hz : Ints w C l e zs) (ok : NetOK net) (hl : l = n) (hs : ∀ j, -30000 ≤ ig zs j ∧ ig zs j ≤ 30000) :
    Calls Try.prog 89 #[.agg #[.slice A n c, .slice B m d], .slice C l e] w fun e w' => ∃ Af, e = .returned (.slice Af m m) ∧ Own w' Af m m (mapTo m ((netG net).ffl (ig zs))) ∧ Fresh w.heap.size Af ∧ Below w.heap.size w w' := by
  have hn24 : n ≤ 24 := by have := ok.n24; have := h.nodes.len; omega
  have hn1 : 1 ≤ n := by have := ok.n1; have := h.nodes.len; omega
  have hm40 : m ≤ 40 := by have := ok.m40; have := h.pipes.len; omega
  have HNn : Hid ((netG net).n = n) := Lib.hid h.nodes.len
  have HMm : Hid ((netG net).m = m) := Lib.hid h.pipes.len
  have hple := h.pipes.le
  have hpcap := h.pipes.cap
  subst hl
  have HS := Lib.hid hs
  clear hs
  have HB := Lib.hid (bel1 w (.cells #[.slice A l c, .slice B m d] 27))
  have bx0 : BX (w.alloc (.cells #[.slice A l c, .slice B m d] 27)) w.heap.size A l c B m d := ⟨heap_alloc_new w _⟩
  obtain ⟨W, hW⟩ : ∃ W, W = w.alloc (.cells #[.slice A l c, .slice B m d] 27) := ⟨_, rfl⟩
  have hWs : W.heap.size = w.heap.size + 1 := by rw [hW]; simp
  refine (callsIn_wide (n := 9)).1 ?_
  refine callsIn_of_wp_marks Try.func89 rfl trivial ?_ rfl
  simp only [Try.ntmps89, List.size_toArray, List.length_cons, List.length_nil, Nat.reduceAdd, Nat.reduceSub, Array.replicate_succ, Array.replicate_zero, List.push_toArray, List.append_toArray, List.nil_append, List.cons_append]
  refine wpIn_wide.2 ?_
  go_wp2_with (at_make; refine law_make _ rfl _ _ rfl m _ _ rfl rfl rfl rfl (by omega) ?_; intro w1 o1 b1 z1)
  rw [World.size_alloc] at o1
  rw [← hW] at b1 HB bx0
  have t1 := below_step HB.out b1
  have bxF := bel1 w1 (.cells #[.slice (some ⟨w.heap.size + 1, 0, none⟩) m m] 28)
  have xF := heap_alloc_new w1 (.cells #[.slice (some ⟨w.heap.size + 1, 0, none⟩) m m] 28)
  obtain ⟨w2, hw2⟩ : ∃ w2, w2 = w1.alloc (.cells #[.slice (some ⟨w.heap.size + 1, 0, none⟩) m m] 28) := ⟨_, rfl⟩
  have hw2s : w2.heap.size = w1.heap.size + 1 := by rw [hw2]; simp
  rw [← hw2] at bxF xF ⊢
  clear hw2
  have t2 := below_step t1 bxF
  refine (slicesClone_any _ _ _ _ _ (hz.later t2) (by omega)).mono ?_
  rintro e w3 ⟨Al, cl, rfl, o3, f3, b3⟩
  obtain ⟨bl, rfl, hbl⟩ := o3.pos (by omega)
  have hfl := f3 _ rfl
  simp only at hfl
  have bx3 := ((bx0.step b1).step bxF).step b3
  have k0 := bx3.c0
  have k1 := bx3.c1
  have hb3 := bx3.lt
  go_wp2_with fail
  clear k0 k1
  have bxL := bel1 w3 (.cells #[.slice (some ⟨bl, 0, none⟩) l cl] 28)
  have xL := heap_alloc_new w3 (.cells #[.slice (some ⟨bl, 0, none⟩) l cl] 28)
  obtain ⟨w4, hw4⟩ : ∃ w4, w4 = w3.alloc (.cells #[.slice (some ⟨bl, 0, none⟩) l cl] 28) := ⟨_, rfl⟩
  have hw4s : w4.heap.size = w3.heap.size + 1 := by rw [hw4]; simp
  rw [← hw4] at bxL xL ⊢
  clear hw4
  have t4 := below_step (below_step t2 b3) bxL
  refine (componentsOf_any _ _ _ _ _ _ net _ (h.later t4) ok).mono ?_
  rintro e w5 ⟨Ac, rfl, o5, f5, b5⟩
  obtain ⟨bc, rfl, hbc⟩ := o5.pos (by omega)
  have hfc := f5 _ rfl
  simp only at hfc
  have q1 := b1.size
  have q2 := bxF.size
  have q3 := b3.size
  have q5 := b5.size
  have oo1 := o1.lt _ rfl
  have oo3 := o3.lt _ rfl
  simp only at oo1 oo3
  have st0 : FW w A l c B m d w.heap.size (w.heap.size + 1) w1.heap.size bl w3.heap.size bc cl (netG net).comp ((netG net).fsK false (fun _ => 0, ig zs) 0).1 ((netG net).fsK false (fun _ => 0, ig zs) 0).2 w5 := by
    refine ⟨((bx3.step bxL).step b5).box, (b5.block _ (by omega)).trans ((bxL.block _ (by omega)).trans ((b3.block _ (by omega)).trans xF)), (b5.block _ (by omega)).trans xL, ?_, ?_, o5, below_step t4 b5, Nat.le_refl _, by omega, by omega, by omega, by omega, by omega⟩
    · rw [show (netG net).fsK false (fun _ => 0, ig zs) 0 = (fun _ => 0, ig zs) from rfl, mapTo_const]
      exact (((o1.later bxF).later b3).later bxL).later b5
    · rw [show (netG net).fsK false (fun _ => 0, ig zs) 0 = (fun _ => 0, ig zs) from rfl]
      have e : mapTo l (ig zs) = zs := ext_ig (by rw [mapTo_len, hz.len]) fun j hj => by rw [mapTo_len] at hj; exact mapTo_ig hj
      rw [e]
      exact (o3.later bxL).later b5
  have mk0 : marked w [] w5 := ⟨List.nodup_nil, fun D hD => by cases hD⟩
  have HZ := Lib.hid hz.len
  clear hz o1 o3 o5 b1 b3 b5 bxF bxL xF xL bx0 bx3 t1 t2 t4 hW z1 HB
  go_wp2_with fail
  refine wp_loop (fun a' wr => ∃ (k : Nat) (Ds : List Nat) (u7 u8 u9 u24 u25 u26 u27 u28 u29 u30 u31 u32 u33 u34 u35 u36 u37 u81 : Value), k ≤ l ∧ FW w A l c B m d w.heap.size (w.heap.size + 1) w1.heap.size bl w3.heap.size bc cl (netG net).comp ((netG net).fsK false (fun _ => 0, ig zs) k).1 ((netG net).fsK false (fun _ => 0, ig zs) k).2 wr ∧ marked w Ds wr ∧ a' = { tmps := #[.agg #[.slice A l c, .slice B m d], .slice C l e, .pointer (some ⟨w.heap.size, 0, none⟩), undef, .slice none 0 0, .pointer (some ⟨w1.heap.size, 0, none⟩), .pointer (some ⟨w3.heap.size, 0, none⟩), u7, u8, u9, undef, undef, undef, undef, .pointer (some ⟨w.heap.size, 1, none⟩), .slice B m d, .int .i64 m, .slice (some ⟨w.heap.size + 1, 0, none⟩) m m, .slice C l e, .slice (some ⟨bl, 0, none⟩) l cl, .agg #[.slice A l c, .slice B m d], .slice (some ⟨bc, 0, none⟩) l l, .int .i64 l, .int .i64 (k : Int), u24, u25, u26, u27, u28, u29, u30, u31, u32, u33, u34, u35, u36, u37, undef, undef, undef, undef, undef, undef, undef, undef, undef, undef, undef, undef, undef, undef, undef, undef, undef, undef, undef, undef, undef, undef, undef, undef, undef, undef, undef, undef, undef, undef, undef, undef, undef, undef, undef, undef, undef, undef, undef, undef, undef, undef, undef, u81, undef], defers := Ds.map mark }) (fun a' _ => l - (intOf (a'.tmps.getD 23 undef)).toNat) ?_ ?_
  · exact ⟨0, [], undef, undef, undef, undef, undef, undef, undef, undef, undef, undef, undef, undef, undef, undef, undef, undef, undef, undef, by omega, st0, mk0, rfl⟩
  rintro _ wr ⟨k, Ds, u7, u8, u9, u24, u25, u26, u27, u28, u29, u30, u31, u32, u33, u34, u35, u36, u37, u81, hk, st, mk, rfl⟩
  clear st0 mk0
  by_cases hlt : k < l
  · have c1 := st.oC.cell hlt
    rw [mapTo_ig hlt] at c1
    by_cases hc : (netG net).comp k = k
    · have HC := Lib.hid hc
      rw [hc] at c1
      have HFK : Hid ((netG net).fsK false (fun _ => 0, ig zs) (k + 1) = (netG net).fsJ false k ((netG net).fsK false (fun _ => 0, ig zs) k) (((netG net).ord k).length - 1)) := Lib.hid (by show (if (netG net).comp k = k then _ else _) = _; rw [if_pos hc])
      have hkn : k < (netG net).n := by rw [HNn.out]; exact hlt
      have HRK : Hid ((netG net).root k = k) := Lib.hid ((Gr.root_comp ok.g hkn).1 hc)
      have HOS : Hid (((netG net).ordK k).length + ((netG net).ord k).length ≤ l) := Lib.hid (by have := Gr.ordK_step ok.g hkn hc; rw [HNn.out] at this; exact this)
      have HLIM : Hid (Lim (pw ((netG net).ordK k).length) ((netG net).fsK false (fun _ => 0, ig zs) k)) := Lib.hid (Gr.fsK_lim ⟨fun _ => ⟨by show (-30000 : Int) ≤ 0; decide, by show (0 : Int) ≤ 30000; decide⟩, HS.out⟩ k)
      clear hc
      have k0 := st.cbn0
      have k1 := st.cbn1
      go_wp2_with fail
      refine (searchFrom_any _ _ _ _ _ _ net k _ (h.later st.bel) ok hlt).mono ?_
      rintro e w6 ⟨Ao, lo, co, Ad, Ae, rfl, oo, oe, fo, fe, b6⟩
      have hlo := oo.len
      rw [nl_len] at hlo
      have hlo24 : lo ≤ l := by have := Gr.ord_len ok.g (r := k) hkn; rw [HNn.out] at this; omega
      have hlo1 : 1 ≤ lo := by have := List.length_pos_of_mem (Gr.ord_r ok.g (r := k) hkn); omega
      have HLO := Lib.hid hlo
      obtain ⟨ga, rfl, hga⟩ := oo.pos (by omega)
      obtain ⟨ge, rfl, hge⟩ := oe.pos (by omega)
      have hfo := fo _ rfl
      have hfe := fe _ rfl
      simp only at hfo hfe
      have hco := oo.ints.le
      have hco2 := oo.ints.cap
      have hls := st.lt
      have hq6 := b6.size
      obtain ⟨w7, hw7⟩ : ∃ w7, w7 = w6.alloc (.cells #[.slice (some ⟨ga, 0, none⟩) lo co, .slice Ad l l, .slice (some ⟨ge, 0, none⟩) l l] 118) := ⟨_, rfl⟩
      have HW7S : Hid (w7.heap.size = w6.heap.size + 1) := Lib.hid (by rw [hw7]; simp)
      have b7 := bel1 w6 (.cells #[.slice (some ⟨ga, 0, none⟩) lo co, .slice Ad l l, .slice (some ⟨ge, 0, none⟩) l l] 118)
      have x7 := heap_alloc_new w6 (.cells #[.slice (some ⟨ga, 0, none⟩) lo co, .slice Ad l l, .slice (some ⟨ge, 0, none⟩) l l] 118)
      rw [← hw7] at b7 x7
      have ST7 := Lib.hid ((st.later b6).later b7)
      have MK7 := Lib.hid ((mk.keep (keepsOthers_below b6)).keep (keepsOthers_below b7))
      have OO7 := Lib.hid (oo.later b7)
      have OE7 := Lib.hid (oe.later b7)
      have XS7 := Lib.hid x7
      have HDL : Hid (∀ D ∈ Ds, D < w7.heap.size + 1) := Lib.hid fun D hD => by
        have := (Array.getElem?_eq_some_iff.1 (mk.2 D hD).2).1
        have := HW7S.out
        omega
      have HSZ : Hid (w.heap.size ≤ w7.heap.size) := Lib.hid (by have := st.bel.size; have := HW7S.out; omega)
      have y0 : w7.cell? ⟨w6.heap.size, 0, none⟩ = some (.slice (some ⟨ga, 0, none⟩) lo co) := by rw [cell_blk x7]; rfl
      rw [hw7] at y0
      have HW7 := Lib.hid hw7
      clear k0 k1 c1 st mk oo oe x7 b6 b7 hw7 hlo
      have hnet := h
      clear h
      go_wp2_with fail
      case inl =>
        subst h
        rw [← HW7.out]
        clear y0 HW7
        refine (slicesBackward_any _ _ _ _).mono ?_
        rintro e w8 ⟨rfl, hw8⟩
        have b8 := bel1 w7 (.cells #[.slice (some ⟨ga, 0, none⟩) (lo - 1) 0] 28)
        have x8 := heap_alloc_new w7 (.cells #[.slice (some ⟨ga, 0, none⟩) (lo - 1) 0] 28)
        rw [← hw8] at b8 x8
        have HW8S : Hid (w8.heap.size = w7.heap.size + 1) := Lib.hid (by rw [hw8]; simp)
        clear hw8
        have st8 := ST7.out.later b8
        have mk8 := MK7.out.keep (keepsOthers_below b8)
        have xs8 := (b8.block _ (by have := HW7S.out; omega)).trans XS7.out
        have oe8 := OE7.out.later b8
        have oo8 := OO7.out.later b8
        go_wp2_with fail
        refine (wpIn_wide (n := 9)).1 ?_
        have hs7 := HW7S.out
        have hs8 := HW8S.out
        refine wpIn_rangeFunc_ownF (F := Fence.wide) (n := 9) rfl (by omega) (gf := 190) (lb := #[.pointer (some ⟨w7.heap.size, 0, none⟩)]) rfl trivial (enters_of Try.func190 (by kernel_rfl) rfl)
          (backward_stops 8 w7.heap.size ga 0 (lo - 1) 0 (nl ((netG net).ord k).tail) (by omega) (by omega) (by omega) w8 (by omega) (by omega) x8 (fun j hj => ?_)) (fun h k => h.trans k) (bkK.put (by omega) (by omega)) (Below.refl _ _) (fun _ => rfl)
          (fun pre W => FW w A l c B m d w.heap.size (w.heap.size + 1) w1.heap.size bl w3.heap.size bc cl (netG net).comp ((netG net).fsP k ((netG net).fsK false (fun _ => 0, ig zs) k) pre).1 ((netG net).fsP k ((netG net).fsK false (fun _ => 0, ig zs) k) pre).2 W ∧ W.heap[w6.heap.size]? = some (.cells #[.slice (some ⟨ga, 0, none⟩) lo 1, .slice Ad l l, .slice (some ⟨ge, 0, none⟩) l l] 118 (0, 0)) ∧ Own W (some ⟨ge, 0, none⟩) l l (mapTo l ((netG net).ent k)) ∧ marked w Ds W ∧ w8.heap.size ≤ W.heap.size)
          (fun _ _ _ => False)
          (fun pre W W' row hs hg hr => ⟨hs.1.kept hg (by have := HSZ.out; omega) hr, blk_kept hs.2.1 hg (fun r e => (hr r e).2), hs.2.2.1.kept hg (fun r e => (hr r e).2), hs.2.2.2.1.grown HDL.out hg (fun r e => by have := (hr r e).1; omega), Nat.le_trans hs.2.2.2.2 hg.size⟩)
          (fun _ _ _ _ _ hs _ _ => hs) ⟨st8, xs8, oe8, mk8, Nat.le_refl _⟩
          (fun x => { tmps := #[.agg #[.slice A l c, .slice B m d], .slice C l e, .pointer (some ⟨w.heap.size, 0, none⟩), undef, .slice none 0 0, .pointer (some ⟨w1.heap.size, 0, none⟩), .pointer (some ⟨w3.heap.size, 0, none⟩), .int .i64 (k : Int), .int .i64 (k : Int), .pointer (some ⟨w6.heap.size, 0, none⟩), undef, .int .i64 (ig (nl ((netG net).ord k).tail) (lo - 1 - 1 - x)), undef, undef, .pointer (some ⟨w.heap.size, 1, none⟩), .slice B m d, .int .i64 m, .slice (some ⟨w.heap.size + 1, 0, none⟩) m m, .slice C l e, .slice (some ⟨bl, 0, none⟩) l cl, .agg #[.slice A l c, .slice B m d], .slice (some ⟨bc, 0, none⟩) l l, .int .i64 l, .int .i64 (k : Int), .bool true, .int .i64 (k : Int), .pointer (some ⟨bc, k, none⟩), .int .i64 (k : Int), .int .i64 (k : Int), .int .i64 (k : Int), .bool false, .agg #[.slice A l c, .slice B m d], .int .i64 (k : Int), .agg #[.slice (some ⟨ga, 0, none⟩) lo 1, .slice Ad l l, .slice (some ⟨ge, 0, none⟩) l l], .pointer (some ⟨w6.heap.size, 0, none⟩), .slice (some ⟨ga, 0, none⟩) lo 1, .slice (some ⟨ga, 0, none⟩) 0 0, .func (.func 190) #[] #[.pointer (some ⟨w7.heap.size, 0, none⟩)], .int .i64 ((lo - 1 - 1 - x : Nat) : Int), .int .i64 (ig (nl ((netG net).ord k).tail) (lo - 1 - 1 - x)), undef, undef, undef, undef, undef, undef, undef, undef, undef, undef, undef, undef, undef, undef, undef, undef, undef, undef, undef, undef, undef, undef, undef, undef, undef, undef, undef, undef, undef, undef, undef, undef, undef, undef, undef, undef, undef, undef, undef, undef, undef, u81, undef], defers := [] }) ?assign ?body ?done ?stop
        · have := oo8.cell (j := j + 1) (by omega)
          rw [nl_ig (by rw [HLO.out]; omega)] at this
          rw [nl_ig (by rw [List.length_tail, HLO.out]; omega), List.getElem_tail]
          exact absurd hj (by omega)
        case assign =>
          intro l0 x Wa K hK
          simp only [bkE, List.zip_toArray, List.zip_cons_cons, List.zip_nil_right, List.foldl_toArray, List.foldl_cons, List.foldl_nil, List.setIfInBounds_toArray, List.set_cons_succ, List.set_cons_zero]
          clear hs7 hs8 hco
          generalize lo - 1 - 1 - x = i at hK ⊢
          generalize ig (nl ((netG net).ord k).tail) i = z at hK ⊢
          generalize lo - 1 = L1 at hK ⊢
          gi_wp2
          exact hK
        case stop =>
          rintro D c0 pre W' _ _ hf _
          exact hf.elim
        case done =>
          rintro D ys W' hD rfl ⟨st9, _, _, mk9, _⟩ hK
          have hfk := HFK.out
          rw [HLO.out] at hfk
          rw [(netG net).fsP_range k _ _ (by rw [HLO.out]; omega), ← hfk] at st9
          clear hfk
          have ST9 := Lib.hid st9
          have mk10 : marked w (D :: Ds) W' := ⟨List.nodup_cons.2 ⟨fun hm => by have := HDL.out D hm; omega, mk9.1⟩, fun D' hD' => by
            rcases List.mem_cons.1 hD' with rfl | hD'
            · exact ⟨by have := HSZ.out; omega, hK⟩
            · exact mk9.2 D' hD'⟩
          have MK10 := Lib.hid mk10
          clear st9 mk10 mk9 hK
          clear hs7 hs8
          simp only [Exit.then, Exit.inBlock]
          go_wp2_with fail
          exact ⟨⟨k + 1, D :: Ds, _, _, _, _, _, _, _, _, _, _, _, _, _, _, _, _, _, _, by omega, ST9.out, MK10.out, by simp only [Int.natCast_add, Int.cast_ofNat_Int]; rfl⟩, by simp [intOf]; omega⟩
        case body =>
          intro l0 pre x Wa _ hlen
          exact absurd hlen (by omega)
      case inr =>
        rw [← HW7.out]
        clear y0 HW7
        refine (slicesBackward_any _ _ _ _).mono ?_
        rintro e w8 ⟨rfl, hw8⟩
        have b8 := bel1 w7 (.cells #[.slice (some ⟨ga, 1, none⟩) (lo - 1) (co - 1)] 28)
        have x8 := heap_alloc_new w7 (.cells #[.slice (some ⟨ga, 1, none⟩) (lo - 1) (co - 1)] 28)
        rw [← hw8] at b8 x8
        have HW8S : Hid (w8.heap.size = w7.heap.size + 1) := Lib.hid (by rw [hw8]; simp)
        clear hw8
        have st8 := ST7.out.later b8
        have mk8 := MK7.out.keep (keepsOthers_below b8)
        have xs8 := (b8.block _ (by have := HW7S.out; omega)).trans XS7.out
        have oe8 := OE7.out.later b8
        have oo8 := OO7.out.later b8
        go_wp2_with fail
        refine (wpIn_wide (n := 9)).1 ?_
        have hs7 := HW7S.out
        have hs8 := HW8S.out
        refine wpIn_rangeFunc_ownF (F := Fence.wide) (n := 9) rfl (by omega) (gf := 190) (lb := #[.pointer (some ⟨w7.heap.size, 0, none⟩)]) rfl trivial (enters_of Try.func190 (by kernel_rfl) rfl)
          (backward_stops 8 w7.heap.size ga 1 (lo - 1) (co - 1) (nl ((netG net).ord k).tail) (by omega) (by omega) (by omega) w8 (by omega) (by omega) x8 (fun j hj => ?_)) (fun h k => h.trans k) (bkK.put (by omega) (by omega)) (Below.refl _ _) (fun _ => rfl)
          (fun pre W => FW w A l c B m d w.heap.size (w.heap.size + 1) w1.heap.size bl w3.heap.size bc cl (netG net).comp ((netG net).fsP k ((netG net).fsK false (fun _ => 0, ig zs) k) pre).1 ((netG net).fsP k ((netG net).fsK false (fun _ => 0, ig zs) k) pre).2 W ∧ W.heap[w6.heap.size]? = some (.cells #[.slice (some ⟨ga, 0, none⟩) lo co, .slice Ad l l, .slice (some ⟨ge, 0, none⟩) l l] 118 (0, 0)) ∧ Own W (some ⟨ge, 0, none⟩) l l (mapTo l ((netG net).ent k)) ∧ marked w Ds W ∧ w8.heap.size ≤ W.heap.size)
          (fun _ _ _ => False)
          (fun pre W W' row hs hg hr => ⟨hs.1.kept hg (by have := HSZ.out; omega) hr, blk_kept hs.2.1 hg (fun r e => (hr r e).2), hs.2.2.1.kept hg (fun r e => (hr r e).2), hs.2.2.2.1.grown HDL.out hg (fun r e => by have := (hr r e).1; omega), Nat.le_trans hs.2.2.2.2 hg.size⟩)
          (fun _ _ _ _ _ hs _ _ => hs) ⟨st8, xs8, oe8, mk8, Nat.le_refl _⟩
          (fun x => { tmps := #[.agg #[.slice A l c, .slice B m d], .slice C l e, .pointer (some ⟨w.heap.size, 0, none⟩), undef, .slice none 0 0, .pointer (some ⟨w1.heap.size, 0, none⟩), .pointer (some ⟨w3.heap.size, 0, none⟩), .int .i64 (k : Int), .int .i64 (k : Int), .pointer (some ⟨w6.heap.size, 0, none⟩), undef, .int .i64 (ig (nl ((netG net).ord k).tail) (lo - 1 - 1 - x)), undef, undef, .pointer (some ⟨w.heap.size, 1, none⟩), .slice B m d, .int .i64 m, .slice (some ⟨w.heap.size + 1, 0, none⟩) m m, .slice C l e, .slice (some ⟨bl, 0, none⟩) l cl, .agg #[.slice A l c, .slice B m d], .slice (some ⟨bc, 0, none⟩) l l, .int .i64 l, .int .i64 (k : Int), .bool true, .int .i64 (k : Int), .pointer (some ⟨bc, k, none⟩), .int .i64 (k : Int), .int .i64 (k : Int), .int .i64 (k : Int), .bool false, .agg #[.slice A l c, .slice B m d], .int .i64 (k : Int), .agg #[.slice (some ⟨ga, 0, none⟩) lo co, .slice Ad l l, .slice (some ⟨ge, 0, none⟩) l l], .pointer (some ⟨w6.heap.size, 0, none⟩), .slice (some ⟨ga, 0, none⟩) lo co, .slice (some ⟨ga, 1, none⟩) (lo - 1) (co - 1), .func (.func 190) #[] #[.pointer (some ⟨w7.heap.size, 0, none⟩)], .int .i64 ((lo - 1 - 1 - x : Nat) : Int), .int .i64 (ig (nl ((netG net).ord k).tail) (lo - 1 - 1 - x)), undef, undef, undef, undef, undef, undef, undef, undef, undef, undef, undef, undef, undef, undef, undef, undef, undef, undef, undef, undef, undef, undef, undef, undef, undef, undef, undef, undef, undef, undef, undef, undef, undef, undef, undef, undef, undef, undef, undef, undef, undef, u81, undef], defers := [] }) ?assign ?body ?done ?stop
        · have := oo8.cell (j := j + 1) (by omega)
          rw [nl_ig (by rw [HLO.out]; omega)] at this
          rw [nl_ig (by rw [List.length_tail, HLO.out]; omega), List.getElem_tail]
          rw [show 1 + j = j + 1 by omega]; exact this
        case assign =>
          intro l0 x Wa K hK
          simp only [bkE, List.zip_toArray, List.zip_cons_cons, List.zip_nil_right, List.foldl_toArray, List.foldl_cons, List.foldl_nil, List.setIfInBounds_toArray, List.set_cons_succ, List.set_cons_zero]
          clear hs7 hs8 hco
          generalize lo - 1 - 1 - x = i at hK ⊢
          generalize ig (nl ((netG net).ord k).tail) i = z at hK ⊢
          generalize lo - 1 = L1 at hK ⊢
          gi_wp2
          exact hK
        case stop =>
          rintro D c0 pre W' _ _ hf _
          exact hf.elim
        case done =>
          rintro D ys W' hD rfl ⟨st9, _, _, mk9, _⟩ hK
          have hfk := HFK.out
          rw [HLO.out] at hfk
          rw [(netG net).fsP_range k _ _ (by rw [HLO.out]; omega), ← hfk] at st9
          clear hfk
          have ST9 := Lib.hid st9
          have mk10 : marked w (D :: Ds) W' := ⟨List.nodup_cons.2 ⟨fun hm => by have := HDL.out D hm; omega, mk9.1⟩, fun D' hD' => by
            rcases List.mem_cons.1 hD' with rfl | hD'
            · exact ⟨by have := HSZ.out; omega, hK⟩
            · exact mk9.2 D' hD'⟩
          have MK10 := Lib.hid mk10
          clear st9 mk10 mk9 hK
          clear hs7 hs8
          simp only [Exit.then, Exit.inBlock]
          go_wp2_with fail
          exact ⟨⟨k + 1, D :: Ds, _, _, _, _, _, _, _, _, _, _, _, _, _, _, _, _, _, _, by omega, ST9.out, MK10.out, by simp only [Int.natCast_add, Int.cast_ofNat_Int]; rfl⟩, by simp [intOf]; omega⟩
        case body =>
          rintro l0 pre x Wa ⟨sta, xsa, oea, mka, sza⟩ hlen
          have hlim := Gr.fsP_lim (g := netG net) (r := k) HLIM.out pre
          have hos := HOS.out
          rw [HLO.out] at hos
          have hpw := pw_le (k := ((netG net).ordK k).length + pre.length) (by omega)
          obtain ⟨S, hS⟩ : ∃ S, (netG net).fsP k ((netG net).fsK false (fun _ => 0, ig zs) k) pre = S := ⟨_, rfl⟩
          rw [hS] at sta hlim
          obtain ⟨v, q, y, hv, hvn, hvr, hvk, hvi, he, hfe, hqm, hjn, hoy, hyn, hyr, hyi⟩ := Gr.ord_at ok.g hkn HRK.out (i := lo - 1 - 1 - x + 1) (by rw [HLO.out]; omega) (by omega)
          have hzv : ig (nl ((netG net).ord k).tail) (lo - 1 - 1 - x) = v := by
            rw [nl_ig (by rw [List.length_tail, HLO.out]; omega), List.getElem_tail, (List.getElem?_eq_some_iff.1 hv).2]
          have HFS : Hid ((netG net).fsP k ((netG net).fsK false (fun _ => 0, ig zs) k) (pre ++ [x]) = (upd S.1 q (if (netG net).f q = v then S.2 v else -(S.2 v)), upd S.2 y (S.2 y + S.2 v))) := Lib.hid (by
            rw [Gr.fsP_snoc, hS, HLO.out, List.getD_eq_getElem?_getD, hv]
            show (netG net).fs false k S v = _
            unfold Gr.fs
            rw [he, show ((q : Int)).toNat = q from rfl, hoy]; rfl)
          rw [HNn.out] at hvn hyn
          rw [HMm.out] at hqm
          have hvy : v ≠ y := by rintro rfl; have := ok.g q (by rw [HMm.out]; exact hqm); rcases hjn with ⟨a, b⟩ | ⟨a, b⟩ <;> omega
          have hSv := hlim.left v
          have hSy := hlim.left y
          rw [hzv]
          have ce := oea.cell hvn
          rw [mapTo_ig hvn, he] at ce
          have y2 : Wa.cell? ⟨w6.heap.size, 2, none⟩ = some (.slice (some ⟨ge, 0, none⟩) l l) := by rw [cell_blk xsa]; rfl
          have kb1 := sta.cbn1
          obtain ⟨bp, offp, rfl, hblp, hcp⟩ := (hnet.pipes.later sta.bel).cells (by omega)
          obtain ⟨c0, c1, c2, c3, c4⟩ := hcp q hqm
          have hpl : q < net.pipes.length := by rw [hnet.pipes.len]; exact hqm
          have HF := Lib.hid (ok.fr hpl)
          have HT := Lib.hid (ok.to hpl)
          obtain ⟨wq, hwq, bq, n0, n1, n2, n3, n4⟩ := pipe_box Wa (pp net.pipes q)
          have HWQ := Lib.hid hwq
          have hjo : ((netG net).t q = v ∧ (netG net).f q ≠ v) ∨ ((netG net).t q ≠ v ∧ (netG net).f q = v) := by
            have := ok.g q (by rw [HMm.out]; exact hqm)
            rcases hjn with ⟨a, b⟩ | ⟨a, b⟩ <;> omega
          clear hcp hv hvr hvk hvi he hfe hjn hyr hyi hzv hS hlim hwq
          generalize lo - 1 - 1 - x = i
          clear hs7 hs8
          gi_wp2
          rw [← HWQ.out]
          have STQ := Lib.hid (sta.later bq)
          have FRQ := Lib.hid ((FR.mk xsa oea mka sza (KeepsOthers.refl _) ⟨rfl, rfl⟩ : FR Wa w7.heap.size ga ge w6.heap.size #[.slice (some ⟨ga, 0, none⟩) lo co, .slice Ad l l, .slice (some ⟨ge, 0, none⟩) l l] l ((netG net).ent k) w Ds w8.heap.size Wa).below (by have := HW8S.out; omega) (by have := HW8S.out; have := HW7S.out; omega) bq)
          have XPQ : Hid (wq.heap[Wa.heap.size]? = some (.cells #[.int .i64 (pp net.pipes q).fr, .int .i64 (pp net.pipes q).to, .int .i64 (pp net.pipes q).k, .int .i64 (pp net.pipes q).vol, .int .i64 (pp net.pipes q).lim] 64 (0, 0))) := Lib.hid (by rw [HWQ.out]; exact heap_alloc_new _ _)
          have hs7 := HW7S.out
          have hs8 := HW8S.out
          clear ce y2 kb1 c0 c1 c2 c3 c4 HWQ
          refine any_round (fun ⟨_, _, h⟩ => h) (by kernel_rfl) (by kernel_rfl) ?_
          apply any_track [50, 51, 52, 53, 54, 55, 56] [eqv _, eqv _, eqv _, eqv _, eqv _, eqv _, eqv _]
            (fun wx => Below wq.heap.size wq wx) Grw (by kernel_rfl) rfl (by kernel_rfl)
          case hs =>
            refine ⟨?_, ?_, ?_, ?_, ?_, ?_, ?_, trivial⟩
            · intro ev wt ht hc hg hf hI hd
              have e5 : ev (.tmp 5) = .pointer (some ⟨w1.heap.size, 0, none⟩) := ht 5 (by decide)
              have stt := STQ.out.later hI
              have yF := stt.cF
              have yL := stt.cL
              have yv := stt.oL.cell hvn
              rw [mapTo_ig hvn] at yv
              have yy := stt.oL.cell hyn
              rw [mapTo_ig hyn] at yy
              refine opok_gen fun N hN => ?_
              clear hd ht
              go_simp
              exact hN.out _ _ ⟨hI, Below.refl _ _, rfl⟩
            · intro ev wt ht hc hg hf hI hd
              have e12 : ev (.tmp 12) = .int .i64 (q : Int) := ht 12 (by decide)
              exact opok_move _ rfl ⟨hI, Below.refl _ _, e12⟩
            · intro ev wt ht hc hg hf hI hd
              have e6 : ev (.tmp 6) = .pointer (some ⟨w3.heap.size, 0, none⟩) := ht 6 (by decide)
              have stt := STQ.out.later hI
              have yF := stt.cF
              have yL := stt.cL
              have yv := stt.oL.cell hvn
              rw [mapTo_ig hvn] at yv
              have yy := stt.oL.cell hyn
              rw [mapTo_ig hyn] at yy
              refine opok_gen fun N hN => ?_
              clear hd ht
              go_simp
              exact hN.out _ _ ⟨hI, Below.refl _ _, rfl⟩
            · intro ev wt ht hc hg hf hI hd
              have e11 : ev (.tmp 11) = .int .i64 (v : Int) := ht 11 (by decide)
              exact opok_move _ rfl ⟨hI, Below.refl _ _, e11⟩
            · intro ev wt ht hc hg hf hI hd
              have e52 : ev (.tmp 52) = _ := hd 2 52 rfl rfl
              have e53 : ev (.tmp 53) = _ := hd 3 53 rfl rfl
              refine opok_gen fun N hN => ?_
              clear hd ht
              go_simp
              exact hN.out _ _ ⟨hI, Below.refl _ _, rfl⟩
            · intro ev wt ht hc hg hf hI hd
              have e54 : ev (.tmp 54) = _ := hd 4 54 rfl rfl
              have stt := STQ.out.later hI
              have yF := stt.cF
              have yL := stt.cL
              have yv := stt.oL.cell hvn
              rw [mapTo_ig hvn] at yv
              have yy := stt.oL.cell hyn
              rw [mapTo_ig hyn] at yy
              refine opok_gen fun N hN => ?_
              clear hd ht
              go_simp
              exact hN.out _ _ ⟨hI, Below.refl _ _, rfl⟩
            · intro ev wt ht hc hg hf hI hd
              have e50 : ev (.tmp 50) = _ := hd 0 50 rfl rfl
              have e51 : ev (.tmp 51) = _ := hd 1 51 rfl rfl
              refine opok_gen fun N hN => ?_
              clear hd ht
              go_simp
              exact hN.out _ _ ⟨hI, Below.refl _ _, rfl⟩
          case hst =>
            refine fun j v w w' _ h1 h2 => StbL.nth (S := Grw) ?_ j v w w' h1 h2
            exact ⟨stb_eqv _, stb_eqv _, stb_eqv _, stb_eqv _, stb_eqv _, stb_eqv _, stb_eqv _, trivial⟩
          case hI => exact (Below.refl _ _).drew
          case hl =>
            rintro wt hI _ rfl _ rfl _ rfl _ rfl _ rfl _ rfl _ rfl
            simp only [Lasts, List.length_cons, List.length_nil, Nat.reduceAdd, List.drop_succ_cons, List.drop_zero, Act.put, List.setIfInBounds_toArray, List.set_cons_succ, List.set_cons_zero]
            have stt := STQ.out.later hI
            have frt := FRQ.out.below (by omega) (by omega) hI
            have xpt := (hI.block _ (Array.getElem?_eq_some_iff.1 XPQ.out).1).trans XPQ.out
            have yq := stt.oF.cell hqm
            have uq := stt.oF.unfrozen q
            have e1 := stt.h1
            have e2 := stt.h2
            have e3 := stt.h3
            have e4 := stt.h4
            have e5 := stt.h5
            have stu := stt.putF q (z := S.2 v) ⟨by omega, by omega⟩
            have fru := frt.put (b := w.heap.size + 1) (by omega) (by omega) (by omega) (by omega) q (.int .i64 (S.2 v))
            have xpu := (Below.heap_setCell wt ⟨w.heap.size + 1, q, none⟩ (.int .i64 (S.2 v)) Wa.heap.size (by show _ ≠ w.heap.size + 1; omega)).trans xpt
            obtain ⟨wu, hwu⟩ : ∃ wu, wu = wt.setCell ⟨w.heap.size + 1, q, none⟩ (.int .i64 (S.2 v)) := ⟨_, rfl⟩
            rw [← hwu] at stu fru xpu
            have HWU := Lib.hid hwu
            have n1u : wu.cell? ⟨Wa.heap.size, 1, none⟩ = some (.int .i64 (pp net.pipes q).to) := by rw [cell_blk xpu]; rfl
            have STU := Lib.hid stu
            have FRU := Lib.hid fru
            have XPU := Lib.hid xpu
            clear stt frt xpt stu fru xpu hwu STQ FRQ XPQ
            go_wp2_with fail
            rw [← HWU.out]
            clear HWU yq uq
            rcases hjo with ⟨ht, hf⟩ | ⟨ht, hf⟩
            · have g1 : ((pp net.pipes q).to == (v : Int)) = true := by rw [HT.out, ht]; simp
              have HFI : Hid ((if (netG net).f q = v then S.2 v else -(S.2 v)) = -(S.2 v)) := Lib.hid (by rw [if_neg hf])
              clear ht hf
              gi_wp2
              clear n1u g1
              refine any_round (fun ⟨_, _, h⟩ => h) (by kernel_rfl) (by kernel_rfl) ?_
              apply any_track [61, 62, 63, 64, 65, 66, 67, 68] [eqv _, eqv _, eqv _, eqv _, eqv _, eqv _, eqv _, eqv _]
                (fun wx => Below wu.heap.size wu wx) Grw (by kernel_rfl) rfl (by kernel_rfl)
              case hs =>
                refine ⟨?_, ?_, ?_, ?_, ?_, ?_, ?_, ?_, trivial⟩
                · intro ev wt ht hc hg hf hI hd
                  have hw1 := wrap_id (z := -(S.2 v)) ⟨by omega, by omega⟩
                  have e5 : ev (.tmp 5) = .pointer (some ⟨w1.heap.size, 0, none⟩) := ht 5 (by decide)
                  have stt := STU.out.later hI
                  have yF := stt.cF
                  have yL := stt.cL
                  have yv := stt.oL.cell hvn
                  rw [mapTo_ig hvn] at yv
                  have yy := stt.oL.cell hyn
                  rw [mapTo_ig hyn] at yy
                  refine opok_gen fun N hN => ?_
                  clear hd ht
                  go_simp
                  exact hN.out _ _ ⟨hI, Below.refl _ _, rfl⟩
                · intro ev wt ht hc hg hf hI hd
                  have hw1 := wrap_id (z := -(S.2 v)) ⟨by omega, by omega⟩
                  have e12 : ev (.tmp 12) = .int .i64 (q : Int) := ht 12 (by decide)
                  exact opok_move _ rfl ⟨hI, Below.refl _ _, e12⟩
                · intro ev wt ht hc hg hf hI hd
                  have hw1 := wrap_id (z := -(S.2 v)) ⟨by omega, by omega⟩
                  have e6 : ev (.tmp 6) = .pointer (some ⟨w3.heap.size, 0, none⟩) := ht 6 (by decide)
                  have stt := STU.out.later hI
                  have yF := stt.cF
                  have yL := stt.cL
                  have yv := stt.oL.cell hvn
                  rw [mapTo_ig hvn] at yv
                  have yy := stt.oL.cell hyn
                  rw [mapTo_ig hyn] at yy
                  refine opok_gen fun N hN => ?_
                  clear hd ht
                  go_simp
                  exact hN.out _ _ ⟨hI, Below.refl _ _, rfl⟩
                · intro ev wt ht hc hg hf hI hd
                  have hw1 := wrap_id (z := -(S.2 v)) ⟨by omega, by omega⟩
                  have e11 : ev (.tmp 11) = .int .i64 (v : Int) := ht 11 (by decide)
                  exact opok_move _ rfl ⟨hI, Below.refl _ _, e11⟩
                · intro ev wt ht hc hg hf hI hd
                  have hw1 := wrap_id (z := -(S.2 v)) ⟨by omega, by omega⟩
                  have e63 : ev (.tmp 63) = _ := hd 2 63 rfl rfl
                  have e64 : ev (.tmp 64) = _ := hd 3 64 rfl rfl
                  refine opok_gen fun N hN => ?_
                  clear hd ht
                  go_simp
                  exact hN.out _ _ ⟨hI, Below.refl _ _, rfl⟩
                · intro ev wt ht hc hg hf hI hd
                  have hw1 := wrap_id (z := -(S.2 v)) ⟨by omega, by omega⟩
                  have e65 : ev (.tmp 65) = _ := hd 4 65 rfl rfl
                  have stt := STU.out.later hI
                  have yF := stt.cF
                  have yL := stt.cL
                  have yv := stt.oL.cell hvn
                  rw [mapTo_ig hvn] at yv
                  have yy := stt.oL.cell hyn
                  rw [mapTo_ig hyn] at yy
                  refine opok_gen fun N hN => ?_
                  clear hd ht
                  go_simp
                  exact hN.out _ _ ⟨hI, Below.refl _ _, rfl⟩
                · intro ev wt ht hc hg hf hI hd
                  have hw1 := wrap_id (z := -(S.2 v)) ⟨by omega, by omega⟩
                  have e66 : ev (.tmp 66) = _ := hd 5 66 rfl rfl
                  refine opok_gen fun N hN => ?_
                  clear hd ht
                  go_simp
                  exact hN.out _ _ ⟨hI, Below.refl _ _, rfl⟩
                · intro ev wt ht hc hg hf hI hd
                  have hw1 := wrap_id (z := -(S.2 v)) ⟨by omega, by omega⟩
                  have e61 : ev (.tmp 61) = _ := hd 0 61 rfl rfl
                  have e62 : ev (.tmp 62) = _ := hd 1 62 rfl rfl
                  refine opok_gen fun N hN => ?_
                  clear hd ht
                  go_simp
                  exact hN.out _ _ ⟨hI, Below.refl _ _, rfl⟩
              case hst =>
                refine fun j v w w' _ h1 h2 => StbL.nth (S := Grw) ?_ j v w w' h1 h2
                exact ⟨stb_eqv _, stb_eqv _, stb_eqv _, stb_eqv _, stb_eqv _, stb_eqv _, stb_eqv _, stb_eqv _, trivial⟩
              case hI => exact (Below.refl _ _).drew
              case hl =>
                rintro wt hI _ rfl _ rfl _ rfl _ rfl _ rfl _ rfl _ rfl _ rfl
                simp only [Lasts, List.length_cons, List.length_nil, Nat.reduceAdd, List.drop_succ_cons, List.drop_zero, Act.put, List.setIfInBounds_toArray, List.set_cons_succ, List.set_cons_zero]
                have stt := STU.out.later hI
                have frt := FRU.out.below (by omega) (by omega) hI
                have xpt := (hI.block _ (Array.getElem?_eq_some_iff.1 XPU.out).1).trans XPU.out
                have yq := stt.oF.cell hqm
                have uq := stt.oF.unfrozen q
                have stu := stt.putF q (z := -(S.2 v)) ⟨by omega, by omega⟩
                rw [upd_upd] at stu
                have fru := frt.put (b := w.heap.size + 1) (by omega) (by omega) (by omega) (by omega) q (.int .i64 (-(S.2 v)))
                have xpu := (Below.heap_setCell wt ⟨w.heap.size + 1, q, none⟩ (.int .i64 (-(S.2 v))) Wa.heap.size (by show _ ≠ w.heap.size + 1; omega)).trans xpt
                obtain ⟨wv, hwv⟩ : ∃ wv, wv = wt.setCell ⟨w.heap.size + 1, q, none⟩ (.int .i64 (-(S.2 v))) := ⟨_, rfl⟩
                rw [← hwv] at stu fru xpu
                have HWV := Lib.hid hwv
                have STV := Lib.hid stu
                have FRV := Lib.hid fru
                have XPV := Lib.hid xpu
                clear stt frt xpt stu fru xpu hwv STU FRU XPU
                go_wp2_with fail
                rw [← HWV.out]
                clear HWV yq uq
                refine any_round (fun ⟨_, _, h⟩ => h) (by kernel_rfl) (by kernel_rfl) ?_
                apply any_track [69, 70, 71, 72, 73, 74, 75, 76, 77, 78, 79, 80] [eqv _, eqv _, eqv _, eqv _, eqv _, eqv _, eqv _, eqv _, eqv _, eqv _, eqv _, eqv _]
                  (fun wx => Below wv.heap.size wv wx) Grw (by kernel_rfl) rfl (by kernel_rfl)
                case hs =>
                  refine ⟨?_, ?_, ?_, ?_, ?_, ?_, ?_, ?_, ?_, ?_, ?_, ?_, trivial⟩
                  · intro ev wt ht hc hg hf hI hd
                    have hw1 := wrap_id (z := S.2 y + S.2 v) ⟨by omega, by omega⟩
                    have e6 : ev (.tmp 6) = .pointer (some ⟨w3.heap.size, 0, none⟩) := ht 6 (by decide)
                    have stt := STV.out.later hI
                    have yF := stt.cF
                    have yL := stt.cL
                    have yv := stt.oL.cell hvn
                    rw [mapTo_ig hvn] at yv
                    have yy := stt.oL.cell hyn
                    rw [mapTo_ig hyn] at yy
                    have xpt := (hI.block _ (Array.getElem?_eq_some_iff.1 XPV.out).1).trans XPV.out
                    have z0 := cell_blk xpt 0
                    have z1 := cell_blk xpt 1
                    have z2 := cell_blk xpt 2
                    have z3 := cell_blk xpt 3
                    have z4 := cell_blk xpt 4
                    simp at z0 z1 z2 z3 z4
                    clear xpt
                    refine opok_gen fun N hN => ?_
                    clear hd ht
                    go_simp
                    exact hN.out _ _ ⟨hI, Below.refl _ _, rfl⟩
                  · intro ev wt ht hc hg hf hI hd
                    have hw1 := wrap_id (z := S.2 y + S.2 v) ⟨by omega, by omega⟩
                    have e13 : ev (.tmp 13) = .pointer (some ⟨Wa.heap.size, 0, none⟩) := ht 13 (by decide)
                    have stt := STV.out.later hI
                    have yF := stt.cF
                    have yL := stt.cL
                    have yv := stt.oL.cell hvn
                    rw [mapTo_ig hvn] at yv
                    have yy := stt.oL.cell hyn
                    rw [mapTo_ig hyn] at yy
                    have xpt := (hI.block _ (Array.getElem?_eq_some_iff.1 XPV.out).1).trans XPV.out
                    have z0 := cell_blk xpt 0
                    have z1 := cell_blk xpt 1
                    have z2 := cell_blk xpt 2
                    have z3 := cell_blk xpt 3
                    have z4 := cell_blk xpt 4
                    simp at z0 z1 z2 z3 z4
                    clear xpt
                    refine opok_gen fun N hN => ?_
                    clear hd ht
                    go_simp
                    exact hN.out _ _ ⟨hI, Below.refl _ _, rfl⟩
                  · intro ev wt ht hc hg hf hI hd
                    have hw1 := wrap_id (z := S.2 y + S.2 v) ⟨by omega, by omega⟩
                    have e11 : ev (.tmp 11) = .int .i64 (v : Int) := ht 11 (by decide)
                    exact opok_move _ rfl ⟨hI, Below.refl _ _, e11⟩
                  · intro ev wt ht hc hg hf hI hd
                    have hw1 := wrap_id (z := S.2 y + S.2 v) ⟨by omega, by omega⟩
                    have e70 : ev (.tmp 70) = _ := hd 1 70 rfl rfl
                    have e71 : ev (.tmp 71) = _ := hd 2 71 rfl rfl
                    refine opok_gen fun N hN => ?_
                    clear hd ht
                    go_simp
                    refine (otherEnd_any _ (netG net) q v _ HF.out HT.out).mono ?_
                    rintro e w9 ⟨rfl, b9⟩
                    rw [hoy]
                    exact ⟨_, rfl, hN.out _ _ ⟨below_step hI b9, b9, rfl⟩⟩
                  · intro ev wt ht hc hg hf hI hd
                    have hw1 := wrap_id (z := S.2 y + S.2 v) ⟨by omega, by omega⟩
                    have e69 : ev (.tmp 69) = _ := hd 0 69 rfl rfl
                    have e72 : ev (.tmp 72) = _ := hd 3 72 rfl rfl
                    refine opok_gen fun N hN => ?_
                    clear hd ht
                    go_simp
                    exact hN.out _ _ ⟨hI, Below.refl _ _, rfl⟩
                  · intro ev wt ht hc hg hf hI hd
                    have hw1 := wrap_id (z := S.2 y + S.2 v) ⟨by omega, by omega⟩
                    have e73 : ev (.tmp 73) = _ := hd 4 73 rfl rfl
                    have stt := STV.out.later hI
                    have yF := stt.cF
                    have yL := stt.cL
                    have yv := stt.oL.cell hvn
                    rw [mapTo_ig hvn] at yv
                    have yy := stt.oL.cell hyn
                    rw [mapTo_ig hyn] at yy
                    have xpt := (hI.block _ (Array.getElem?_eq_some_iff.1 XPV.out).1).trans XPV.out
                    have z0 := cell_blk xpt 0
                    have z1 := cell_blk xpt 1
                    have z2 := cell_blk xpt 2
                    have z3 := cell_blk xpt 3
                    have z4 := cell_blk xpt 4
                    simp at z0 z1 z2 z3 z4
                    clear xpt
                    refine opok_gen fun N hN => ?_
                    clear hd ht
                    go_simp
                    exact hN.out _ _ ⟨hI, Below.refl _ _, rfl⟩
                  · intro ev wt ht hc hg hf hI hd
                    have hw1 := wrap_id (z := S.2 y + S.2 v) ⟨by omega, by omega⟩
                    have e6 : ev (.tmp 6) = .pointer (some ⟨w3.heap.size, 0, none⟩) := ht 6 (by decide)
                    have stt := STV.out.later hI
                    have yF := stt.cF
                    have yL := stt.cL
                    have yv := stt.oL.cell hvn
                    rw [mapTo_ig hvn] at yv
                    have yy := stt.oL.cell hyn
                    rw [mapTo_ig hyn] at yy
                    have xpt := (hI.block _ (Array.getElem?_eq_some_iff.1 XPV.out).1).trans XPV.out
                    have z0 := cell_blk xpt 0
                    have z1 := cell_blk xpt 1
                    have z2 := cell_blk xpt 2
                    have z3 := cell_blk xpt 3
                    have z4 := cell_blk xpt 4
                    simp at z0 z1 z2 z3 z4
                    clear xpt
                    refine opok_gen fun N hN => ?_
                    clear hd ht
                    go_simp
                    exact hN.out _ _ ⟨hI, Below.refl _ _, rfl⟩
                  · intro ev wt ht hc hg hf hI hd
                    have hw1 := wrap_id (z := S.2 y + S.2 v) ⟨by omega, by omega⟩
                    have e11 : ev (.tmp 11) = .int .i64 (v : Int) := ht 11 (by decide)
                    exact opok_move _ rfl ⟨hI, Below.refl _ _, e11⟩
                  · intro ev wt ht hc hg hf hI hd
                    have hw1 := wrap_id (z := S.2 y + S.2 v) ⟨by omega, by omega⟩
                    have e75 : ev (.tmp 75) = _ := hd 6 75 rfl rfl
                    have e76 : ev (.tmp 76) = _ := hd 7 76 rfl rfl
                    refine opok_gen fun N hN => ?_
                    clear hd ht
                    go_simp
                    exact hN.out _ _ ⟨hI, Below.refl _ _, rfl⟩
                  · intro ev wt ht hc hg hf hI hd
                    have hw1 := wrap_id (z := S.2 y + S.2 v) ⟨by omega, by omega⟩
                    have e77 : ev (.tmp 77) = _ := hd 8 77 rfl rfl
                    have stt := STV.out.later hI
                    have yF := stt.cF
                    have yL := stt.cL
                    have yv := stt.oL.cell hvn
                    rw [mapTo_ig hvn] at yv
                    have yy := stt.oL.cell hyn
                    rw [mapTo_ig hyn] at yy
                    have xpt := (hI.block _ (Array.getElem?_eq_some_iff.1 XPV.out).1).trans XPV.out
                    have z0 := cell_blk xpt 0
                    have z1 := cell_blk xpt 1
                    have z2 := cell_blk xpt 2
                    have z3 := cell_blk xpt 3
                    have z4 := cell_blk xpt 4
                    simp at z0 z1 z2 z3 z4
                    clear xpt
                    refine opok_gen fun N hN => ?_
                    clear hd ht
                    go_simp
                    exact hN.out _ _ ⟨hI, Below.refl _ _, rfl⟩
                  · intro ev wt ht hc hg hf hI hd
                    have hw1 := wrap_id (z := S.2 y + S.2 v) ⟨by omega, by omega⟩
                    have e74 : ev (.tmp 74) = _ := hd 5 74 rfl rfl
                    have e78 : ev (.tmp 78) = _ := hd 9 78 rfl rfl
                    refine opok_gen fun N hN => ?_
                    clear hd ht
                    go_simp
                    exact hN.out _ _ ⟨hI, Below.refl _ _, rfl⟩
                  · intro ev wt ht hc hg hf hI hd
                    have hw1 := wrap_id (z := S.2 y + S.2 v) ⟨by omega, by omega⟩
                    have e69 : ev (.tmp 69) = _ := hd 0 69 rfl rfl
                    have e72 : ev (.tmp 72) = _ := hd 3 72 rfl rfl
                    refine opok_gen fun N hN => ?_
                    clear hd ht
                    go_simp
                    exact hN.out _ _ ⟨hI, Below.refl _ _, rfl⟩
                case hst =>
                  refine fun j v w w' _ h1 h2 => StbL.nth (S := Grw) ?_ j v w w' h1 h2
                  exact ⟨stb_eqv _, stb_eqv _, stb_eqv _, stb_eqv _, stb_eqv _, stb_eqv _, stb_eqv _, stb_eqv _, stb_eqv _, stb_eqv _, stb_eqv _, stb_eqv _, trivial⟩
                case hI => exact (Below.refl _ _).drew
                case hl =>
                  rintro wt hI _ rfl _ rfl _ rfl _ rfl _ rfl _ rfl _ rfl _ rfl _ rfl _ rfl _ rfl _ rfl
                  simp only [Lasts, List.length_cons, List.length_nil, Nat.reduceAdd, List.drop_succ_cons, List.drop_zero, Act.put, List.setIfInBounds_toArray, List.set_cons_succ, List.set_cons_zero]
                  have stt := STV.out.later hI
                  have frt := FRV.out.below (by omega) (by omega) hI
                  have yq := stt.oL.cell hyn
                  have uq := stt.oL.unfrozen y
                  have stu := stt.putL y (z := S.2 y + S.2 v) ⟨by omega, by omega⟩
                  have fru := frt.put (b := bl) (by omega) (by omega) (by omega) (by omega) y (.int .i64 (S.2 y + S.2 v))
                  have STX := Lib.hid stu
                  have FRX := Lib.hid fru
                  clear stt frt stu fru
                  go_wp2_with fail
                  refine ⟨FRX.out.ko, FRX.out.kp, ?_, FRX.out.xs, FRX.out.oe, FRX.out.mrk, FRX.out.sz⟩
                  rw [HFS.out, HFI.out]
                  exact STX.out
            · have g1 : ((pp net.pipes q).to == (v : Int)) = false := by rw [HT.out]; simp; omega
              have HFI : Hid ((if (netG net).f q = v then S.2 v else -(S.2 v)) = S.2 v) := Lib.hid (by rw [if_pos hf])
              clear ht hf
              gi_wp2
              clear n1u g1
              refine any_round (fun ⟨_, _, h⟩ => h) (by kernel_rfl) (by kernel_rfl) ?_
              apply any_track [69, 70, 71, 72, 73, 74, 75, 76, 77, 78, 79, 80] [eqv _, eqv _, eqv _, eqv _, eqv _, eqv _, eqv _, eqv _, eqv _, eqv _, eqv _, eqv _]
                (fun wx => Below wu.heap.size wu wx) Grw (by kernel_rfl) rfl (by kernel_rfl)
              case hs =>
                refine ⟨?_, ?_, ?_, ?_, ?_, ?_, ?_, ?_, ?_, ?_, ?_, ?_, trivial⟩
                · intro ev wt ht hc hg hf hI hd
                  have hw1 := wrap_id (z := S.2 y + S.2 v) ⟨by omega, by omega⟩
                  have e6 : ev (.tmp 6) = .pointer (some ⟨w3.heap.size, 0, none⟩) := ht 6 (by decide)
                  have stt := STU.out.later hI
                  have yF := stt.cF
                  have yL := stt.cL
                  have yv := stt.oL.cell hvn
                  rw [mapTo_ig hvn] at yv
                  have yy := stt.oL.cell hyn
                  rw [mapTo_ig hyn] at yy
                  have xpt := (hI.block _ (Array.getElem?_eq_some_iff.1 XPU.out).1).trans XPU.out
                  have z0 := cell_blk xpt 0
                  have z1 := cell_blk xpt 1
                  have z2 := cell_blk xpt 2
                  have z3 := cell_blk xpt 3
                  have z4 := cell_blk xpt 4
                  simp at z0 z1 z2 z3 z4
                  clear xpt
                  refine opok_gen fun N hN => ?_
                  clear hd ht
                  go_simp
                  exact hN.out _ _ ⟨hI, Below.refl _ _, rfl⟩
                · intro ev wt ht hc hg hf hI hd
                  have hw1 := wrap_id (z := S.2 y + S.2 v) ⟨by omega, by omega⟩
                  have e13 : ev (.tmp 13) = .pointer (some ⟨Wa.heap.size, 0, none⟩) := ht 13 (by decide)
                  have stt := STU.out.later hI
                  have yF := stt.cF
                  have yL := stt.cL
                  have yv := stt.oL.cell hvn
                  rw [mapTo_ig hvn] at yv
                  have yy := stt.oL.cell hyn
                  rw [mapTo_ig hyn] at yy
                  have xpt := (hI.block _ (Array.getElem?_eq_some_iff.1 XPU.out).1).trans XPU.out
                  have z0 := cell_blk xpt 0
                  have z1 := cell_blk xpt 1
                  have z2 := cell_blk xpt 2
                  have z3 := cell_blk xpt 3
                  have z4 := cell_blk xpt 4
                  simp at z0 z1 z2 z3 z4
                  clear xpt
                  refine opok_gen fun N hN => ?_
                  clear hd ht
                  go_simp
                  exact hN.out _ _ ⟨hI, Below.refl _ _, rfl⟩
                · intro ev wt ht hc hg hf hI hd
                  have hw1 := wrap_id (z := S.2 y + S.2 v) ⟨by omega, by omega⟩
                  have e11 : ev (.tmp 11) = .int .i64 (v : Int) := ht 11 (by decide)
                  exact opok_move _ rfl ⟨hI, Below.refl _ _, e11⟩
                · intro ev wt ht hc hg hf hI hd
                  have hw1 := wrap_id (z := S.2 y + S.2 v) ⟨by omega, by omega⟩
                  have e70 : ev (.tmp 70) = _ := hd 1 70 rfl rfl
                  have e71 : ev (.tmp 71) = _ := hd 2 71 rfl rfl
                  refine opok_gen fun N hN => ?_
                  clear hd ht
                  go_simp
                  refine (otherEnd_any _ (netG net) q v _ HF.out HT.out).mono ?_
                  rintro e w9 ⟨rfl, b9⟩
                  rw [hoy]
                  exact ⟨_, rfl, hN.out _ _ ⟨below_step hI b9, b9, rfl⟩⟩
                · intro ev wt ht hc hg hf hI hd
                  have hw1 := wrap_id (z := S.2 y + S.2 v) ⟨by omega, by omega⟩
                  have e69 : ev (.tmp 69) = _ := hd 0 69 rfl rfl
                  have e72 : ev (.tmp 72) = _ := hd 3 72 rfl rfl
                  refine opok_gen fun N hN => ?_
                  clear hd ht
                  go_simp
                  exact hN.out _ _ ⟨hI, Below.refl _ _, rfl⟩
                · intro ev wt ht hc hg hf hI hd
                  have hw1 := wrap_id (z := S.2 y + S.2 v) ⟨by omega, by omega⟩
                  have e73 : ev (.tmp 73) = _ := hd 4 73 rfl rfl
                  have stt := STU.out.later hI
                  have yF := stt.cF
                  have yL := stt.cL
                  have yv := stt.oL.cell hvn
                  rw [mapTo_ig hvn] at yv
                  have yy := stt.oL.cell hyn
                  rw [mapTo_ig hyn] at yy
                  have xpt := (hI.block _ (Array.getElem?_eq_some_iff.1 XPU.out).1).trans XPU.out
                  have z0 := cell_blk xpt 0
                  have z1 := cell_blk xpt 1
                  have z2 := cell_blk xpt 2
                  have z3 := cell_blk xpt 3
                  have z4 := cell_blk xpt 4
                  simp at z0 z1 z2 z3 z4
                  clear xpt
                  refine opok_gen fun N hN => ?_
                  clear hd ht
                  go_simp
                  exact hN.out _ _ ⟨hI, Below.refl _ _, rfl⟩
                · intro ev wt ht hc hg hf hI hd
                  have hw1 := wrap_id (z := S.2 y + S.2 v) ⟨by omega, by omega⟩
                  have e6 : ev (.tmp 6) = .pointer (some ⟨w3.heap.size, 0, none⟩) := ht 6 (by decide)
                  have stt := STU.out.later hI
                  have yF := stt.cF
                  have yL := stt.cL
                  have yv := stt.oL.cell hvn
                  rw [mapTo_ig hvn] at yv
                  have yy := stt.oL.cell hyn
                  rw [mapTo_ig hyn] at yy
                  have xpt := (hI.block _ (Array.getElem?_eq_some_iff.1 XPU.out).1).trans XPU.out
                  have z0 := cell_blk xpt 0
                  have z1 := cell_blk xpt 1
                  have z2 := cell_blk xpt 2
                  have z3 := cell_blk xpt 3
                  have z4 := cell_blk xpt 4
                  simp at z0 z1 z2 z3 z4
                  clear xpt
                  refine opok_gen fun N hN => ?_
                  clear hd ht
                  go_simp
                  exact hN.out _ _ ⟨hI, Below.refl _ _, rfl⟩
                · intro ev wt ht hc hg hf hI hd
                  have hw1 := wrap_id (z := S.2 y + S.2 v) ⟨by omega, by omega⟩
                  have e11 : ev (.tmp 11) = .int .i64 (v : Int) := ht 11 (by decide)
                  exact opok_move _ rfl ⟨hI, Below.refl _ _, e11⟩
                · intro ev wt ht hc hg hf hI hd
                  have hw1 := wrap_id (z := S.2 y + S.2 v) ⟨by omega, by omega⟩
                  have e75 : ev (.tmp 75) = _ := hd 6 75 rfl rfl
                  have e76 : ev (.tmp 76) = _ := hd 7 76 rfl rfl
                  refine opok_gen fun N hN => ?_
                  clear hd ht
                  go_simp
                  exact hN.out _ _ ⟨hI, Below.refl _ _, rfl⟩
                · intro ev wt ht hc hg hf hI hd
                  have hw1 := wrap_id (z := S.2 y + S.2 v) ⟨by omega, by omega⟩
                  have e77 : ev (.tmp 77) = _ := hd 8 77 rfl rfl
                  have stt := STU.out.later hI
                  have yF := stt.cF
                  have yL := stt.cL
                  have yv := stt.oL.cell hvn
                  rw [mapTo_ig hvn] at yv
                  have yy := stt.oL.cell hyn
                  rw [mapTo_ig hyn] at yy
                  have xpt := (hI.block _ (Array.getElem?_eq_some_iff.1 XPU.out).1).trans XPU.out
                  have z0 := cell_blk xpt 0
                  have z1 := cell_blk xpt 1
                  have z2 := cell_blk xpt 2
                  have z3 := cell_blk xpt 3
                  have z4 := cell_blk xpt 4
                  simp at z0 z1 z2 z3 z4
                  clear xpt
                  refine opok_gen fun N hN => ?_
                  clear hd ht
                  go_simp
                  exact hN.out _ _ ⟨hI, Below.refl _ _, rfl⟩
                · intro ev wt ht hc hg hf hI hd
                  have hw1 := wrap_id (z := S.2 y + S.2 v) ⟨by omega, by omega⟩
                  have e74 : ev (.tmp 74) = _ := hd 5 74 rfl rfl
                  have e78 : ev (.tmp 78) = _ := hd 9 78 rfl rfl
                  refine opok_gen fun N hN => ?_
                  clear hd ht
                  go_simp
                  exact hN.out _ _ ⟨hI, Below.refl _ _, rfl⟩
                · intro ev wt ht hc hg hf hI hd
                  have hw1 := wrap_id (z := S.2 y + S.2 v) ⟨by omega, by omega⟩
                  have e69 : ev (.tmp 69) = _ := hd 0 69 rfl rfl
                  have e72 : ev (.tmp 72) = _ := hd 3 72 rfl rfl
                  refine opok_gen fun N hN => ?_
                  clear hd ht
                  go_simp
                  exact hN.out _ _ ⟨hI, Below.refl _ _, rfl⟩
              case hst =>
                refine fun j v w w' _ h1 h2 => StbL.nth (S := Grw) ?_ j v w w' h1 h2
                exact ⟨stb_eqv _, stb_eqv _, stb_eqv _, stb_eqv _, stb_eqv _, stb_eqv _, stb_eqv _, stb_eqv _, stb_eqv _, stb_eqv _, stb_eqv _, stb_eqv _, trivial⟩
              case hI => exact (Below.refl _ _).drew
              case hl =>
                rintro wt hI _ rfl _ rfl _ rfl _ rfl _ rfl _ rfl _ rfl _ rfl _ rfl _ rfl _ rfl _ rfl
                simp only [Lasts, List.length_cons, List.length_nil, Nat.reduceAdd, List.drop_succ_cons, List.drop_zero, Act.put, List.setIfInBounds_toArray, List.set_cons_succ, List.set_cons_zero]
                have stt := STU.out.later hI
                have frt := FRU.out.below (by omega) (by omega) hI
                have yq := stt.oL.cell hyn
                have uq := stt.oL.unfrozen y
                have stu := stt.putL y (z := S.2 y + S.2 v) ⟨by omega, by omega⟩
                have fru := frt.put (b := bl) (by omega) (by omega) (by omega) (by omega) y (.int .i64 (S.2 y + S.2 v))
                have STX := Lib.hid stu
                have FRX := Lib.hid fru
                clear stt frt stu fru
                go_wp2_with fail
                refine ⟨FRX.out.ko, FRX.out.kp, ?_, FRX.out.xs, FRX.out.oe, FRX.out.mrk, FRX.out.sz⟩
                rw [HFS.out, HFI.out]
                exact STX.out
    · have hcb : ((netG net).comp k != (k : Int)) = true := by simp [hc]
      have hbn := Gr.cmp_bnd (g := netG net) (netG net).n k
      rw [show (netG net).cmp (netG net).n k = (netG net).comp k from rfl] at hbn
      have HK : Hid ((netG net).fsK false (fun _ => 0, ig zs) (k + 1) = (netG net).fsK false (fun _ => 0, ig zs) k) := Lib.hid (by show (if (netG net).comp k = k then _ else _) = _; rw [if_neg hc])
      rw [← HK.out] at st
      clear hc HK
      have ST := Lib.hid st
      clear st
      go_wp2_with fail
      exact ⟨⟨k + 1, Ds, _, _, _, _, _, _, _, _, _, _, _, _, _, _, _, _, _, _, by omega, ST.out, mk, by simp only [Int.natCast_add, Int.cast_ofNat_Int]; rfl⟩, by simp [intOf]; omega⟩
  · have hkl : l = k := by omega
    have HFF : Hid (mapTo m ((netG net).fsK false (fun _ => 0, ig zs) k).1 = mapTo m ((netG net).ffl (ig zs))) := Lib.hid (by
      have := Gr.fsK_ffl (z := false) (sup := ig zs) ok.g
      rw [HNn.out, HMm.out, hkl] at this; exact this)
    have kF := st.cF
    have ST := Lib.hid st
    have MK := Lib.hid mk
    clear hkl st mk
    go_wp2_with fail
    refine leaves_marks (B := w.heap.size) Ds _ MK.out.1 MK.out.2 ?_
    intro Wz hbz hkz
    refine ⟨_, results_tmp rfl _ _ _, some ⟨w.heap.size + 1, 0, none⟩, rfl, ?_, (fun a ha => by injection ha with ha; subst ha; show w.heap.size ≤ w.heap.size + 1; omega), ST.out.bel.trans hbz⟩
    rw [← HFF.out]
    refine ST.out.oF.keep fun a ha => ?_
    obtain ⟨o, ho, hc⟩ := own_obj ST.out.oF a ha
    rw [hkz _ _ ho hc, ho]

end Go.Proofs.Ytioiebjgjimeiaa
