/- the path from a to b along the entries of the search from a: the reference -/
import Derived.Test.YtllblmndoigdlaaH9
import Derived.Test.YtllblmndoigdlaaJ4
import Derived.Test.YtllblmndoigdlaaQa
import Derived.Test.YtllblmndoigdlaaK2
namespace Go.Proofs.Ytllblmndoigdlaa
open Go.RowKit

theorem Gr.Back.len {g : Gr} (ok : g.ok) {a x b : Nat} {l : List Nat} (ha : a < g.n) (h : g.Back a x l b) : l.length ≤ g.m :=
  nodup_len h.nodup fun i hi => by
    obtain ⟨y, _, _, _, e⟩ := h.later i hi
    exact Gr.ent_lt ok ha e
theorem nl_cons (p : Nat) (l : List Nat) : nl (p :: l) = (p : Int) :: nl l := rfl

set_option maxRecDepth 100000 in
set_option maxHeartbeats 4000000 in
theorem l04Path_any (A : Option Addr) (n c : Nat) (B : Option Addr) (m d : Nat) (net : Net) (x y : Nat) (w : World) (h : NetAt w A n c B m d net) (ok : NetOK net) (hx : x < n) (hy : y ∈ (netG net).ord x) :
    Calls Try.prog 121 #[.agg #[.slice A n c, .slice B m d], .int .i64 (x : Int), .int .i64 (y : Int)] w fun e w' => ∃ (l : List Nat) (Ap : Option Addr) (cp : Nat), e = .returned (.slice Ap l.length cp) ∧ l.length ≤ m ∧ (netG net).Path x l y ∧ Own w' Ap l.length cp (nl l) ∧ Fresh w.heap.size Ap ∧ Below w.heap.size w w' := by
  have hn24 : n ≤ 24 := by have := ok.n24; have := h.nodes.len; omega
  have hm40 : m ≤ 40 := by have := ok.m40; have := h.pipes.len; omega
  have HNn : Hid ((netG net).n = n) := Lib.hid h.nodes.len
  have HMm : Hid ((netG net).m = m) := Lib.hid h.pipes.len
  have HY := Lib.hid hy
  clear hy
  have HB := Lib.hid (bel1 w (.cells #[.slice A n c, .slice B m d] 27))
  have bx0 : BX (w.alloc (.cells #[.slice A n c, .slice B m d] 27)) w.heap.size A n c B m d := ⟨heap_alloc_new w _⟩
  obtain ⟨W, hW⟩ : ∃ W, W = w.alloc (.cells #[.slice A n c, .slice B m d] 27) := ⟨_, rfl⟩
  have hWs : W.heap.size = w.heap.size + 1 := by rw [hW]; simp
  go_enter Try.func121, Try.ntmps121
  go_wp2_with fail
  rw [← hW] at bx0 HB ⊢
  refine (l04Search_any _ _ _ _ _ _ net x _ (h.later HB.out) ok hx).mono ?_
  rintro e w1 ⟨Ao, lo, co, Ae, rfl, _, oe, _, fe, b1⟩
  clear hW
  have o0 := own_lit0 w1
  have bx1 := bx0.step b1
  have T1 := Lib.hid (below_step HB.out b1)
  have hw1 := T1.out.size
  clear b1 bx0
  go_wp2_with fail
  go_loopw [9, 10] (fun o i wr => ∃ (v : Nat) (l : List Nat) (gp cp : Nat), v < n ∧ o = .slice (some ⟨gp, 0, none⟩) l.length cp ∧ i = .int .i64 v ∧ Hid ((netG net).Back x v l y) ∧ Own wr (some ⟨gp, 0, none⟩) l.length cp (nl l) ∧ w1.heap.size ≤ gp ∧ Below w1.heap.size w1 wr) (fun _ i _ => ((netG net).ord x).idxOf (intOf i).toNat)
  case atStart => exact ⟨y, [], w1.heap.size, 0, by have := Gr.ord_lt ok.g (r := x) (by rw [HNn.out]; exact hx) y HY.out; rw [HNn.out] at this; exact this, rfl, rfl, Lib.hid (Gr.Back.start HY.out), o0, Nat.le_refl _, bel1 _ _⟩
  case round =>
    obtain ⟨v, l, gp, cp, hv, rfl, rfl, hB, op, fp, hb⟩ := hrel
    clear o0
    have hl := hB.out.len ok.g (by rw [HNn.out]; exact hx)
    rw [HMm.out] at hl
    by_cases hvx : v = x
    · subst hvx
      have hne : ((v : Int) != (v : Int)) = false := by simp
      have HP := Lib.hid hB.out.path
      go_wp2_with fail
      go_ret
      exact ⟨l, some ⟨gp, 0, none⟩, cp, rfl, hl, HP.out, op, (fun a ha => by injection ha with ha; subst ha; show w.heap.size ≤ gp; omega), below_step T1.out hb⟩
    · have hne : ((v : Int) != (x : Int)) = true := by simp; omega
      obtain ⟨p, hent, hpm, hpt, hB2, hidx⟩ := hB.out.step ok.g (by rw [HNn.out]; exact hx) hvx
      rw [HMm.out] at hpm
      obtain ⟨z, hz⟩ : ∃ z, (netG net).oth p v = z := ⟨_, rfl⟩
      rw [hz] at hB2 hidx
      have hzn : z < n := by have := Gr.ord_lt ok.g (r := x) (by rw [HNn.out]; exact hx) z hB2.mem; rw [HNn.out] at this; exact this
      have HB2 := Lib.hid hB2
      have HPT := Lib.hid hpt
      have HZ := Lib.hid hz
      have HI := Lib.hid hidx
      have oe1 := oe.later hb
      obtain ⟨ge, rfl, hge⟩ := oe1.pos (by omega)
      have ce := oe1.cell hv
      rw [mapTo_ig hv, hent] at ce
      clear hvx hB hB2 hpt hz hidx hent
      have ol := own_lit wr (p : Int) ⟨by omega, by omega⟩
      have op2 := op.later (bel1 wr (.cells #[.int .i64 (p : Int)] 2))
      have bxr := bx1.step hb
      have hbs := hb.size
      go_wp2_with (at_builtin; refine law_appendL _ rfl _ _ rfl _ _ _ _ rfl ol _ _ _ _ rfl op2.ints (by omega) ?_; rintro v' w2 ⟨A2, c2, rfl, o2, hb2⟩ hg2)
      have b2 : Below wr.heap.size wr w2 := (bel1 wr _).grown hg2 (by simp) (fun i hi => by simp at hi; omega)
      rw [Nat.add_comm, show [(p : Int)] ++ nl l = nl (p :: l) from rfl] at o2
      obtain ⟨g2, rfl, hg2'⟩ := o2.pos (by omega)
      have hg3 : w1.heap.size ≤ g2 := by
        rcases hb2 with hb2 | hb2
        · simp at hb2; omega
        · simp at hb2; omega
      have hbw2 := below_step hb b2
      have bx2 := bxr.step b2
      have ce2 := (b2.cell (p := ⟨ge, v, none⟩) hge).trans ce
      have z0 := bx2.c0
      have z1 := bx2.c1
      clear ol op2 bxr oe1 ce op hb2 hg2 hb b2
      rw [show 1 + l.length = (p :: l).length by rw [List.length_cons, Nat.add_comm]]
      rw [show l.length + 1 = (p :: l).length from rfl] at o2
      go_wp2_with fail
      go_still_tail 6, (by kernel_rfl)
      change wpList _ _ _ _ _ w2.drew
      go_wp2_with fail
      refine (l02Other_any _ _ _ _ _ _ net p v _ (h.later (below_step T1.out hbw2.drew)) ok hpm HPT.out).mono ?_
      rintro e w5 ⟨rfl, b5'⟩
      have b5 : Below w2.heap.size w2 w5 := (Below.refl _ _).drew.trans b5'
      rw [HZ.out]
      have o5 := o2.later b5
      have hb5 := below_step hbw2 b5
      clear b5' z0 z1 ce2 o2 bx2 hbw2
      go_wp2_with fail
      go_roundw
      case rel => exact ⟨z, p :: l, g2, c2, hzn, rfl, rfl, HB2, o5, hg3, hb5⟩
      case measure => have := HI.out; simp [intOf]; exact this

end Go.Proofs.Ytllblmndoigdlaa

/- the cycle of a chord: the reference -/
namespace Go.Proofs.Ytllblmndoigdlaa
open Go.RowKit

/-- how far the reference has come along the path in the tree -/
structure Gr.Pst (g : Gr) (l : List Nat) (c b i : Nat) (s : Nat × (Nat → Int)) : Prop where
  st : s = g.psts (g.t c, upd (fun _ => 0) c 1) (l.take i)
  ch : g.tree.chain s.1 (l.drop i) b
theorem Gr.Pst.start {g : Gr} {l : List Nat} {c b : Nat} (h : g.tree.chain (g.t c) l b) : g.Pst l c b 0 (g.t c, upd (fun _ => 0) c 1) := ⟨rfl, h⟩
theorem Gr.Pst.step {g : Gr} {l : List Nat} {c b i p : Nat} {s : Nat × (Nat → Int)} (h : g.Pst l c b i s) (hp : l[i]? = some p) :
    p < g.forest.length ∧ (g.tree.f p = s.1 ∨ g.tree.t p = s.1) ∧ g.Pst l c b (i + 1) (g.pst s p) := by
  obtain ⟨hi, hpi⟩ := List.getElem?_eq_some_iff.1 hp
  have hc := h.ch
  rw [List.drop_eq_getElem_cons hi, hpi] at hc
  obtain ⟨h1, h2, h3⟩ := hc
  refine ⟨h1, h2, ⟨?_, h3⟩⟩
  rw [List.take_add_one, hp, Option.toList_some, Gr.psts_snoc, ← h.st]
theorem psts_unit {g : Gr} : ∀ (l : List Nat) (s : Nat × (Nat → Int)), (∀ e, unit (s.2 e)) → ∀ e, unit ((g.psts s l).2 e) := by
  intro l
  induction l with
  | nil => exact fun s h => h
  | cons p l ih =>
    intro s h
    refine ih (g.pst s p) fun e => ?_
    show unit (upd s.2 (g.idx p) (if g.tree.f p = s.1 then 1 else -1) e)
    unfold upd
    split
    · split
      · exact .inr (.inr rfl)
      · exact .inl rfl
    · exact h e

set_option maxRecDepth 100000 in
set_option maxHeartbeats 4000000 in
theorem l05Cycle_any (A : Option Addr) (n c : Nat) (B : Option Addr) (m d : Nat) (net : Net) (q : Nat) (w : World) (h : NetAt w A n c B m d net) (ok : NetOK net) (hq : q ∈ (netG net).chords) :
    Calls Try.prog 81 #[.agg #[.slice A n c, .slice B m d], .int .i64 (q : Int)] w fun e w' => ∃ Ac, e = .returned (.slice Ac m m) ∧ Own w' Ac m m (cycL net q) ∧ Fresh w.heap.size Ac ∧ Below w.heap.size w w' := by
  have hn24 : n ≤ 24 := by have := ok.n24; have := h.nodes.len; omega
  have hm40 : m ≤ 40 := by have := ok.m40; have := h.pipes.len; omega
  have HNn : Hid ((netG net).n = n) := Lib.hid h.nodes.len
  have HMm : Hid ((netG net).m = m) := Lib.hid h.pipes.len
  have hqm : q < m := by have := (Gr.mem_chords.1 hq).1; rw [HMm.out] at this; exact this
  have HQ := Lib.hid hq
  clear hq
  have hpl : q < net.pipes.length := by rw [h.pipes.len]; exact hqm
  obtain ⟨fn, hfn⟩ : ∃ fn, (netG net).f q = fn := ⟨_, rfl⟩
  obtain ⟨tn, htn⟩ : ∃ tn, (netG net).t q = tn := ⟨_, rfl⟩
  have og := ok.g q (by rw [HMm.out]; exact hqm)
  rw [HNn.out, hfn, htn] at og
  obtain ⟨hf1, ht1, hft⟩ := og
  have efr : (pp net.pipes q).fr = (fn : Int) := by rw [ok.fr hpl, hfn]
  have eto : (pp net.pipes q).to = (tn : Int) := by rw [ok.to hpl, htn]
  have HEN : Hid ((netG net).f q = fn ∧ (netG net).t q = tn) := Lib.hid ⟨hfn, htn⟩
  have HRE : Hid (fn ∈ (netG net).tree.ord tn) := Lib.hid (Gr.tree_reach ok.g (by rw [HNn.out]; exact ht1) (by rw [HNn.out]; exact hf1) (by rw [← hfn, ← htn]; exact (Gr.root_pipe ok.g (by rw [HMm.out]; exact hqm)).symm))
  clear hfn htn
  have HB := Lib.hid (bel1 w (.cells #[.slice A n c, .slice B m d] 27))
  have bx0 : BX (w.alloc (.cells #[.slice A n c, .slice B m d] 27)) w.heap.size A n c B m d := ⟨heap_alloc_new w _⟩
  obtain ⟨bp, offp, rfl, hblp, hcp⟩ := h.pipes.cells (by omega)
  obtain ⟨p0, p1, _, _, _⟩ := hcp q hqm
  rw [efr] at p0
  rw [eto] at p1
  clear hcp efr eto
  go_enter Try.func81, Try.ntmps81
  go_wp2_with (at_make; refine law_make _ rfl _ _ rfl m _ _ rfl rfl rfl rfl (by omega) ?_; intro w1 o1 b1 z1; rw [World.size_alloc] at o1; have t1 := below_step HB.out b1; have t2 := t1.setCell (p := ⟨w.heap.size + 1, q, none⟩) (by show w.heap.size ≤ w.heap.size + 1; omega) (.int .i64 1); have o2 := o1.store q (z := 1) ⟨by decide, by decide⟩; have x1 := bx0.step b1; have x2 : BX (w1.setCell ⟨w.heap.size + 1, q, none⟩ (.int .i64 1)) w.heap.size A n c (some ⟨bp, offp, none⟩) m d := ⟨(Below.heap_setCell w1 _ _ _ (by show w.heap.size ≠ w.heap.size + 1; omega)).trans x1.box⟩; have k2 := x2.c0; have k3 := x2.c1; have c1 := o1.cell hqm; have u1 := o1.unfrozen q; have T2 := Lib.hid t2; have O2 := Lib.hid o2; have X2 := Lib.hid x2; clear t1 t2 o1 o2 x1 x2 b1 z1)
  obtain ⟨W2, hW2⟩ : ∃ W2, W2 = w1.setCell ⟨w.heap.size + 1, q, none⟩ (.int .i64 1) := ⟨_, rfl⟩
  rw [← hW2] at T2 O2 X2 ⊢
  clear hW2 k2 k3 c1 u1
  have o2 : Own W2 (some ⟨w.heap.size + 1, 0, none⟩) m m (mapTo m (upd (fun _ => 0) q 1)) := by rw [← mapTo_upd, mapTo_const]; exact O2.out
  clear O2
  refine (l05Tree_any _ _ _ _ _ _ net _ (h.later T2.out) ok).mono ?_
  rintro e w3 ⟨Ap, cp, Af, cf, rfl, op, of, fp, ff, b3⟩
  obtain ⟨M, hMl⟩ : ∃ M, (netG net).forest.length = M := ⟨_, rfl⟩
  have hM40 : M ≤ 40 := by have := Gr.forK_len (netG net) (netG net).m; unfold Gr.forest at hMl; have := HMm.out; omega
  rw [hMl] at op of ⊢
  have HML := Lib.hid hMl
  clear hMl
  have b4 := bel1 w3 (.cells #[.slice A n c, .slice Ap M cp] 27)
  have hw4s : (w3.alloc (.cells #[.slice A n c, .slice Ap M cp] 27)).heap.size = w3.heap.size + 1 := by simp
  have bt4 : BX (w3.alloc (.cells #[.slice A n c, .slice Ap M cp] 27)) w3.heap.size A n c Ap M cp := ⟨heap_alloc_new w3 _⟩
  have x4 := (X2.out.step b3).step b4
  have t4 := below_step (below_step T2.out b3) b4
  have o4 := (o2.later b3).later b4
  have op4 := op.later b4
  have of4 := of.later b4
  have q1 := (t4.cell (p := ⟨bp, offp + q * 5 + 1, none⟩) hblp).trans p1
  have q2 := (t4.cell (p := ⟨bp, offp + q * 5, none⟩) hblp).trans p0
  have k1 := x4.c1
  have j0 := bt4.c0
  have j1 := bt4.c1
  have lt2 := o2.lt _ rfl
  have lt3 := b3.size
  simp only at lt2
  have ltP := op.lt
  have ltF := of.lt
  clear o2 op of b4
  go_wp2_with fail
  obtain ⟨w4, hw4⟩ : ∃ w4, w4 = w3.alloc (.cells #[.slice A n c, .slice Ap M cp] 27) := ⟨_, rfl⟩
  rw [← hw4] at bt4 x4 t4 o4 op4 of4 q1 q2 k1 j0 j1 hw4s ⊢
  clear hw4
  go_still_tail 8, (by kernel_rfl)
  change wpList _ _ _ _ _ w4.drew
  go_wp2_with fail
  have nt4 : NetAt w4.drew A n c Ap M cp (treeN net) := ⟨h.nodes.later (by exact t4.drew), (op4.later (Below.refl _ _).drew).pipes⟩
  refine (l04Path_any _ _ _ _ _ _ (treeN net) tn fn _ nt4 (treeN_ok ok) ht1 (by rw [treeN_g]; exact HRE.out)).mono ?_
  rintro e w5 ⟨l, Al, cl, rfl, hlM, hpath, ol, fl, b5'⟩
  rw [treeN_g] at hpath
  have b5 : Below w4.heap.size w4 w5 := (Below.refl _ _).drew.trans b5'
  have HPA := Lib.hid hpath
  have x5 := x4.step b5
  have bt5 := bt4.step b5
  have t5 := below_step t4 b5
  have o5 := o4.later b5
  have OP := Lib.hid (op4.later b5)
  have OF := Lib.hid (of4.later b5)
  have fl4 : Fresh w4.heap.size Al := fl
  have ltL := ol.lt
  have OL := Lib.hid ol
  clear b5' x4 bt4 t4 o4 op4 of4 q1 q2 k1 j0 j1 nt4 hpath ol
  have HST : Hid ((netG net).Pst l q fn 0 (tn, upd (fun _ => 0) q 1)) := Lib.hid (by
    have := Gr.Pst.start (g := netG net) (c := q) (by rw [HEN.out.2]; exact HPA.out.chain)
    rw [HEN.out.2] at this; exact this)
  go_wp2_with fail
  go_loopw [8, 10] (fun a i wr => ∃ (k : Nat) (s : Nat × (Nat → Int)), k ≤ l.length ∧ a = .int .i64 s.1 ∧ i = .int .i64 k ∧ Hid ((netG net).Pst l q fn k s) ∧ Own wr (some ⟨w.heap.size + 1, 0, none⟩) m m (mapTo m s.2) ∧ w5.grownBy wr (some (w.heap.size + 1)) ∧ Below w.heap.size w wr) (fun _ i _ => l.length - (intOf i).toNat)
  case atStart => exact ⟨0, (tn, upd (fun _ => 0) q 1), by omega, rfl, rfl, HST, o5, World.grownBy.refl _ _, t5⟩
  case round =>
    obtain ⟨k, s, hk, rfl, rfl, hP, oo, hg, hb⟩ := hrel
    clear o5 HST
    by_cases hlt : k < l.length
    · obtain ⟨p, hp⟩ : ∃ p, l[k]? = some p := ⟨_, List.getElem?_eq_getElem hlt⟩
      obtain ⟨hpM, hpt, hP2⟩ := hP.out.step hp
      rw [HML.out] at hpM
      have hpf : p < (netG net).forest.length := by rw [HML.out]; exact hpM
      obtain ⟨z, hz⟩ : ∃ z, (netG net).idx p = z := ⟨_, rfl⟩
      have hzm : z < m := by have := (Gr.idx_mem hpf).1; rw [hz, HMm.out] at this; exact this
      obtain ⟨y, hy⟩ : ∃ y, (netG net).tree.oth p s.1 = y := ⟨_, rfl⟩
      obtain ⟨sg, hsg⟩ : ∃ sg : Int, (if (netG net).tree.f p = s.1 then (1 : Int) else -1) = sg := ⟨_, rfl⟩
      have hpst : (netG net).pst s p = (y, upd s.2 z sg) := by unfold Gr.pst; rw [hy, hz, hsg]
      rw [hpst] at hP2
      have HP2 := Lib.hid hP2
      have HPT : Hid ((netG (treeN net)).f p = s.1 ∨ (netG (treeN net)).t p = s.1) := Lib.hid (by rw [treeN_g]; exact hpt)
      clear hpt
      have HY := Lib.hid hy
      have ol := OL.out.off hg (fun a ha => by have := fl4 a ha; omega)
      have of := OF.out.off hg (fun a ha => by have := ff a ha; omega)
      have op := OP.out.keep (w' := wr) fun a ha => hg.block _ (OP.out.lt a ha) (fun e => by injection e with e; have := fp a ha; omega)
      have btr : BX wr w3.heap.size A n c Ap M cp := ⟨(hg.block _ bt5.lt (fun e => by injection e with e; omega)).trans bt5.box⟩
      obtain ⟨gl, rfl, hgl⟩ := ol.pos (by omega)
      obtain ⟨gf, rfl, hgf⟩ := of.pos (by omega)
      obtain ⟨gp, rfl, hgp⟩ := op.pos (by omega)
      have cl1 := ol.cell hlt
      rw [nl_ig hlt, (List.getElem?_eq_some_iff.1 hp).2] at cl1
      have cf1 := of.cell hpM
      rw [nl_ig hpf, ← Gr.idx_lt hpf, hz] at cf1
      have cp1 := (op.cell hpM).1
      rw [(treeN_ok ok).fr (by show p < (treeN net).pipes.length; rw [op.len]; exact hpM), treeN_g] at cp1
      have j0 := btr.c0
      have j1 := btr.c1
      have co := oo.cell hzm
      have uo := oo.unfrozen z
      have hfl := ff _ rfl
      have hfp := fp _ rfl
      simp only at hfl hfp
      have hgl2 := fl4 _ rfl
      simp only at hgl2
      by_cases hsf : (netG net).tree.f p = s.1
      · have hne : (((netG net).tree.f p : Int) != (s.1 : Int)) = false := by simp [hsf]
        have hs1 : sg = 1 := by rw [← hsg, if_pos hsf]
        subst hs1
        clear hsf hsg
        generalize (netG net).tree.f p = F at *
        go_wp2_with fail
        go_quiet (fail)
        go_wp2_with fail
        have b9 := below_drew (Below.refl wr.heap.size wr) nq
        generalize wr.drewN nq = wr9 at *
        have hg9 := grown_alloc hg b9
        have hb9 := below_step hb b9
        have o2 := (oo.later b9).store z (z := 1) ⟨by decide, by decide⟩
        rw [mapTo_upd] at o2
        have g2 := grown_put (j := z) hg9 (.int .i64 (1))
        have hb2 := hb9.setCell (p := ⟨w.heap.size + 1, z, none⟩) (by show w.heap.size ≤ w.heap.size + 1; omega) (.int .i64 (1))
        have op2 := OP.out.keep (w' := wr9.setCell ⟨w.heap.size + 1, z, none⟩ (.int .i64 (1))) fun a ha => g2.block _ (OP.out.lt a ha) (fun e => by injection e with e; have := fp a ha; omega)
        have ol2 := OL.out.off g2 (fun a ha => by have := fl4 a ha; omega)
        have btr2 : BX (wr9.setCell ⟨w.heap.size + 1, z, none⟩ (.int .i64 (1))) w3.heap.size A n c (some ⟨gp, 0, none⟩) M cp := ⟨(g2.block _ bt5.lt (fun e => by injection e with e; omega)).trans bt5.box⟩
        have cl2 := ol2.cell hlt
        rw [nl_ig hlt, (List.getElem?_eq_some_iff.1 hp).2] at cl2
        have y0 := btr2.c0
        have y1 := btr2.c1
        have nt2 : NetAt (wr9.setCell ⟨w.heap.size + 1, z, none⟩ (.int .i64 (1))).drew A n c (some ⟨gp, 0, none⟩) M cp (treeN net) := ⟨h.nodes.later (by exact hb2.drew), (op2.later (Below.refl _ _).drew).pipes⟩
        have O2 := Lib.hid o2
        have G2 := Lib.hid g2
        have HB2 := Lib.hid hb2
        have NT := Lib.hid nt2
        clear o2 g2 hb2 op2 ol2 btr2 nt2 oo hg hb hg9 hb9 b9 cl1 cf1 cp1 j0 j1 co uo ol of op btr
        generalize (wr9.setCell ⟨w.heap.size + 1, z, none⟩ (.int .i64 (1))) = wz at *
        go_still_tail 6, (by kernel_rfl)
        change wpList _ _ _ _ _ wz.drew
        go_wp2_with fail
        refine (l02Other_any _ _ _ _ _ _ (treeN net) p s.1 _ NT.out (treeN_ok ok) hpM HPT.out).mono ?_
        rintro e w6 ⟨rfl, b6'⟩
        have b6 : Below wz.heap.size wz w6 := (Below.refl _ _).drew.trans b6'
        rw [treeN_g, HY.out]
        have o6 := O2.out.later b6
        have g6 := grown_alloc G2.out b6
        have hb6 := below_step HB2.out b6
        clear b6' cl2 y0 y1 O2 G2 HB2 NT
        go_wp2_with fail
        go_roundw
        case rel => exact ⟨k + 1, (y, upd s.2 z (1)), by omega, rfl, by go_num, HP2, o6, g6, hb6⟩
        case measure => simp [intOf]; omega
      · have hne : (((netG net).tree.f p : Int) != (s.1 : Int)) = true := by simp; omega
        have hs1 : sg = -1 := by rw [← hsg, if_neg hsf]
        subst hs1
        clear hsf hsg
        generalize (netG net).tree.f p = F at *
        go_wp2_with fail
        go_quiet (fail)
        go_wp2_with fail
        have b9 := below_drew (Below.refl wr.heap.size wr) nq
        generalize wr.drewN nq = wr9 at *
        have hg9 := grown_alloc hg b9
        have hb9 := below_step hb b9
        have o2 := (oo.later b9).store z (z := -1) ⟨by decide, by decide⟩
        rw [mapTo_upd] at o2
        have g2 := grown_put (j := z) hg9 (.int .i64 (-1))
        have hb2 := hb9.setCell (p := ⟨w.heap.size + 1, z, none⟩) (by show w.heap.size ≤ w.heap.size + 1; omega) (.int .i64 (-1))
        have op2 := OP.out.keep (w' := wr9.setCell ⟨w.heap.size + 1, z, none⟩ (.int .i64 (-1))) fun a ha => g2.block _ (OP.out.lt a ha) (fun e => by injection e with e; have := fp a ha; omega)
        have ol2 := OL.out.off g2 (fun a ha => by have := fl4 a ha; omega)
        have btr2 : BX (wr9.setCell ⟨w.heap.size + 1, z, none⟩ (.int .i64 (-1))) w3.heap.size A n c (some ⟨gp, 0, none⟩) M cp := ⟨(g2.block _ bt5.lt (fun e => by injection e with e; omega)).trans bt5.box⟩
        have cl2 := ol2.cell hlt
        rw [nl_ig hlt, (List.getElem?_eq_some_iff.1 hp).2] at cl2
        have y0 := btr2.c0
        have y1 := btr2.c1
        have nt2 : NetAt (wr9.setCell ⟨w.heap.size + 1, z, none⟩ (.int .i64 (-1))).drew A n c (some ⟨gp, 0, none⟩) M cp (treeN net) := ⟨h.nodes.later (by exact hb2.drew), (op2.later (Below.refl _ _).drew).pipes⟩
        have O2 := Lib.hid o2
        have G2 := Lib.hid g2
        have HB2 := Lib.hid hb2
        have NT := Lib.hid nt2
        clear o2 g2 hb2 op2 ol2 btr2 nt2 oo hg hb hg9 hb9 b9 cl1 cf1 cp1 j0 j1 co uo ol of op btr
        generalize (wr9.setCell ⟨w.heap.size + 1, z, none⟩ (.int .i64 (-1))) = wz at *
        go_still_tail 6, (by kernel_rfl)
        change wpList _ _ _ _ _ wz.drew
        go_wp2_with fail
        refine (l02Other_any _ _ _ _ _ _ (treeN net) p s.1 _ NT.out (treeN_ok ok) hpM HPT.out).mono ?_
        rintro e w6 ⟨rfl, b6'⟩
        have b6 : Below wz.heap.size wz w6 := (Below.refl _ _).drew.trans b6'
        rw [treeN_g, HY.out]
        have o6 := O2.out.later b6
        have g6 := grown_alloc G2.out b6
        have hb6 := below_step HB2.out b6
        clear b6' cl2 y0 y1 O2 G2 HB2 NT
        go_wp2_with fail
        go_roundw
        case rel => exact ⟨k + 1, (y, upd s.2 z (-1)), by omega, rfl, by go_num, HP2, o6, g6, hb6⟩
        case measure => simp [intOf]; omega
    · have hkl : l.length ≤ k := by omega
      have HC : Hid (mapTo m s.2 = cycL net q) := Lib.hid (by
        have hm := Gr.mem_chords.1 HQ.out
        have e1 := hP.out.st
        rw [List.take_of_length_le hkl] at e1
        rw [e1, ← h.pipes.len]
        exact cycL_is ok HQ.out (Gr.cyc_path ok.g hm.1 hm.2 (by rw [HEN.out.1, HEN.out.2]; exact HPA.out)).1)
      rw [HC.out] at oo
      have hkl2 : l.length = k := by omega
      clear hP HC
      go_wp2_with fail
      go_ret
      exact ⟨_, rfl, oo, (fun a ha => by injection ha with ha; subst ha; show w.heap.size ≤ w.heap.size + 1; omega), hb⟩

end Go.Proofs.Ytllblmndoigdlaa

/- lists of lists: the cycles of all chords -/
namespace Go.Proofs.Ytllblmndoigdlaa
open Go.RowKit

theorem info_ints : (Try.prog.info? 28).map (fun i => (i.zero, i.size, i.bytes)) = some (some (.slice none 0 0), 1, 24) := by kernel_rfl
def rowV (m g : Nat) : Value := .slice (some ⟨g, 0, none⟩) m m
/-- '.slice A n c' lies in a row of the call's own; its elements are rows of the call's own with the lists L -/
structure OwnS (w : World) (A : Option Addr) (n c m B : Nat) (gs : List Nat) (L : List (List Int)) : Prop where
  row : w.ownsRow 0 28 1 (.slice A n c) n (gs.map (rowV m))
  len : L.length = n
  own : ∀ (i g : Nat) (cs : List Int), gs[i]? = some g → L[i]? = some cs → Own w (some ⟨g, 0, none⟩) m m cs
  lo : ∀ g ∈ gs, B ≤ g
  ap : ∀ g ∈ gs, ∀ a, A = some a → a.block ≠ g

section
variable {w w' : World} {A : Option Addr} {n c m B : Nat} {gs : List Nat} {L : List (List Int)}
theorem OwnS.glen (h : OwnS w A n c m B gs L) : gs.length = n := by have := h.row.1; simpa using this
theorem OwnS.lt (h : OwnS w A n c m B gs L) : ∀ a, A = some a → a.block < w.heap.size := row_lt h.row
theorem OwnS.at (h : OwnS w A n c m B gs L) {i : Nat} (hi : i < n) : ∃ g cs, gs[i]? = some g ∧ L[i]? = some cs ∧ Own w (some ⟨g, 0, none⟩) m m cs ∧ B ≤ g ∧ g < w.heap.size := by
  have h1 := h.glen
  have h2 := h.len
  have e1 : gs[i]? = some gs[i] := List.getElem?_eq_getElem (by omega)
  have e2 : L[i]? = some L[i] := List.getElem?_eq_getElem (by omega)
  have ho := h.own i _ _ e1 e2
  exact ⟨_, _, e1, e2, ho, h.lo _ (List.getElem_mem _), ho.lt _ rfl⟩
theorem OwnS.glt (h : OwnS w A n c m B gs L) : ∀ g ∈ gs, g < w.heap.size := fun g hg => by
  obtain ⟨i, hi, e⟩ := List.getElem_of_mem hg
  have h1 := h.glen
  obtain ⟨g', cs, e1, _, _, _, h2⟩ := h.at (i := i) (by omega)
  rw [List.getElem?_eq_getElem hi] at e1
  injection e1 with e1
  omega
theorem OwnS.keep (h : OwnS w A n c m B gs L) (hk : ∀ b, (b ∈ gs ∨ ∃ a, A = some a ∧ a.block = b) → w'.heap[b]? = w.heap[b]?) : OwnS w' A n c m B gs L :=
  ⟨row_keep h.row fun a ha => hk _ (.inr ⟨a, ha, rfl⟩), h.len, fun i g cs h1 h2 => (h.own i g cs h1 h2).keep fun a ha => by injection ha with ha; subst ha; exact hk _ (.inl (List.mem_of_getElem? h1)), h.lo, h.ap⟩
theorem OwnS.later (h : OwnS w A n c m B gs L) (hb : Below w.heap.size w w') : OwnS w' A n c m B gs L :=
  h.keep fun b hb' => by
    rcases hb' with h1 | ⟨a, ha, rfl⟩
    · exact hb.block _ (h.glt b h1)
    · exact hb.block _ (h.lt a ha)
/-- a change of another row leaves it -/
theorem OwnS.off {r : Nat} (h : OwnS w A n c m B gs L) (hg : w.grownBy w' (some r)) (h1 : r ∉ gs) (h2 : ∀ a, A = some a → a.block ≠ r) : OwnS w' A n c m B gs L :=
  h.keep fun b hb' => by
    rcases hb' with h3 | ⟨a, ha, rfl⟩
    · exact hg.block _ (h.glt b h3) (fun e => by injection e with e; subst e; exact h1 h3)
    · exact hg.block _ (h.lt a ha) (fun e => by injection e with e; exact h2 a ha (by omega))
theorem OwnS.nil (B : Nat) : OwnS w none 0 0 m B [] [] := ⟨⟨by simp, .inl ⟨rfl, rfl⟩⟩, rfl, fun i g cs h => by simp at h, by simp, by simp⟩
theorem OwnS.pos (h : OwnS w A n c m B gs L) (hn : 0 < n) : ∃ g, A = some ⟨g, 0, none⟩ ∧ g < w.heap.size := by
  rcases row_form h.row with ⟨_, h0, _⟩ | ⟨g, e, hg, _⟩
  · omega
  · exact ⟨g, e, hg⟩
theorem OwnS.cap (h : OwnS w A n c m B gs L) : n ≤ 9223372036854775807 := by
  rcases row_form h.row with ⟨_, h0, _⟩ | ⟨g, e, hg, h1, h2⟩ <;> omega
theorem OwnS.cell {b : Nat} (h : OwnS w (some ⟨b, 0, none⟩) n c m B gs L) {j g : Nat} (hj : gs[j]? = some g) : w.cell? ⟨b, j, none⟩ = some (.slice (some ⟨g, 0, none⟩) m m) := by
  have hl := h.glen
  have hjl := (List.getElem?_eq_some_iff.1 hj).1
  have := h.row.cellAt j (by omega)
  rw [this]
  simp [hj, rowV]
theorem OwnS.lit0 (w : World) (B : Nat) : OwnS (w.alloc (.cells #[] 28)) (some ⟨w.heap.size, 0, none⟩) 0 0 m B [] [] :=
  ⟨⟨by simp, .inr ⟨w.heap.size, 0, #[], rfl, Nat.zero_le _, heap_alloc_new w _, Nat.le_refl _, Nat.zero_le _, rfl, rfl⟩⟩, rfl, fun i g cs h => by simp at h, by simp, by simp⟩
/-- one row more -/
theorem OwnS.push {A' : Option Addr} {c' g : Nat} {cs : List Int} (h : OwnS w A n c m B gs L) (ho : Own w (some ⟨g, 0, none⟩) m m cs) (hB : B ≤ g) (hA : ∀ a, A = some a → a.block ≠ g)
    (hr : w'.ownsRow 0 28 1 (.slice A' (n + 1) c') (n + 1) (gs.map (rowV m) ++ [rowV m g])) (hg : w.grownBy w' (A.map (·.block))) (hb : A'.map (·.block) = A.map (·.block) ∨ A'.map (·.block) = some w.heap.size) :
    OwnS w' A' (n + 1) c' m B (gs ++ [g]) (L ++ [cs]) := by
  have hgl := h.glen
  have hgne : ∀ x, (x ∈ gs ∨ x = g) → ∀ a', A' = some a' → a'.block ≠ x := by
    intro x hx a' ha'
    have hxl : x < w.heap.size := by
      rcases hx with hx | rfl
      · exact h.glt x hx
      · exact ho.lt _ rfl
    subst ha'
    rcases hb with hb | hb
    · cases A with
      | none => simp at hb
      | some a =>
        simp at hb
        rw [hb]
        rcases hx with hx | rfl
        · exact h.ap x hx a rfl
        · exact hA a rfl
    · simp at hb; omega
  have hkeep : ∀ x, (x ∈ gs ∨ x = g) → w'.heap[x]? = w.heap[x]? := by
    intro x hx
    have hxl : x < w.heap.size := by
      rcases hx with hx | rfl
      · exact h.glt x hx
      · exact ho.lt _ rfl
    refine hg.block _ hxl fun e => ?_
    cases A with
    | none => simp at e
    | some a =>
      simp at e
      rcases hx with hx | rfl
      · exact h.ap x hx a rfl e.symm
      · exact hA a rfl e.symm
  refine ⟨by rw [List.map_append]; exact hr, by simp [h.len], fun i g' cs' h1 h2 => ?_, fun x hx => ?_, fun x hx => ?_⟩
  · have hLl := h.len
    by_cases hi : i < n
    · rw [List.getElem?_append_left (by omega)] at h1 h2
      exact (h.own i g' cs' h1 h2).keep fun a ha => by injection ha with ha; subst ha; exact hkeep _ (.inl (List.mem_of_getElem? h1))
    · rw [List.getElem?_append_right (by omega)] at h1 h2
      have hz : i - gs.length = 0 := by
        have := (List.getElem?_eq_some_iff.1 h1).1
        simp at this; omega
      have hz2 : i - L.length = 0 := by omega
      rw [hz] at h1; rw [hz2] at h2
      simp at h1 h2
      subst h1; subst h2
      exact ho.keep fun a ha => by injection ha with ha; subst ha; exact hkeep _ (.inr rfl)
  · rcases List.mem_append.1 hx with hx | hx
    · exact h.lo x hx
    · rw [List.mem_singleton.1 hx]; exact hB
  · refine hgne x ?_
    rcases List.mem_append.1 hx with hx | hx
    · exact .inl hx
    · exact .inr (List.mem_singleton.1 hx)

end

/-- append(s, x), s a slice of slices of the call's own -/
theorem law_appendS (w : World) {ops : Array Oper} {rest : List Oper} {o : Oper} {a : Act} {Q : Exit → Act → World → Prop}
    (hg : o.guard = none) (s x : Operand) (hop : o.op = Op.call { callee := Callee.builtin Builtin.append, args := #[s, x], argTypes := #[94, 94] })
    (A : Option Addr) (n c : Nat) (vs : List Value) (hs : a.eval s = .slice A n c) (hrow : w.ownsRow 0 28 1 (.slice A n c) n vs)
    (g m' m r : Nat) (hx : a.eval x = .slice (some ⟨g, 0, none⟩) 1 m') (hc : w.cell? ⟨g, 0, none⟩ = some (rowV m r)) (hn : n ≤ 1000000)
    (hK : ∀ A' c' w', w'.ownsRow 0 28 1 (.slice A' (n + 1) c') (n + 1) (vs ++ [rowV m r]) → w.grownBy w' (A.map (·.block)) → (A'.map (·.block) = A.map (·.block) ∨ A'.map (·.block) = some w.heap.size) → wpList Try.prog ops Q rest (a.put o.dst (.slice A' (n + 1) c')) w') :
    wpList Try.prog ops Q (o :: rest) a w := by
  obtain ⟨i, hi, h1, h2, h3⟩ := info_parts info_ints
  have hcells : ∀ j u, [rowV m r][j]? = some u → w.cell? ((⟨g, 0, none⟩ : Addr).add j) = some u := by
    intro j u hu
    match j with
    | 0 => simp at hu; subst hu; exact hc
    | j + 1 => simp at hu
  obtain ⟨v', w', hrun, k2, k3, _, k5⟩ := run_append_own_at (P := Try.prog) w 0 94 o.type 28 i _ 1 24 Try.underlying94 hi h1 h2 h3 rfl (by omega) _ n _ hrow ⟨g, 0, none⟩ 1 m' [rowV m r] rfl hcells (by simp [Value.oneCell', rowV]) (by unfold maxLen; omega) (by omega) (Nat.zero_le _)
  have hv' : ∃ A' c', v' = .slice A' (n + 1) c' := by
    rcases k2.2 with ⟨h, h'⟩ | ⟨g', cap, cur, h, _⟩
    · omega
    · exact ⟨_, _, h⟩
  obtain ⟨A', c', rfl⟩ := hv'
  have hb : ∀ (X : Option Addr) (p q : Nat), (Value.slice X p q).ownBlock = X.map (·.block) := by intro X p q; cases X <;> rfl
  rw [hb] at k3
  rw [hb, hb] at k5
  refine wpList_plain hg fun K hK' => ?_
  unfold Oper.wp
  simp only [execOp, hop, resolve, invoke, builtin, Sem.run_bind, Sem.run_pure, Result.andThen_ok, List.map_toArray, List.map_cons, List.map_nil, hs, hx, hrun]
  exact hK' _ _ (hK A' c' w' k2 k3 k5)
/-- a literal that holds one row of the call's own -/
def isLit (B m : Nat) (cs : List Int) : VP := fun v w => ∃ b g, v = .slice (some ⟨b, 0, none⟩) 1 1 ∧ w.cell? ⟨b, 0, none⟩ = some (rowV m g) ∧ Own w (some ⟨g, 0, none⟩) m m cs ∧ B ≤ g ∧ b < w.heap.size
theorem stb_lit {B m : Nat} {cs : List Int} : Stb Grw (isLit B m cs) := by
  rintro v w w' h ⟨b, g, rfl, hc, ho, hb, hl⟩
  exact ⟨b, g, rfl, (h.cell hl).trans hc, ho.later h, hb, Nat.lt_of_lt_of_le hl h.size⟩
theorem basL_take {net : Net} {k q : Nat} (h : (netG net).chords[k]? = some q) : (basL net).take (k + 1) = (basL net).take k ++ [cycL net q] := by
  rw [List.take_add_one, basL_at h]; rfl

set_option maxRecDepth 100000 in
set_option maxHeartbeats 4000000 in
theorem l05Basis_any (A : Option Addr) (n c : Nat) (B : Option Addr) (m d : Nat) (net : Net) (w : World) (h : NetAt w A n c B m d net) (ok : NetOK net) :
    Calls Try.prog 105 #[.agg #[.slice A n c, .slice B m d]] w fun e w' => ∃ gs Ab cb, e = .returned (.slice Ab (netG net).chords.length cb) ∧ OwnS w' Ab (netG net).chords.length cb m w.heap.size gs (basL net) ∧ Fresh w.heap.size Ab ∧ Below w.heap.size w w' := by
  have hm40 : m ≤ 40 := by have := ok.m40; have := h.pipes.len; omega
  have HMm : Hid ((netG net).m = m) := Lib.hid h.pipes.len
  have HB := Lib.hid (bel1 w (.cells #[.slice A n c, .slice B m d] 27))
  have bx0 : BX (w.alloc (.cells #[.slice A n c, .slice B m d] 27)) w.heap.size A n c B m d := ⟨heap_alloc_new w _⟩
  obtain ⟨W, hW⟩ : ∃ W, W = w.alloc (.cells #[.slice A n c, .slice B m d] 27) := ⟨_, rfl⟩
  have hWs : W.heap.size = w.heap.size + 1 := by rw [hW]; simp
  go_enter Try.func105, Try.ntmps105
  go_wp2_with fail
  rw [← hW] at bx0 HB ⊢
  clear hW
  refine (l05Chords_any _ _ _ _ _ _ net _ (h.later HB.out) ok).mono ?_
  rintro e w1 ⟨Ac, cc, rfl, oc, fc, b1⟩
  obtain ⟨K, hK⟩ : ∃ K, (netG net).chords.length = K := ⟨_, rfl⟩
  have hK40 : K ≤ 40 := by have := chords_le net; have := h.pipes.len; omega
  rw [hK] at oc ⊢
  have HKK := Lib.hid hK
  clear hK
  have bx1 := bx0.step b1
  have T1 := Lib.hid (below_step HB.out b1)
  have hw1 := T1.out.size
  have o0 := OwnS.lit0 (m := m) w1 w.heap.size
  clear b1 bx0
  go_wp2_with fail
  go_loopw [4, 5] (fun o i wr => ∃ (k : Nat) (gs : List Nat) (Ab : Option Addr) (cb : Nat), k ≤ K ∧ o = .slice Ab k cb ∧ i = .int .i64 k ∧ OwnS wr Ab k cb m w.heap.size gs ((basL net).take k) ∧ Fresh w1.heap.size Ab ∧ Below w1.heap.size w1 wr) (fun _ i _ => K - (intOf i).toNat)
  case atStart => exact ⟨0, [], some ⟨w1.heap.size, 0, none⟩, 0, by omega, rfl, rfl, o0, (fun a ha => by injection ha with ha; subst ha; exact Nat.le_refl _), bel1 _ _⟩
  case round =>
    obtain ⟨k, gs, Ab, cb, hk, rfl, rfl, ob, fb, hb⟩ := hrel
    clear o0
    by_cases hlt : k < K
    · have hlt' : k < (netG net).chords.length := by rw [HKK.out]; exact hlt
      obtain ⟨q, hq⟩ : ∃ q, (netG net).chords[k]? = some q := ⟨_, List.getElem?_eq_getElem hlt'⟩
      have HQ := Lib.hid (chord_mem hq)
      have HT := Lib.hid (basL_take hq)
      have hqm : q < m := by have := (Gr.mem_chords.1 HQ.out).1; rw [HMm.out] at this; exact this
      have oc1 := oc.later hb
      obtain ⟨ga, rfl, hga⟩ := oc1.pos (by omega)
      have c1 := oc1.cell hlt
      rw [nl_ig hlt', (List.getElem?_eq_some_iff.1 hq).2] at c1
      clear hq oc1
      have bxr := bx1.step hb
      have z0 := bxr.c0
      have z1 := bxr.c1
      have hki : (k : Int) < (K : Int) := by omega
      have OB := Lib.hid ob
      have OB' := Lib.hid hb
      have hbs := hb.size
      have hltA := ob.lt
      have BXR := Lib.hid bxr
      clear ob hb bxr
      go_wp2_with fail
      apply wp_region_track [15, 16, 17, 18, 19, 20, 21, 22] [eqv _, eqv _, eqv _, eqv _, eqv _, eqv _, isRow wr.heap.size m m (cycL net q), isLit wr.heap.size m (cycL net q)]
        (fun w' => Below wr.heap.size wr w') Grw (by kernel_rfl) (by kernel_rfl) rfl (by kernel_rfl)
      case hs =>
        refine ⟨?_, ?_, ?_, ?_, ?_, ?_, ?_, ?_, trivial⟩
        · intro ev wt ht hc hg hf hI hd
          have e4 : ev (.tmp 4) = .slice Ab k cb := ht 4 (by decide)
          exact opok_move _ rfl ⟨hI, Below.refl _ _, e4⟩
        · intro ev wt ht hc hg hf hI hd
          have e1 : ev (.tmp 1) = .pointer (some ⟨w.heap.size, 0, none⟩) := ht 1 (by decide)
          have y0 := (BXR.out.step hI).c0
          have y1 := (BXR.out.step hI).c1
          have yc := (hI.cell (p := ⟨ga, k, none⟩) hga).trans c1
          refine opok_gen fun N hN => ?_
          clear hd ht
          go_simp
          exact hN.out _ _ ⟨hI, Below.refl _ _, rfl⟩
        · intro ev wt ht hc hg hf hI hd
          have e3 : ev (.tmp 3) = .slice (some ⟨ga, 0, none⟩) K cc := ht 3 (by decide)
          exact opok_move _ rfl ⟨hI, Below.refl _ _, e3⟩
        · intro ev wt ht hc hg hf hI hd
          have e5 : ev (.tmp 5) = .int .i64 k := ht 5 (by decide)
          exact opok_move _ rfl ⟨hI, Below.refl _ _, e5⟩
        · intro ev wt ht hc hg hf hI hd
          have e17 : ev (.tmp 17) = _ := hd 2 17 rfl rfl
          have e18 : ev (.tmp 18) = _ := hd 3 18 rfl rfl
          refine opok_gen fun N hN => ?_
          clear hd ht
          go_simp
          exact hN.out _ _ ⟨hI, Below.refl _ _, rfl⟩
        · intro ev wt ht hc hg hf hI hd
          have e19 : ev (.tmp 19) = _ := hd 4 19 rfl rfl
          have y0 := (BXR.out.step hI).c0
          have y1 := (BXR.out.step hI).c1
          have yc := (hI.cell (p := ⟨ga, k, none⟩) hga).trans c1
          refine opok_gen fun N hN => ?_
          clear hd ht
          go_simp
          exact hN.out _ _ ⟨hI, Below.refl _ _, rfl⟩
        · intro ev wt ht hc hg hf hI hd
          have e16 : ev (.tmp 16) = _ := hd 1 16 rfl rfl
          have e20 : ev (.tmp 20) = _ := hd 5 20 rfl rfl
          refine opok_gen fun N hN => ?_
          clear hd ht
          go_simp
          refine (l05Cycle_any _ _ _ _ _ _ net q _ (h.later (below_step (below_step T1.out OB'.out) hI)) ok HQ.out).mono ?_
          rintro e wz ⟨Ay, rfl, oy, fy, by_⟩
          obtain ⟨gy, rfl, hgy⟩ := oy.pos (by omega)
          have hfy : wt.heap.size ≤ gy := fy _ rfl
          have hIs := hI.size
          exact ⟨_, rfl, hN.out _ _ ⟨below_step hI by_, by_, ⟨gy, rfl, oy, by omega⟩⟩⟩
        · intro ev wt ht hc hg hf hI hd
          have e21 := hd 6 21 rfl rfl
          obtain ⟨gy, e21, oy, hfy⟩ := e21
          refine opok_gen fun N hN => ?_
          clear hd ht
          go_simp
          exact hN.out _ _ ⟨below_step hI (bel1 _ _), bel1 _ _, ⟨_, gy, rfl, cell_new1 _ _ _, oy.later (bel1 _ _), hfy, by simp⟩⟩
      case hst =>
        refine fun j v w w' _ h1 h2 => StbL.nth (S := Grw) ?_ j v w w' h1 h2
        exact ⟨stb_eqv _, stb_eqv _, stb_eqv _, stb_eqv _, stb_eqv _, stb_eqv _, stb_row, stb_lit, trivial⟩
      case hI => exact (Below.refl _ _).drew
      case hl =>
        rintro wt hI _ rfl _ rfl _ rfl _ rfl _ rfl _ rfl _ ⟨gz, rfl, _, _⟩ _ ⟨bl, gy, rfl, cb1, oy, hfy, hbl⟩
        simp only [Lasts, List.length_cons, List.length_nil, Nat.reduceAdd, List.drop_succ_cons, List.drop_zero, Act.put, List.setIfInBounds_toArray, List.set_cons_succ, List.set_cons_zero]
        have ob6 := OB.out.later hI
        have hb6 := below_step OB'.out hI
        clear z0 z1 c1
        go_wp2_with (at_builtin; refine law_appendS _ rfl _ _ rfl Ab k cb _ rfl ob6.row _ _ m gy rfl cb1 (by omega) ?_; intro A3 c3 w3 hr3 hg3 hb3)
        have hAy : ∀ a, Ab = some a → a.block ≠ gy := fun a ha => by have := hltA a ha; omega
        have o3 := ob6.push oy (by omega) hAy hr3 hg3 hb3
        rw [← HT.out] at o3
        have f3 := fresh_app' fb hb6.size hb3
        have b3 := below_app hb6 fb hg3
        clear ob6 oy hb6 hr3 hg3 hb3 cb1
        go_roundw
        case rel => exact ⟨k + 1, gs ++ [gy], A3, c3, by omega, rfl, by go_num, o3, f3, b3⟩
        case measure => simp [intOf]; omega
    · have hkK : K = k := by omega
      have HE : Hid ((basL net).take k = basL net) := Lib.hid (by rw [List.take_of_length_le]; rw [basL_len, HKK.out, hkK]; exact Nat.le_refl _)
      rw [HE.out] at ob
      subst hkK
      have hki : ¬ (K : Int) < (K : Int) := by omega
      go_wp2_with fail
      go_ret
      rw [HKK.out]
      exact ⟨gs, Ab, cb, rfl, ob, fresh_up fb hw1, below_step T1.out hb⟩

end Go.Proofs.Ytllblmndoigdlaa
