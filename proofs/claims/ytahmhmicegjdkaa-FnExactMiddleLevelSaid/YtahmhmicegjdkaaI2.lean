/- forest levels: the reference -/
import Derived.Test.YtahmhmicegjdkaaI1
namespace Go.Proofs.Ytahmhmicegjdkaa
open Go.RowKit

def Gr.levT (g : Gr) (dr : Nat → Int) (root : Nat) (level : Int) (k v : Nat) : Int := if v ∈ (g.tree.ord root).take k then g.lev dr root level v else 0
theorem Gr.tree_head {g : Gr} (ok : g.ok) {root : Nat} (hr : root < g.n) : (g.tree.ord root).take 1 = [root] := by
  obtain ⟨l, hl⟩ := (Gr.ord_inv (Gr.tree_ok ok) (r := root) hr).head
  have : g.tree.ord root = root :: l := hl
  rw [this]; rfl
theorem Gr.levT_one {g : Gr} (ok : g.ok) {dr : Nat → Int} {root n : Nat} {level : Int} (hr : root < g.n) : (List.replicate n 0).set root level = mapTo n (g.levT dr root level 1) := by
  rw [← mapTo_const]
  refine mapTo_set fun v _ => ?_
  unfold Gr.levT
  rw [Gr.tree_head ok hr]
  by_cases e : root = v
  · subst e; simp [Gr.lev_root]
  · have : ¬ v = root := fun h => e h.symm
    simp [e, this]
theorem Gr.levT_succ {g : Gr} {dr : Nat → Int} {root n k x : Nat} {level : Int} (hx : (g.tree.ord root)[k]? = some x) : (mapTo n (g.levT dr root level k)).set x (g.lev dr root level x) = mapTo n (g.levT dr root level (k + 1)) := mapTo_set fun v _ => by
  unfold Gr.levT
  rw [List.take_add_one, hx]
  simp only [Option.toList_some, List.mem_append, List.mem_singleton]
  by_cases e : x = v
  · subst e; simp
  · have : ¬ v = x := fun h => e h.symm
    simp [e, this]
theorem Gr.levT_end {g : Gr} (ok : g.ok) (hn : 0 < g.n) (hc : g.conn = true) {dr : Nat → Int} {root k : Nat} {level : Int} (hr : root < g.n) (hk : (g.tree.ord root).length ≤ k) : mapTo g.n (g.levT dr root level k) = mapTo g.n (g.lev dr root level) := List.map_congr_left fun v hv => by
  have hv' := List.mem_range.1 hv
  have hc' := (Gr.conn_iff ok hn).1 hc
  unfold Gr.levT
  rw [List.take_of_length_le hk, if_pos (Gr.tree_reach ok hr hv' (by rw [hc' _ hr, hc' _ hv']))]
/-- one step along the tree -/
theorem Gr.tree_step {g : Gr} (ok : g.ok) {root k x : Nat} (hr : root < g.n) (hk : 1 ≤ k) (hx : (g.tree.ord root)[k]? = some x) :
    ∃ p y : Nat, g.tree.ent root x = p ∧ p < g.forest.length ∧ (g.tree.f p = x ∨ g.tree.t p = x) ∧ g.tree.oth p x = y ∧ y ∈ (g.tree.ord root).take k ∧ x < g.n ∧ y < g.n := by
  have hT := Gr.tree_ok ok
  have hord := Gr.ord_inv hT (r := root) hr
  have hxm := List.mem_of_getElem? hx
  have hxi : (g.tree.ord root).idxOf x = k := idxOf_at hord.nodup hx
  have hx0 : x ≠ root := by rintro rfl; have := Gr.idxOf_r hT (a := x) hr; omega
  obtain ⟨p, h1, h2, y, hy, h3, h4⟩ := hord.ent x hxm hx0
  have h3' : (g.tree.ord root).idxOf y < (g.tree.ord root).idxOf x := h3
  have hxy : x ≠ y := by rintro rfl; omega
  refine ⟨p, y, h1, h2, Gr.touch_of_joins h4, Gr.oth_of_joins h4 hxy, ?_, hord.lt x hxm, hord.lt y hy⟩
  have hyl : (g.tree.ord root).idxOf y < (g.tree.ord root).length := List.idxOf_lt_length_of_mem hy
  have : (g.tree.ord root)[(g.tree.ord root).idxOf y] = y := List.getElem_idxOf hyl
  rw [← this]
  rw [List.mem_take_iff_getElem]
  exact ⟨(g.tree.ord root).idxOf y, by omega, rfl⟩
theorem Gr.lev_step {g : Gr} (ok : g.ok) (hn : 0 < g.n) (hc : g.conn = true) {dr : Nat → Int} {root : Nat} {level : Int} {p x : Nat} (hp : p < g.forest.length) (hx : g.tree.f p = x ∨ g.tree.t p = x) :
    g.lev dr root level x = if g.tree.f p = x then g.lev dr root level (g.tree.oth p x) + dr (g.idx p) else g.lev dr root level (g.tree.oth p x) - dr (g.idx p) := by
  have hF := (Gr.idx_mem hp).2
  have hl := Gr.lev_lv ok hn hc dr root level (g.idx p) hF
  have e1 : g.tree.f p = g.f (g.idx p) := rfl
  have e2 : g.tree.t p = g.t (g.idx p) := rfl
  unfold Gr.oth
  by_cases hf : g.tree.f p = x
  · rw [if_pos hf, if_pos hf, e2]
    rw [e1] at hf
    rw [← hf]; omega
  · rw [if_neg hf, if_neg hf]
    have ht : g.tree.t p = x := hx.resolve_left hf
    rw [e1]
    rw [e2] at ht
    rw [← ht]; omega

set_option maxRecDepth 100000 in
set_option maxHeartbeats 4000000 in
theorem l07Levels_any (A : Option Addr) (n c : Nat) (B : Option Addr) (m d : Nat) (net : Net) (C : Option Addr) (l e : Nat) (zs : List Int) (root : Nat) (level : Int) (w : World) (h : NetAt w A n c B m d net) (hz : Ints w C l e zs) (hv : netB net = true) (hs : flowB net zs = true) (hcn : (netG net).conn = true) (hr : root < n) (hl : -500000000000000000 ≤ level ∧ level ≤ 500000000000000000) :
    Calls Try.prog 93 #[.agg #[.slice A n c, .slice B m d], .slice C l e, .int .i64 root, .int .i64 level] w fun e w' => ∃ Al, e = .returned (.slice Al n n) ∧ Own w' Al n n (levL net zs root level) ∧ Fresh w.heap.size Al ∧ Below w.heap.size w w' := by
  have ok := NetOK.of hv
  have hn24 : n ≤ 24 := by have := ok.n24; have := h.nodes.len; omega
  have hm40 : m ≤ 40 := by have := ok.m40; have := h.pipes.len; omega
  have HNn : Hid ((netG net).n = n) := Lib.hid h.nodes.len
  have HMm : Hid ((netG net).m = m) := Lib.hid h.pipes.len
  have hlm : m = l := by have := flowB_len hs; have := h.pipes.len; have := hz.len; omega
  subst hlm
  have hrg : root < (netG net).n := by rw [HNn.out]; exact hr
  have h0n : 0 < (netG net).n := by omega
  have HV := Lib.hid hv
  have HS := Lib.hid hs
  have HCN := Lib.hid hcn
  clear hv hs hcn
  have HB := Lib.hid (bel1 w (.cells #[.slice A n c, .slice B m d] 32))
  have bx0 : BX (w.alloc (.cells #[.slice A n c, .slice B m d] 32)) w.heap.size A n c B m d := ⟨heap_alloc_new w _⟩
  obtain ⟨W, hW⟩ : ∃ W, W = w.alloc (.cells #[.slice A n c, .slice B m d] 32) := ⟨_, rfl⟩
  have hWs : W.heap.size = w.heap.size + 1 := by rw [hW]; simp
  go_enter Try.func93, Try.ntmps93
  go_wp2_with fail
  refine (l05Tree_any _ _ _ _ _ _ net _ (h.later HB.out) ok).mono ?_
  rintro e w1 ⟨Ap, cp, Af, cf, rfl, op, of, fp, ff, b1⟩
  obtain ⟨M, hMl⟩ : ∃ M, (netG net).forest.length = M := ⟨_, rfl⟩
  have hM40 : M ≤ 40 := by have := Gr.forK_len (netG net) (netG net).m; unfold Gr.forest at hMl; have := HMm.out; omega
  rw [hMl] at op of ⊢
  have HML := Lib.hid hMl
  clear hMl
  rw [← hW] at b1 fp ff HB bx0
  have t1 := below_step HB.out b1
  obtain ⟨w2, hw2⟩ : ∃ w2, w2 = w1.alloc (.cells #[.slice A n c, .slice Ap M cp] 32) := ⟨_, rfl⟩
  have b2 := bel1 w1 (.cells #[.slice A n c, .slice Ap M cp] 32)
  have bx2 : BX (w1.alloc (.cells #[.slice A n c, .slice Ap M cp] 32)) w1.heap.size A n c Ap M cp := ⟨heap_alloc_new w1 _⟩
  rw [← hw2] at b2 bx2
  have hw2s : w2.heap.size = w1.heap.size + 1 := by rw [hw2]; simp
  have t2 := below_step t1 b2
  have nt2 : NetAt w2 A n c Ap M cp (treeN net) := ⟨h.nodes.later t2, (op.later b2).pipes⟩
  go_wp2_with fail
  rw [← hw2]
  refine (l04Search_any _ _ _ _ _ _ (treeN net) root _ nt2 (treeN_ok ok) hr).mono ?_
  rintro e w3 ⟨Ao, lo, co, Ae, rfl, oo, oe, fo, fe, b3⟩
  rw [treeN_g] at oo oe
  have t3 := below_step t2 b3
  have kx := ((bx0.step b1).step b2).step b3
  have k0 := kx.c0
  clear hw2
  go_wp2_with (at_make; refine law_make _ rfl _ _ rfl n _ _ rfl rfl rfl rfl (by omega) ?_; intro w4 o4 b4 z4; have u4 := o4.unfrozen root; have c4 := o4.cell hr; have o5 := o4.store root (z := level) ⟨by omega, by omega⟩)
  rw [Gr.levT_one ok.g (dr := drF net zs) hrg] at o5
  obtain ⟨gR, hgR⟩ : ∃ gR, w3.heap.size = gR := ⟨_, rfl⟩
  obtain ⟨Wb, hWb⟩ : ∃ Wb, Wb = w4.setCell ⟨gR, root, none⟩ (.int .i64 level) := ⟨_, rfl⟩
  have b3s := b3.size
  have b1s := b1.size
  have gW4 : w3.grownBy Wb (some gR) := by
    rw [hWb]
    exact grown_put (grown_alloc (World.grownBy.refl _ _) b4) _
  have tb : Below w.heap.size w Wb := by
    rw [hWb]; exact (below_step t3 b4).setCell (by show w.heap.size ≤ gR; have := t3.size; omega) _
  have gsz : w3.heap.size ≤ Wb.heap.size := gW4.size
  have OO := Lib.hid (oo.off gW4 (fun a ha => by have := oo.lt a ha; omega))
  have OE := Lib.hid (oe.off gW4 (fun a ha => by have := oe.lt a ha; omega))
  have of3 := (of.later b2).later b3
  have OF := Lib.hid (of3.off gW4 (fun a ha => by have := of3.lt a ha; omega))
  have OP := Lib.hid (((op.later b2).later b3).keep (w' := Wb) fun a ha => gW4.block _ (((op.later b2).later b3).lt a ha) (fun e => by injection e with e; have := ((op.later b2).later b3).lt a ha; omega))
  have ltO := oo.lt
  have ltE := oe.lt
  have ltF := of3.lt
  have ltP := ((op.later b2).later b3).lt
  have bx4 : BX Wb w.heap.size A n c B m d := ⟨(gW4.block _ kx.lt (fun e => by injection e with e; have := kx.lt; omega)).trans kx.box⟩
  have bx3 := bx2.step b3
  have bx9 : BX Wb w1.heap.size A n c Ap M cp := ⟨(gW4.block _ bx3.lt (fun e => by injection e with e; have := bx3.lt; omega)).trans bx3.box⟩
  rw [hgR] at o5 ⊢
  rw [← hWb] at o5 ⊢
  have hlo := oo.len
  rw [nl_len] at hlo
  have hlo24 : lo ≤ n := by have := Gr.ord_len (Gr.tree_ok ok.g) (r := root) hrg; have e : (netG net).tree.n = (netG net).n := rfl; rw [e, HNn.out] at this; omega
  have hlo1 : 1 ≤ lo := by have := List.length_pos_of_mem (Gr.ord_r (Gr.tree_ok ok.g) (r := root) hrg); omega
  have HLO := Lib.hid hlo
  clear k0 u4 c4 o4 z4 hWb hlo oo oe of3 of op nt2
  go_loopw [14] (fun i wr => ∃ k : Nat, 1 ≤ k ∧ k ≤ lo ∧ i = .int .i64 k ∧ Own wr (some ⟨gR, 0, none⟩) n n (mapTo n ((netG net).levT (drF net zs) root level k)) ∧ Wb.grownBy wr (some gR) ∧ Below w.heap.size w wr) (fun i _ => lo - (intOf i).toNat)
  case atStart => exact ⟨1, by omega, by omega, rfl, o5, World.grownBy.refl _ _, tb⟩
  case round =>
    obtain ⟨k, hk1, hk, rfl, ol, hg, hb⟩ := hrel
    clear o5
    by_cases hlt : k < lo
    · have hlt' : k < ((netG net).tree.ord root).length := by rw [HLO.out]; exact hlt
      obtain ⟨x, hx⟩ : ∃ x, ((netG net).tree.ord root)[k]? = some x := ⟨_, List.getElem?_eq_getElem hlt'⟩
      obtain ⟨p, y, hent, hpM, hpx, hoth, hyt, hxn, hyn⟩ := Gr.tree_step ok.g hrg hk1 hx
      rw [HNn.out] at hxn hyn
      rw [HML.out] at hpM
      have hstep := Gr.lev_step ok.g h0n HCN.out (dr := drF net zs) (root := root) (level := level) (p := p) (x := x) (by rw [HML.out]; exact hpM) hpx
      rw [hoth] at hstep
      have hLx := lev_lim HV.out HS.out (root := root) hl x
      have hLy := lev_lim HV.out HS.out (root := root) hl y
      have HSU := Lib.hid (Gr.levT_succ (n := n) (dr := drF net zs) (level := level) hx)
      have hWs2 : Wb.heap.size ≤ wr.heap.size := hg.size
      have oo := OO.out.off hg (fun a ha => by have := ltO a ha; omega)
      have oe := OE.out.off hg (fun a ha => by have := ltE a ha; omega)
      have of := OF.out.off hg (fun a ha => by have := ltF a ha; omega)
      have op := OP.out.keep (w' := wr) fun a ha => hg.block _ (OP.out.lt a ha) (fun e => by injection e with e; have := ltP a ha; omega)
      have bx4r : BX wr w.heap.size A n c B m d := ⟨(hg.block _ bx4.lt (fun e => by injection e with e; have := kx.lt; omega)).trans bx4.box⟩
      have bx9r : BX wr w1.heap.size A n c Ap M cp := ⟨(hg.block _ bx9.lt (fun e => by injection e with e; have := bx3.lt; omega)).trans bx9.box⟩
      obtain ⟨ga, rfl, hga⟩ := oo.pos (by omega)
      obtain ⟨ge, rfl, hge⟩ := oe.pos (by omega)
      obtain ⟨gf, rfl, hgf⟩ := of.pos (by omega)
      have cx := oo.cell hlt
      rw [nl_ig hlt', show ((netG net).tree.ord root)[k] = x from (List.getElem?_eq_some_iff.1 hx).2] at cx
      have ce := oe.cell hxn
      rw [mapTo_ig hxn, hent] at ce
      have cf := of.cell hpM
      have hpf : p < (netG net).forest.length := by rw [HML.out]; exact hpM
      have hidx := Gr.idx_lt hpf
      rw [nl_ig hpf, ← hidx] at cf
      obtain ⟨q, hq⟩ : ∃ q, (netG net).idx p = q := ⟨_, rfl⟩
      have hqm : q < m := by have := (Gr.idx_mem hpf).1; rw [hq, HMm.out] at this; exact this
      rw [hq] at cf hstep
      obtain ⟨bb, off, rfl, hbl, hc⟩ := (hz.later hb).cells (by omega)
      have hck := hc q hqm
      have hzq := flowB_all HS.out q
      have hkq : 1 ≤ (pp net.pipes q).k ∧ (pp net.pipes q).k ≤ 1000 := by
        have := netB_pipe_at HV.out (j := q) (by rw [h.pipes.len]; exact hqm); omega
      have z0 := bx4r.c0
      have z1 := bx4r.c1
      have hzle := hz.le
      have hzcap := hz.cap
      have HYT := Lib.hid hyt
      clear hc hx hent hidx hyt hlt'
      have OLQ := Lib.hid ol
      have OPQ := Lib.hid op
      have BX9 := Lib.hid bx9r
      clear ol oo oe of op bx9r bx4r
      go_wp2_with fail
      go_still_tail 12, (by kernel_rfl)
      change wpList _ _ _ _ _ wr.drew
      go_wp2_with fail
      refine (l07Drop_any _ _ _ _ _ _ net _ _ _ (h.later (by exact hb.drew)) (by omega) (by simpa using hkq) hzq).mono ?_
      rintro e w5 ⟨rfl, b5'⟩
      have b5 : Below wr.heap.size wr w5 := (Below.refl _ _).drew.trans b5'
      rw [show drp (pp net.pipes ((q : Int).toNat)).k (ig zs q) = drF net zs q by rw [Int.toNat_natCast]; rfl]
      have hb5 := below_step hb b5
      have hg5 := grown_alloc hg b5
      have ol5 := OLQ.out.later b5
      have op5 := OPQ.out.later b5
      have bx95 := BX9.out.step b5
      have z90 := bx95.c0
      have z91 := bx95.c1
      have nt5 : NetAt w5 A n c Ap M cp (treeN net) := ⟨h.nodes.later hb5, op5.pipes⟩
      clear cx ce cf hck z0 z1 b5' BX9 OLQ OPQ
      go_wp2_with fail
      refine (l02Other_any _ _ _ _ _ _ (treeN net) p x _ nt5 (treeN_ok ok) hpM (by rw [treeN_g]; exact hpx)).mono ?_
      rintro e w6 ⟨rfl, b6⟩
      rw [treeN_g, hoth]
      have hb6 := below_step hb5 b6
      have hg6 := grown_alloc hg5 b6
      have ol6 := ol5.later b6
      have op6 := op5.later b6
      have bx96 := bx95.step b6
      clear z90 z91
      have z91 := bx96.c1
      obtain ⟨gp, rfl, hgp⟩ := op6.pos (by omega)
      have cp0 := (op6.cell hpM).1
      rw [treeN_pp, hq, ok.fr (by rw [h.pipes.len]; exact hqm)] at cp0
      have hfp : (netG net).tree.f p = (netG net).f q := by rw [← hq]; rfl
      rw [hfp] at hstep
      have cy := ol6.cell hyn
      rw [mapTo_ig hyn, show (netG net).levT (drF net zs) root level k y = (netG net).lev (drF net zs) root level y by unfold Gr.levT; rw [if_pos HYT.out]] at cy
      have cx6 := ol6.cell hxn
      have ux6 := ol6.unfrozen x
      have hcp := op6.pipes.le
      have hcp2 := op6.pipes.cap
      have ol' := ol6.store x (z := (netG net).lev (drF net zs) root level x) ⟨by omega, by omega⟩
      rw [HSU.out] at ol'
      have OL := Lib.hid ol'
      have HB' := Lib.hid (hb6.setCell (p := ⟨gR, x, none⟩) (by show w.heap.size ≤ gR; have := t3.size; omega) (.int .i64 ((netG net).lev (drF net zs) root level x)))
      have HG' := Lib.hid (grown_put (j := x) hg6 (.int .i64 ((netG net).lev (drF net zs) root level x)))
      have hDb := drF_bnd HV.out HS.out q
      clear ol' ol6 op6 hb6 hg6 hpx hfp hoth HYT HSU
      by_cases hfx : (netG net).f q = x
      · have g1 : (((netG net).f q : Int) == (x : Int)) = true := by simp [hfx]
        rw [if_pos hfx] at hstep
        clear hfx
        rw [hstep] at OL HB' HG' hLx
        clear hstep
        generalize (netG net).lev (drF net zs) root level y = Y at *
        generalize drF net zs q = D at *
        generalize (netG net).f q = F at *
        go_wp2_with fail
        go_roundw
        case rel => exact ⟨k + 1, by omega, by omega, by go_num, OL.out, HG'.out, HB'.out⟩
        case measure => simp [intOf]; omega
      · have g1 : (((netG net).f q : Int) == (x : Int)) = false := by simp; omega
        rw [if_neg hfx] at hstep
        clear hfx
        rw [hstep] at OL HB' HG' hLx
        clear hstep
        generalize (netG net).lev (drF net zs) root level y = Y at *
        generalize drF net zs q = D at *
        generalize (netG net).f q = F at *
        go_wp2_with fail
        go_roundw
        case rel => exact ⟨k + 1, by omega, by omega, by go_num, OL.out, HG'.out, HB'.out⟩
        case measure => simp [intOf]; omega
    · have hkl : lo = k := by omega
      subst hkl
      have he := Gr.levT_end ok.g h0n HCN.out (dr := drF net zs) (level := level) hrg (k := lo) (by rw [HLO.out]; omega)
      rw [HNn.out] at he
      rw [he] at ol
      have HN2 := Lib.hid h.nodes.len
      clear he
      go_wp2_with fail
      go_ret
      refine ⟨_, rfl, ?_, (fun a ha => by injection ha with ha; subst ha; show w.heap.size ≤ gR; have := t3.size; omega), hb⟩
      unfold levL
      rw [HN2.out]; exact ol

end Go.Proofs.Ytahmhmicegjdkaa
