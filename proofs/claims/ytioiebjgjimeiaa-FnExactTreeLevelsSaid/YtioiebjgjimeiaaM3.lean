/- the flows through the forest: the reference -/
import Derived.Test.YtioiebjgjimeiaaJ4
import Derived.Test.YtioiebjgjimeiaaH6
import Derived.Test.YtioiebjgjimeiaaQ6
namespace Go.Proofs.Ytioiebjgjimeiaa
open Go Go.RowKit

/-- what lies in memory while the reference finds the flows through the forest -/
structure FV (w : World) (A : Option Addr) (n c : Nat) (B : Option Addr) (m d : Nat) (bn bf bl bc cl : Nat) (comp fl left : Nat → Int) (W : World) : Prop where
  bx : W.heap[bn]? = some (.cells #[.slice A n c, .slice B m d] 27 (0, 0))
  oF : Own W (some ⟨bf, 0, none⟩) m m (mapTo m fl)
  oL : Own W (some ⟨bl, 0, none⟩) n cl (mapTo n left)
  oC : Own W (some ⟨bc, 0, none⟩) n n (mapTo n comp)
  bel : Below w.heap.size w W
  h0 : w.heap.size ≤ bn
  h1 : bn < bf
  h2 : bf < bl
  h3 : bl < bc

section
variable {w W W' : World} {A B : Option Addr} {n c m d bn bf bl bc cl : Nat} {comp fl left : Nat → Int}
theorem FV.lt (h : FV w A n c B m d bn bf bl bc cl comp fl left W) : bc < W.heap.size := h.oC.lt _ rfl
theorem FV.later (h : FV w A n c B m d bn bf bl bc cl comp fl left W) (hb : Below W.heap.size W W') : FV w A n c B m d bn bf bl bc cl comp fl left W' := by
  have hl := h.lt
  have e1 := h.h1; have e2 := h.h2; have e3 := h.h3
  exact ⟨(hb.block _ (by omega)).trans h.bx, h.oF.later hb, h.oL.later hb, h.oC.later hb, below_step h.bel hb, h.h0, h.h1, h.h2, h.h3⟩
theorem FV.putF (h : FV w A n c B m d bn bf bl bc cl comp fl left W) (j : Nat) {z : Int} (hz : I64 z) : FV w A n c B m d bn bf bl bc cl comp (upd fl j z) left (W.setCell ⟨bf, j, none⟩ (.int .i64 z)) := by
  have e0 := h.h0; have e1 := h.h1; have e2 := h.h2; have e3 := h.h3
  refine ⟨(Below.heap_setCell W _ _ _ (by show bn ≠ bf; omega)).trans h.bx, ?_, ?_, ?_, h.bel.setCell (by show _ ≤ bf; omega) _, h.h0, h.h1, h.h2, h.h3⟩
  · rw [← mapTo_upd]; exact h.oF.store j hz
  · exact h.oL.far (fun a ha => by injection ha with ha; subst ha; show bl ≠ bf; omega) _
  · exact h.oC.far (fun a ha => by injection ha with ha; subst ha; show bc ≠ bf; omega) _
theorem FV.putL (h : FV w A n c B m d bn bf bl bc cl comp fl left W) (j : Nat) {z : Int} (hz : I64 z) : FV w A n c B m d bn bf bl bc cl comp fl (upd left j z) (W.setCell ⟨bl, j, none⟩ (.int .i64 z)) := by
  have e0 := h.h0; have e1 := h.h1; have e2 := h.h2; have e3 := h.h3
  refine ⟨(Below.heap_setCell W _ _ _ (by show bn ≠ bl; omega)).trans h.bx, ?_, ?_, ?_, h.bel.setCell (by show _ ≤ bl; omega) _, h.h0, h.h1, h.h2, h.h3⟩
  · exact h.oF.far (fun a ha => by injection ha with ha; subst ha; show bf ≠ bl; omega) _
  · rw [← mapTo_upd]; exact h.oL.store j hz
  · exact h.oC.far (fun a ha => by injection ha with ha; subst ha; show bc ≠ bl; omega) _
theorem FV.c0 (h : FV w A n c B m d bn bf bl bc cl comp fl left W) : W.cell? ⟨bn, 0, none⟩ = some (.slice A n c) := by rw [cell_blk h.bx]; rfl
theorem FV.c1 (h : FV w A n c B m d bn bf bl bc cl comp fl left W) : W.cell? ⟨bn, 1, none⟩ = some (.slice B m d) := by rw [cell_blk h.bx]; rfl

end

set_option maxRecDepth 100000 in
set_option maxHeartbeats 4000000 in
theorem l06Forest_any (A : Option Addr) (n c : Nat) (B : Option Addr) (m d : Nat) (net : Net) (C : Option Addr) (l e : Nat) (zs : List Int) (w : World) (h : NetAt w A n c B m d net) (hz : Ints w C l e zs) (ok : NetOK net) (hl : l = n) (hs : ∀ j, -30000 ≤ ig zs j ∧ ig zs j ≤ 30000) :
    Calls Try.prog 90 #[.agg #[.slice A n c, .slice B m d], .slice C l e] w fun e w' => ∃ Af, e = .returned (.slice Af m m) ∧ Own w' Af m m (mapTo m ((netG net).ffl (ig zs))) ∧ Fresh w.heap.size Af ∧ Below w.heap.size w w' := by
  have hn24 : n ≤ 24 := by have := ok.n24; have := h.nodes.len; omega
  have hn1 : 1 ≤ n := by have := ok.n1; have := h.nodes.len; omega
  have hm40 : m ≤ 40 := by have := ok.m40; have := h.pipes.len; omega
  have HNn : Hid ((netG net).n = n) := Lib.hid h.nodes.len
  have HMm : Hid ((netG net).m = m) := Lib.hid h.pipes.len
  have hple := h.pipes.le
  have hpcap := h.pipes.cap
  subst hl
  have HS := Lib.hid hs
  clear hs
  have HB := Lib.hid (bel1 w (.cells #[.slice A l c, .slice B m d] 27))
  have bx0 : BX (w.alloc (.cells #[.slice A l c, .slice B m d] 27)) w.heap.size A l c B m d := ⟨heap_alloc_new w _⟩
  obtain ⟨W, hW⟩ : ∃ W, W = w.alloc (.cells #[.slice A l c, .slice B m d] 27) := ⟨_, rfl⟩
  have hWs : W.heap.size = w.heap.size + 1 := by rw [hW]; simp
  obtain ⟨bz, oz, hCe, hbz, hcz⟩ := hz.cells (by omega)
  subst hCe
  clear hcz
  go_enter Try.func90, Try.ntmps90
  go_wp2_with (first | (at_make; refine law_make _ rfl _ _ rfl m _ _ rfl rfl rfl rfl (by omega) ?_; intro w1 o1 b1 z1; have o0 := own_lit0 w1; have hz2 := hz.later (below_step (below_step HB.out b1) (bel1 w1 (.cells #[] 2)))) | (at_builtin; refine law_appendL _ rfl _ _ rfl _ _ _ _ rfl o0 _ _ _ _ rfl hz2 (by omega) ?_; rintro v' w2 ⟨Al, cl, rfl, o2, hb2⟩ hg2; have b2 : Below w1.heap.size w1 w2 := (bel1 w1 _).grown hg2 (by simp) (fun i hi => by simp at hi; omega); have bx2 := (bx0.step b1).step b2; have k0 := bx2.c0; have k1 := bx2.c1))
  rw [World.size_alloc] at o1
  rw [← hW] at b1 HB bx0
  rw [Nat.zero_add, List.nil_append] at o2
  have t1 := below_step HB.out b1
  have t2 := below_step t1 b2
  have q1 := b1.size
  have q2 := b2.size
  have oo1 := o1.lt _ rfl
  simp only at oo1
  obtain ⟨bl, rfl, hbl⟩ := o2.pos (by omega)
  have hfl : w1.heap.size ≤ bl := by
    rcases hb2 with hb2 | hb2
    · simp at hb2; omega
    · simp at hb2; omega
  refine (l04Components_any _ _ _ _ _ _ net _ (h.later t2) ok).mono ?_
  rintro e w5 ⟨Ac, rfl, o5, f5, b5⟩
  obtain ⟨bc, rfl, hbc⟩ := o5.pos (by omega)
  have hfc := f5 _ rfl
  simp only at hfc
  have q5 := b5.size
  have st0 : FV w A l c B m d w.heap.size (w.heap.size + 1) bl bc cl (netG net).comp ((netG net).fsK true (fun _ => 0, ig zs) 0).1 ((netG net).fsK true (fun _ => 0, ig zs) 0).2 w5 := by
    refine ⟨(bx2.step b5).box, ?_, ?_, o5, below_step t2 b5, Nat.le_refl _, by omega, by omega, by omega⟩
    · rw [show (netG net).fsK true (fun _ => 0, ig zs) 0 = (fun _ => 0, ig zs) from rfl, mapTo_const]
      exact (o1.later b2).later b5
    · rw [show (netG net).fsK true (fun _ => 0, ig zs) 0 = (fun _ => 0, ig zs) from rfl]
      have e : mapTo l (ig zs) = zs := ext_ig (by rw [mapTo_len, hz.len]) fun j hj => by rw [mapTo_len] at hj; exact mapTo_ig hj
      rw [e]
      exact o2.later b5
  clear hz o0 hz2 o1 o2 o5 b1 b2 b5 bx0 bx2 t1 t2 hW z1 HB k0 k1 hg2 hb2 hfl oo1
  have hlen : ∀ k, Lim (pw ((netG net).ordK k).length) ((netG net).fsK true (fun _ => 0, ig zs) k) := fun k => Gr.fsK_lim ⟨fun _ => ⟨by show (-30000 : Int) ≤ 0; decide, by show (0 : Int) ≤ 30000; decide⟩, HS.out⟩ k
  have HLIM := Lib.hid hlen
  clear hlen
  go_wp2_with fail
  go_loopw [8] (fun i wr => ∃ k : Nat, k ≤ l ∧ i = .int .i64 k ∧ FV w A l c B m d w.heap.size (w.heap.size + 1) bl bc cl (netG net).comp ((netG net).fsK true (fun _ => 0, ig zs) k).1 ((netG net).fsK true (fun _ => 0, ig zs) k).2 wr) (fun i _ => l - (intOf i).toNat)
  case atStart => exact ⟨0, by omega, rfl, st0⟩
  case round =>
    obtain ⟨k, hk, rfl, st⟩ := hrel
    clear st0
    by_cases hlt : k < l
    · have c1 := st.oC.cell hlt
      rw [mapTo_ig hlt] at c1
      by_cases hc : (netG net).comp k = k
      · rw [hc] at c1
        have HFK : Hid ((netG net).fsK true (fun _ => 0, ig zs) (k + 1) = (netG net).fsJ true k ((netG net).fsK true (fun _ => 0, ig zs) k) (((netG net).ord k).length - 1)) := Lib.hid (by show (if (netG net).comp k = k then _ else _) = _; rw [if_pos hc])
        have hkn : k < (netG net).n := by rw [HNn.out]; exact hlt
        have HRK : Hid ((netG net).root k = k) := Lib.hid ((Gr.root_comp ok.g hkn).1 hc)
        have HOS : Hid (((netG net).ordK k).length + ((netG net).ord k).length ≤ l) := Lib.hid (by have := Gr.ordK_step ok.g hkn hc; rw [HNn.out] at this; exact this)
        clear hc
        have k0 := st.c0
        have k1 := st.c1
        go_wp2_with fail
        refine (l04Search_any _ _ _ _ _ _ net k _ (h.later st.bel) ok hlt).mono ?_
        rintro e w6 ⟨Ao, lo, co, Ae, rfl, oo, oe, fo, fe, b6⟩
        have hlo := oo.len
        rw [nl_len] at hlo
        have hlo24 : lo ≤ l := by have := Gr.ord_len ok.g (r := k) hkn; rw [HNn.out] at this; omega
        have hlo1 : 1 ≤ lo := by have := List.length_pos_of_mem (Gr.ord_r ok.g (r := k) hkn); omega
        have HLO := Lib.hid hlo
        obtain ⟨ga, rfl, hga⟩ := oo.pos (by omega)
        obtain ⟨ge, rfl, hge⟩ := oe.pos (by omega)
        have hfo := fo _ rfl
        have hfe := fe _ rfl
        simp only at hfo hfe
        have hls := st.lt
        have st6 := st.later b6
        have e1 := st.h1
        have e2 := st.h2
        have e3 := st.h3
        clear k0 k1 c1 st b6 hlo
        obtain ⟨s0, hs0⟩ : ∃ s0, (netG net).fsK true (fun _ => 0, ig zs) k = s0 := ⟨_, rfl⟩
        have HL0 : Hid (Lim (pw ((netG net).ordK k).length) s0) := Lib.hid (by rw [← hs0]; exact HLIM.out k)
        rw [hs0] at st6 HFK
        clear hs0
        go_wp2_with fail
        go_loopw [11] (fun i wr => ∃ j : Nat, j ≤ lo - 1 ∧ i = .int .i64 ((lo - 1 - j : Nat) : Int) ∧ FV w A l c B m d w.heap.size (w.heap.size + 1) bl bc cl (netG net).comp ((netG net).fsJ true k s0 j).1 ((netG net).fsJ true k s0 j).2 wr ∧ Own wr (some ⟨ga, 0, none⟩) lo co (nl ((netG net).ord k)) ∧ Own wr (some ⟨ge, 0, none⟩) l l (mapTo l ((netG net).ent k))) (fun i _ => (intOf i).toNat)
        case atStart => exact ⟨0, by omega, by congr 1; omega, st6, oo, oe⟩
        case round =>
          obtain ⟨j, hj, rfl, st, oo, oe⟩ := hrel
          clear st6
          by_cases hjl : j < lo - 1
          · obtain ⟨i, hi⟩ : ∃ i, lo - 1 - j = i := ⟨_, rfl⟩
            have hi0 : 0 < i := by omega
            have hil : i < lo := by omega
            rw [hi]
            have hlim := HL0.out.fsJ (g := netG net) (z := true) (r := k) j
            have hos := HOS.out
            rw [HLO.out] at hos
            have hpw := pw_le (k := ((netG net).ordK k).length + j) (by omega)
            obtain ⟨v, q, y, hv, hvn, hvr, hvk, hvi, he, hfe', hqm, hjn, hoy, hyn, hyr, hyi⟩ := Gr.ord_at ok.g hkn HRK.out (i := i) (by rw [HLO.out]; exact hil) hi0
            have HFS0 : (netG net).fsJ true k s0 (j + 1) = (upd ((netG net).fsJ true k s0 j).1 q (if (netG net).f q = v then ((netG net).fsJ true k s0 j).2 v else -(((netG net).fsJ true k s0 j).2 v)), upd (upd ((netG net).fsJ true k s0 j).2 y (((netG net).fsJ true k s0 j).2 y + ((netG net).fsJ true k s0 j).2 v)) v 0) := by
              show (netG net).fs true k _ _ = _
              rw [HLO.out, hi, List.getD_eq_getElem?_getD, hv]
              show (netG net).fs true k _ v = _
              unfold Gr.fs
              rw [he, show ((q : Int)).toNat = q from rfl, hoy]; rfl
            obtain ⟨S, hS⟩ : ∃ S, (netG net).fsJ true k s0 j = S := ⟨_, rfl⟩
            rw [hS] at st hlim HFS0
            have HFS := Lib.hid HFS0
            clear HFS0 hS
            rw [HNn.out] at hvn hyn
            rw [HMm.out] at hqm
            have hvy : v ≠ y := by rintro rfl; have := ok.g q (by rw [HMm.out]; exact hqm); rcases hjn with ⟨a, b⟩ | ⟨a, b⟩ <;> omega
            have hSv := hlim.left v
            have hSy := hlim.left y
            have HTC : Hid ((netG net).f q = v ∨ (netG net).t q = v) := Lib.hid (Gr.touch_of_joins hjn)
            have co1 := oo.cell hil
            rw [nl_ig (by rw [HLO.out]; exact hil), show ((netG net).ord k)[i]'(by rw [HLO.out]; exact hil) = v from (List.getElem?_eq_some_iff.1 hv).2] at co1
            have ce := oe.cell hvn
            rw [mapTo_ig hvn, he] at ce
            have cl1 := st.oL.cell hvn
            rw [mapTo_ig hvn] at cl1
            have kb0 := st.c0
            have kb1 := st.c1
            obtain ⟨bp, offp, rfl, hblp, hcp⟩ := (h.pipes.later st.bel).cells (by omega)
            obtain ⟨p0, p1, p2, p3, p4⟩ := hcp q hqm
            have hpl : q < net.pipes.length := by rw [h.pipes.len]; exact hqm
            have cf1 := st.oF.cell hqm
            have uf1 := st.oF.unfrozen q
            rw [ok.fr hpl] at p0
            clear hcp hv hvr hvk hvi he hfe' hjn hyr hyi hlim p1 p2 p3 p4
            by_cases hfv : (netG net).f q = v
            · have g1 : (((netG net).f q : Int) != (v : Int)) = false := by simp [hfv]
              have HFI : Hid ((if (netG net).f q = v then S.2 v else -(S.2 v)) = S.2 v) := Lib.hid (by rw [if_pos hfv])
              have stu := st.putF q (z := S.2 v) ⟨by omega, by omega⟩
              have oou := oo.far (p := ⟨w.heap.size + 1, q, none⟩) (fun a ha => by injection ha with ha; subst ha; show ga ≠ w.heap.size + 1; omega) (.int .i64 (S.2 v))
              have oeu := oe.far (p := ⟨w.heap.size + 1, q, none⟩) (fun a ha => by injection ha with ha; subst ha; show ge ≠ w.heap.size + 1; omega) (.int .i64 (S.2 v))
              have kb0u := stu.c0
              have kb1u := stu.c1
              obtain ⟨wu, hwu⟩ : ∃ wu, wu = wr.setCell ⟨w.heap.size + 1, q, none⟩ (.int .i64 (S.2 v)) := ⟨_, rfl⟩
              have HWU := Lib.hid hwu
              have STU := Lib.hid stu
              have OOU := Lib.hid oou
              have OEU := Lib.hid oeu
              clear stu oou oeu st oo oe hwu hfv
              obtain ⟨F, hF⟩ : ∃ F, (netG net).f q = F := ⟨_, rfl⟩
              rw [hF] at p0 g1
              have HF := Lib.hid hF
              clear hF
              go_wp2_with fail
              refine (l02Other_any _ _ _ _ _ _ net q v _ (h.later STU.out.bel) ok hqm HTC.out).mono ?_
              rintro e w7 ⟨rfl, b7⟩
              rw [hoy]
              have st7 := STU.out.later b7
              have oo7 := OOU.out.later b7
              have oe7 := OEU.out.later b7
              clear cl1 kb0 kb1 kb0u kb1u p0 cf1 uf1 co1 ce STU OOU OEU HWU b7
              have cv := st7.oL.cell hvn
              rw [mapTo_ig hvn] at cv
              have cy := st7.oL.cell hyn
              rw [mapTo_ig hyn] at cy
              have uy := st7.oL.unfrozen y
              have uv := st7.oL.unfrozen v
              have st8 := (st7.putL y (z := S.2 y + S.2 v) ⟨by omega, by omega⟩).putL v (z := 0) ⟨by decide, by decide⟩
              have oo8 := (oo7.far (p := ⟨bl, y, none⟩) (fun a ha => by injection ha with ha; subst ha; show ga ≠ bl; omega) (.int .i64 (S.2 y + S.2 v))).far (p := ⟨bl, v, none⟩) (fun a ha => by injection ha with ha; subst ha; show ga ≠ bl; omega) (.int .i64 0)
              have oe8 := (oe7.far (p := ⟨bl, y, none⟩) (fun a ha => by injection ha with ha; subst ha; show ge ≠ bl; omega) (.int .i64 (S.2 y + S.2 v))).far (p := ⟨bl, v, none⟩) (fun a ha => by injection ha with ha; subst ha; show ge ≠ bl; omega) (.int .i64 0)
              have ST8 := Lib.hid st8
              have OO8 := Lib.hid oo8
              have OE8 := Lib.hid oe8
              clear st7 oo7 oe7 st8 oo8 oe8
              have HVY := Lib.hid hvy
              generalize S.2 v = X at *
              generalize S.2 y = Y at *
              go_wp2_with fail
              go_region
              go_wp2_with fail
              go_roundw
              case rel =>
                refine ⟨j + 1, by omega, by have := hi; congr 1; omega, ?_, OO8.out.later (Below.refl _ _).drew, OE8.out.later (Below.refl _ _).drew⟩
                rw [HFS.out, HFI.out]
                exact ST8.out.later (Below.refl _ _).drew
              case measure => simp [intOf]; omega
            · have g1 : (((netG net).f q : Int) != (v : Int)) = true := by simp; omega
              have HFI : Hid ((if (netG net).f q = v then S.2 v else -(S.2 v)) = -(S.2 v)) := Lib.hid (by rw [if_neg hfv])
              have stu := st.putF q (z := -(S.2 v)) ⟨by omega, by omega⟩
              have oou := oo.far (p := ⟨w.heap.size + 1, q, none⟩) (fun a ha => by injection ha with ha; subst ha; show ga ≠ w.heap.size + 1; omega) (.int .i64 (-(S.2 v)))
              have oeu := oe.far (p := ⟨w.heap.size + 1, q, none⟩) (fun a ha => by injection ha with ha; subst ha; show ge ≠ w.heap.size + 1; omega) (.int .i64 (-(S.2 v)))
              have kb0u := stu.c0
              have kb1u := stu.c1
              obtain ⟨wu, hwu⟩ : ∃ wu, wu = wr.setCell ⟨w.heap.size + 1, q, none⟩ (.int .i64 (-(S.2 v))) := ⟨_, rfl⟩
              have HWU := Lib.hid hwu
              have STU := Lib.hid stu
              have OOU := Lib.hid oou
              have OEU := Lib.hid oeu
              clear stu oou oeu st oo oe hwu hfv
              obtain ⟨F, hF⟩ : ∃ F, (netG net).f q = F := ⟨_, rfl⟩
              rw [hF] at p0 g1
              have HF := Lib.hid hF
              clear hF
              go_wp2_with fail
              refine (l02Other_any _ _ _ _ _ _ net q v _ (h.later STU.out.bel) ok hqm HTC.out).mono ?_
              rintro e w7 ⟨rfl, b7⟩
              rw [hoy]
              have st7 := STU.out.later b7
              have oo7 := OOU.out.later b7
              have oe7 := OEU.out.later b7
              clear cl1 kb0 kb1 kb0u kb1u p0 cf1 uf1 co1 ce STU OOU OEU HWU b7
              have cv := st7.oL.cell hvn
              rw [mapTo_ig hvn] at cv
              have cy := st7.oL.cell hyn
              rw [mapTo_ig hyn] at cy
              have uy := st7.oL.unfrozen y
              have uv := st7.oL.unfrozen v
              have st8 := (st7.putL y (z := S.2 y + S.2 v) ⟨by omega, by omega⟩).putL v (z := 0) ⟨by decide, by decide⟩
              have oo8 := (oo7.far (p := ⟨bl, y, none⟩) (fun a ha => by injection ha with ha; subst ha; show ga ≠ bl; omega) (.int .i64 (S.2 y + S.2 v))).far (p := ⟨bl, v, none⟩) (fun a ha => by injection ha with ha; subst ha; show ga ≠ bl; omega) (.int .i64 0)
              have oe8 := (oe7.far (p := ⟨bl, y, none⟩) (fun a ha => by injection ha with ha; subst ha; show ge ≠ bl; omega) (.int .i64 (S.2 y + S.2 v))).far (p := ⟨bl, v, none⟩) (fun a ha => by injection ha with ha; subst ha; show ge ≠ bl; omega) (.int .i64 0)
              have ST8 := Lib.hid st8
              have OO8 := Lib.hid oo8
              have OE8 := Lib.hid oe8
              clear st7 oo7 oe7 st8 oo8 oe8
              have HVY := Lib.hid hvy
              generalize S.2 v = X at *
              generalize S.2 y = Y at *
              go_wp2_with fail
              go_region
              go_wp2_with fail
              go_roundw
              case rel =>
                refine ⟨j + 1, by omega, by have := hi; congr 1; omega, ?_, OO8.out.later (Below.refl _ _).drew, OE8.out.later (Below.refl _ _).drew⟩
                rw [HFS.out, HFI.out]
                exact ST8.out.later (Below.refl _ _).drew
              case measure => simp [intOf]; omega
          · have hjl2 : lo - 1 - j = 0 := by omega
            have hjj : j = lo - 1 := by omega
            have hfk := HFK.out
            rw [HLO.out, ← hjj] at hfk
            rw [← hfk] at st
            rw [hjl2]
            have ST := Lib.hid st
            clear st hfk hjj hjl2 oo oe
            go_wp2_with fail
            go_roundw
            case rel => exact ⟨k + 1, by omega, by go_num, ST.out⟩
            case measure => simp [intOf]; omega
      · have hcb : ((netG net).comp k != (k : Int)) = true := by simp [hc]
        have hbn := Gr.cmp_bnd (g := netG net) (netG net).n k
        rw [show (netG net).cmp (netG net).n k = (netG net).comp k from rfl] at hbn
        have HK : Hid ((netG net).fsK true (fun _ => 0, ig zs) (k + 1) = (netG net).fsK true (fun _ => 0, ig zs) k) := Lib.hid (by show (if (netG net).comp k = k then _ else _) = _; rw [if_neg hc])
        rw [← HK.out] at st
        clear hc HK
        have ST := Lib.hid st
        clear st
        go_wp2_with fail
        go_roundw
        case rel => exact ⟨k + 1, by omega, by go_num, ST.out⟩
        case measure => simp [intOf]; omega
    · have hkl : l = k := by omega
      have HFF : Hid (mapTo m ((netG net).fsK true (fun _ => 0, ig zs) k).1 = mapTo m ((netG net).ffl (ig zs))) := Lib.hid (by
        have := Gr.fsK_ffl (z := true) (sup := ig zs) ok.g
        rw [HNn.out, HMm.out, hkl] at this; exact this)
      have ST := Lib.hid st
      clear hkl st
      go_wp2_with fail
      go_ret
      refine ⟨some ⟨w.heap.size + 1, 0, none⟩, rfl, ?_, (fun a ha => by injection ha with ha; subst ha; show w.heap.size ≤ w.heap.size + 1; omega), ST.out.bel⟩
      rw [← HFF.out]; exact ST.out.oF

end Go.Proofs.Ytioiebjgjimeiaa
