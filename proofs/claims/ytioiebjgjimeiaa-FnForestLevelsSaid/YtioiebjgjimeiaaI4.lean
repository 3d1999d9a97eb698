/- forest levels -/
import Derived.Test.YtioiebjgjimeiaaH9
namespace Go.Proofs.Ytioiebjgjimeiaa
open Go.RowKit

/-- the drop of each pipe for a flow list -/
def drF (net : Net) (zs : List Int) (e : Nat) : Int := drp (pp net.pipes e).k (ig zs e)
theorem ppk_bnd {net : Net} (hv : netB net = true) (e : Nat) : 0 ≤ (pp net.pipes e).k ∧ (pp net.pipes e).k ≤ 1000 := by
  rcases Nat.lt_or_ge e net.pipes.length with h | h
  · have := netB_pipe_at hv h; omega
  · have : pp net.pipes e = pipe0 := by unfold pp; rw [List.getD_eq_getElem?_getD, List.getElem?_eq_none h]; rfl
    rw [this]; exact ⟨by decide, by decide⟩
theorem drF_bnd {net : Net} {zs : List Int} (hv : netB net = true) (hs : flowB net zs = true) (e : Nat) : -900000000000 ≤ drF net zs e ∧ drF net zs e ≤ 900000000000 := by
  have h1 := flowB_all hs e
  have h2 := ppk_bnd hv e
  exact drp_bnd (by omega) h2.2 h1.1 h1.2
theorem levS_lim {net : Net} {zs : List Int} (hv : netB net = true) (hs : flowB net zs = true) (j : Nat) (hj : j ≤ 24) (v : Nat) : -21600000000000 ≤ (netG net).levS (drF net zs) j v ∧ (netG net).levS (drF net zs) j v ≤ 21600000000000 := by
  have := Gr.levS_bnd (g := netG net) (dr := drF net zs) (M := 900000000000) (by omega) (drF_bnd hv hs) j v
  omega
theorem base_lim {net : Net} {zs : List Int} (hv : netB net = true) (hs : flowB net zs = true) (v : Nat) : -21600000000000 ≤ (netG net).base (drF net zs) v ∧ (netG net).base (drF net zs) v ≤ 21600000000000 := by
  have hok := NetOK.of hv
  have hl := Gr.ord_len hok.g (r := 0) (by have := hok.n1; show 0 < net.nodes.length; omega)
  have h24 : (netG net).n ≤ 24 := hok.n24
  exact levS_lim hv hs _ (by omega) v
/-- the forest levels of a network -/
def levL (net : Net) (zs : List Int) (root : Nat) (level : Int) : List Int := mapTo net.nodes.length ((netG net).lev (drF net zs) root level)
theorem levL_ig {net : Net} {zs : List Int} {root v : Nat} {level : Int} (h : v < net.nodes.length) : ig (levL net zs root level) v = (netG net).lev (drF net zs) root level v := mapTo_ig h
theorem levL_len (net : Net) (zs : List Int) (root : Nat) (level : Int) : (levL net zs root level).length = net.nodes.length := mapTo_len _ _
theorem lev_lim {net : Net} {zs : List Int} (hv : netB net = true) (hs : flowB net zs = true) {root : Nat} {level : Int} (hl : -500000000000000000 ≤ level ∧ level ≤ 500000000000000000) (v : Nat) :
    -500043200000000000 ≤ (netG net).lev (drF net zs) root level v ∧ (netG net).lev (drF net zs) root level v ≤ 500043200000000000 := by
  have h1 := base_lim hv hs v
  have h2 := base_lim hv hs root
  unfold Gr.lev
  omega
theorem lev0_lim {net : Net} {zs : List Int} (hv : netB net = true) (hs : flowB net zs = true) {root : Nat} (v : Nat) :
    -43200000000000 ≤ (netG net).lev (drF net zs) root 0 v ∧ (netG net).lev (drF net zs) root 0 v ≤ 43200000000000 := by
  have h1 := base_lim hv hs v
  have h2 := base_lim hv hs root
  unfold Gr.lev
  omega

theorem grown_cell {w w' : World} {r : Nat} (hg : w.grownBy w' (some r)) {p : Addr} (h1 : p.block < w.heap.size) (h2 : p.block ≠ r) : w'.cell? p = w.cell? p :=
  World.cell?_of_block (hg.block p.block h1 (fun e => h2 (by injection e)))
theorem Own.off {w w' : World} {r : Nat} {A : Option Addr} {n c : Nat} {zs : List Int} (h : Own w A n c zs) (hg : w.grownBy w' (some r)) (hne : ∀ a, A = some a → a.block ≠ r) : Own w' A n c zs :=
  h.keep fun a ha => hg.block _ (h.lt a ha) (fun e => hne a ha (by injection e))
theorem grown_alloc {w0 w w' : World} {r : Nat} (hg : w0.grownBy w (some r)) (hb : Below w.heap.size w w') : w0.grownBy w' (some r) :=
  ⟨hb.os.trans hg.os, hb.tape.trans hg.tape, hb.output.trans hg.output, Nat.le_trans hg.size hb.size, fun k hk hne => (hb.block k (Nat.lt_of_lt_of_le hk hg.size)).trans (hg.block k hk hne)⟩
theorem grown_put {w0 w : World} {r j : Nat} (hg : w0.grownBy w (some r)) (u : Value) : w0.grownBy (w.setCell ⟨r, j, none⟩ u) (some r) :=
  ⟨hg.os, hg.tape, hg.output, by simpa [World.setCell] using hg.size, fun k hk hne => (Below.heap_setCell w ⟨r, j, none⟩ u k (fun e => hne (by rw [e]))).trans (hg.block k hk hne)⟩

theorem Gr.levS_at {g : Gr} {dr : Nat → Int} {j x e : Nat} (hx : (g.ord 0)[j + 1]? = some x) (he : g.ent 0 x = e) :
    g.levS dr (j + 1) = upd (g.levS dr j) x (if g.t e = x then g.levS dr j (g.f e) - dr e else g.levS dr j (g.t e) + dr e) := by
  simp [Gr.levS, hx, he]

/-- the first k levels have been moved -/
def levK (net : Net) (zs : List Int) (root : Nat) (level : Int) (k v : Nat) : Int := (netG net).base (drF net zs) v + if v < k then level - (netG net).base (drF net zs) root else 0
theorem levK_zero {net : Net} {zs : List Int} {root : Nat} {level : Int} : levK net zs root level 0 = (netG net).base (drF net zs) := funext fun v => by unfold levK; simp
theorem levK_at {net : Net} {zs : List Int} {root : Nat} {level : Int} {k : Nat} : levK net zs root level k k = (netG net).base (drF net zs) k := by unfold levK; simp
theorem levK_set {net : Net} {zs : List Int} {root n : Nat} {level : Int} {k : Nat} : (mapTo n (levK net zs root level k)).set k ((netG net).base (drF net zs) k + (level - (netG net).base (drF net zs) root)) = mapTo n (levK net zs root level (k + 1)) := mapTo_set fun v _ => by
  unfold levK
  by_cases e : k = v
  · subst e; simp
  · rw [if_neg e]
    by_cases h : v < k
    · rw [if_pos h, if_pos (by omega)]
    · rw [if_neg h, if_neg (by omega)]
theorem levK_end {net : Net} {zs : List Int} {root n : Nat} {level : Int} : mapTo n (levK net zs root level n) = mapTo n ((netG net).lev (drF net zs) root level) := List.map_congr_left fun v hv => by simp [levK, Gr.lev, List.mem_range.1 hv]

set_option maxRecDepth 100000 in
set_option maxHeartbeats 4000000 in
theorem forestLevels_any (A : Option Addr) (n c : Nat) (B : Option Addr) (m d : Nat) (net : Net) (C : Option Addr) (l e : Nat) (zs : List Int) (root : Nat) (level : Int) (w : World) (h : NetAt w A n c B m d net) (hz : Ints w C l e zs) (hv : netB net = true) (hs : flowB net zs = true) (hr : root < n) (hl : -500000000000000000 ≤ level ∧ level ≤ 500000000000000000) :
    Calls Try.prog 96 #[.agg #[.slice A n c, .slice B m d], .slice C l e, .int .i64 root, .int .i64 level] w fun e w' => ∃ Al, e = .returned (.slice Al n n) ∧ Own w' Al n n (levL net zs root level) ∧ Fresh w.heap.size Al ∧ Below w.heap.size w w' := by
  have ok := NetOK.of hv
  have hn24 : n ≤ 24 := by have := ok.n24; have := h.nodes.len; omega
  have hm40 : m ≤ 40 := by have := ok.m40; have := h.pipes.len; omega
  have HNn : Hid ((netG net).n = n) := Lib.hid h.nodes.len
  have HMm : Hid ((netG net).m = m) := Lib.hid h.pipes.len
  have hlm : m = l := by have := flowB_len hs; have := h.pipes.len; have := hz.len; omega
  subst hlm
  have hple := h.pipes.le
  have hpcap := h.pipes.cap
  have HV := Lib.hid hv
  have HS := Lib.hid hs
  clear hv hs
  have HB := Lib.hid (bel1 w (.cells #[.slice A n c, .slice B m d] 27))
  have bx0 : BX (w.alloc (.cells #[.slice A n c, .slice B m d] 27)) w.heap.size A n c B m d := ⟨heap_alloc_new w _⟩
  obtain ⟨W, hW⟩ : ∃ W, W = w.alloc (.cells #[.slice A n c, .slice B m d] 27) := ⟨_, rfl⟩
  have hWs : W.heap.size = w.heap.size + 1 := by rw [hW]; simp
  go_enter Try.func96, Try.ntmps96
  go_wp2_with (at_make; refine law_make _ rfl _ _ rfl n _ _ rfl rfl rfl rfl (by omega) ?_; intro w1 o1 b1 z1; have kx := bx0.step b1; have k0 := kx.c0; have k1 := kx.c1)
  rw [World.size_alloc] at o1
  rw [← hW] at b1 HB bx0
  have t1 := below_step HB.out b1
  refine (searchFrom_any _ _ _ _ _ _ net 0 _ (h.later t1) ok (by omega)).mono ?_
  rintro e w2 ⟨Ao, lo, co, Ad, Ae, rfl, oo, oe, fo, fe, b2⟩
  have hlo := oo.len
  rw [nl_len] at hlo
  have h0n : 0 < (netG net).n := by rw [HNn.out]; omega
  have hlo24 : lo ≤ n := by have := Gr.ord_len ok.g (r := 0) h0n; rw [HNn.out] at this; omega
  have hlo1 : 1 ≤ lo := by have := List.length_pos_of_mem (Gr.ord_r ok.g (r := 0) h0n); omega
  have HLO := Lib.hid hlo
  obtain ⟨ga, rfl, hga⟩ := oo.pos (by omega)
  obtain ⟨ge, rfl, hge⟩ := oe.pos (by omega)
  have hfo := fo _ rfl
  have hfe := fe _ rfl
  have oo1 := o1.lt _ rfl
  simp only at hfo hfe oo1
  have hw12 := b2.size
  have hco := oo.ints.le
  have hco2 := oo.ints.cap
  have o12 := o1.later b2
  rw [show List.replicate n (0 : Int) = mapTo n ((netG net).levS (drF net zs) 0) from (mapTo_const n 0).symm] at o12
  obtain ⟨Wb, hWb⟩ : ∃ Wb, Wb = w2.alloc (.cells #[.slice (some ⟨ga, 0, none⟩) lo co, .slice Ad n n, .slice (some ⟨ge, 0, none⟩) n n] 118) := ⟨_, rfl⟩
  have hWbs : Wb.heap.size = w2.heap.size + 1 := by rw [hWb]; simp
  have bWb := bel1 w2 (.cells #[.slice (some ⟨ga, 0, none⟩) lo co, .slice Ad n n, .slice (some ⟨ge, 0, none⟩) n n] 118)
  have xb := heap_alloc_new w2 (.cells #[.slice (some ⟨ga, 0, none⟩) lo co, .slice Ad n n, .slice (some ⟨ge, 0, none⟩) n n] 118)
  rw [← hWb] at bWb xb
  have tb := below_step (below_step t1 b2) bWb
  have bxb := (kx.step b2).step bWb
  have OO := Lib.hid (oo.later bWb)
  have OE := Lib.hid (oe.later bWb)
  have o3 := o12.later bWb
  have HWb := Lib.hid hWb
  have XB := Lib.hid xb
  have y0 : Wb.cell? ⟨w2.heap.size, 0, none⟩ = some (.slice (some ⟨ga, 0, none⟩) lo co) := by rw [cell_blk xb]; rfl
  have Y2 : Hid (Wb.cell? ⟨w2.heap.size, 2, none⟩ = some (.slice (some ⟨ge, 0, none⟩) n n)) := Lib.hid (by rw [cell_blk xb]; rfl)
  rw [hWb] at y0
  clear k0 k1 kx hWb xb o12 oo oe o1 hlo hW z1
  have hnet := h
  clear h
  go_wp2_with fail
  case inl =>
    subst h
    rw [← HWb.out]
    clear y0 HWb
    have hlo2 : lo = 1 := by omega
    go_loopw [28] (fun i wr => ∃ k : Nat, k ≤ lo - 1 ∧ i = .int .i64 k ∧ Own wr (some ⟨w.heap.size + 1, 0, none⟩) n n (mapTo n ((netG net).levS (drF net zs) k)) ∧ Wb.grownBy wr (some (w.heap.size + 1)) ∧ Below w.heap.size w wr) (fun i _ => lo - 1 - (intOf i).toNat)
    case atStart => exact ⟨0, by omega, rfl, o3, World.grownBy.refl _ _, tb⟩
    case round =>
      obtain ⟨k, hk, rfl, ol, hg, hb⟩ := hrel
      clear o3
      by_cases hlt : k < lo - 1
      · exact absurd hlt (by omega)
      · have hkl : lo - 1 = k := by omega
        have HBS : Hid ((netG net).levS (drF net zs) k = (netG net).base (drF net zs)) := Lib.hid (by unfold Gr.base; rw [HLO.out, hkl])
        rw [HBS.out] at ol
        have cr := ol.cell hr
        rw [mapTo_ig hr] at cr
        have hbr := base_lim HV.out HS.out root
        clear hlt
        go_wp2_with fail
        go_loopw [81] (fun i wr => ∃ k : Nat, k ≤ n ∧ i = .int .i64 k ∧ Own wr (some ⟨w.heap.size + 1, 0, none⟩) n n (mapTo n (levK net zs root level k)) ∧ Below w.heap.size w wr) (fun i _ => n - (intOf i).toNat)
        case atStart => exact ⟨0, by omega, rfl, by rw [levK_zero]; exact ol, hb⟩
        case round =>
          obtain ⟨k, hk, rfl, ol, hb⟩ := hrel
          by_cases hlt : k < n
          · have c1 := ol.cell hlt
            rw [mapTo_ig hlt, levK_at] at c1
            have u1 := ol.unfrozen k
            have hbk := base_lim HV.out HS.out k
            have ol' := ol.store k (z := (netG net).base (drF net zs) k + (level - (netG net).base (drF net zs) root)) ⟨by omega, by omega⟩
            rw [levK_set] at ol'
            have hb' := hb.setCell (p := ⟨w.heap.size + 1, k, none⟩) (by show w.heap.size ≤ w.heap.size + 1; omega) (.int .i64 ((netG net).base (drF net zs) k + (level - (netG net).base (drF net zs) root)))
            have OL := Lib.hid ol'
            have HB' := Lib.hid hb'
            clear ol ol' hb'
            generalize (netG net).base (drF net zs) k = X at *
            generalize (netG net).base (drF net zs) root = Y at *
            go_wp2_with fail
            go_roundw
            case rel => exact ⟨k + 1, by omega, by go_num, OL.out, HB'.out⟩
            case measure => simp [intOf]; omega
          · have hkn : n = k := by omega
            subst hkn
            rw [levK_end] at ol
            have HN2 := Lib.hid hnet.nodes.len
            go_wp2_with fail
            go_ret
            refine ⟨_, rfl, ?_, (fun a ha => by injection ha with ha; subst ha; show w.heap.size ≤ w.heap.size + 1; omega), hb⟩
            unfold levL
            rw [HN2.out]; exact ol
  case inr =>
    rw [← HWb.out]
    clear y0 HWb
    go_loopw [28] (fun i wr => ∃ k : Nat, k ≤ lo - 1 ∧ i = .int .i64 k ∧ Own wr (some ⟨w.heap.size + 1, 0, none⟩) n n (mapTo n ((netG net).levS (drF net zs) k)) ∧ Wb.grownBy wr (some (w.heap.size + 1)) ∧ Below w.heap.size w wr) (fun i _ => lo - 1 - (intOf i).toNat)
    case atStart => exact ⟨0, by omega, rfl, o3, World.grownBy.refl _ _, tb⟩
    case round =>
      obtain ⟨k, hk, rfl, ol, hg, hb⟩ := hrel
      clear o3
      by_cases hlt : k < lo - 1
      · have hlt' : k + 1 < ((netG net).ord 0).length := by rw [HLO.out]; omega
        obtain ⟨x, hx⟩ : ∃ x, ((netG net).ord 0)[k + 1]? = some x := ⟨_, List.getElem?_eq_getElem hlt'⟩
        have hord := Gr.ord_inv ok.g (r := 0) h0n
        have hxm := List.mem_of_getElem? hx
        have hxn : x < n := by have := hord.lt x hxm; rw [HNn.out] at this; exact this
        have hxi := idxOf_at hord.nodup hx
        have hx0 : x ≠ 0 := by rintro rfl; have := Gr.idxOf_r ok.g (a := 0) h0n; unfold Gr.ord at this; omega
        obtain ⟨p, hp1, hp2, y, hy, hy2, hj⟩ := hord.ent x hxm hx0
        have hent : (netG net).ent 0 x = p := hp1
        rw [HMm.out] at hp2
        have HL := Lib.hid (Gr.levS_at (dr := drF net zs) hx hent)
        have oo := OO.out.off hg (fun a ha => by injection ha with ha; subst ha; show ga ≠ _; omega)
        have oe := OE.out.off hg (fun a ha => by injection ha with ha; subst ha; show ge ≠ _; omega)
        have cx := oo.cell (j := k + 1) (by omega)
        rw [nl_ig hlt', show ((netG net).ord 0)[k + 1] = x from (List.getElem?_eq_some_iff.1 hx).2, Nat.add_comm k 1] at cx
        have ce := oe.cell hxn
        rw [mapTo_ig hxn, hent] at ce
        have y2 := (grown_cell hg (p := ⟨w2.heap.size, 2, none⟩) (by show w2.heap.size < _; omega) (by show w2.heap.size ≠ _; omega)).trans Y2.out
        have kb1 := (grown_cell hg (p := ⟨w.heap.size, 1, none⟩) (by show w.heap.size < _; omega) (by show w.heap.size ≠ _; omega)).trans bxb.c1
        obtain ⟨bp, offp, rfl, hblp, hcp⟩ := (hnet.pipes.later hb).cells (by omega)
        obtain ⟨c0, c1, c2, c3, c4⟩ := hcp p hp2
        have hpl : p < net.pipes.length := by rw [hnet.pipes.len]; exact hp2
        have hpk := netB_pipe_at HV.out hpl
        rw [ok.fr hpl] at c0
        rw [ok.to hpl] at c1
        obtain ⟨bb, off, rfl, hbl, hc⟩ := (hz.later hb).cells (by omega)
        have hck := hc p hp2
        have hzp := flowB_all HS.out p
        have hgp := ok.g p hpl
        rw [HNn.out] at hgp
        have hbs := hb.size
        have hgs := hg.size
        obtain ⟨wq, hwq, bq, n0, n1, n2, n3, n4⟩ := pipe_box wr (pp net.pipes p)
        rw [ok.fr hpl] at n0 hwq
        rw [ok.to hpl] at n1 hwq
        have hckq := (bq.cell (p := ⟨bb, off + p, none⟩) hbl).trans hck
        have hdF : drp (pp net.pipes p).k (ig zs p) = drF net zs p := rfl
        clear hcp hc hx hxi hord hxm hx0 hp1 hy hy2 hj hent hlt'
        have OLQ := Lib.hid (ol.later bq)
        have GQ := Lib.hid (grown_alloc hg bq)
        have BQ := Lib.hid (below_step hb bq)
        clear ol
        go_wp2_with fail
        rw [← hwq]
        clear c0 c1 c2 c3 c4 hwq cx ce y2 kb1 hck
        go_still_tail 5, (by kernel_rfl)
        change wpList _ _ _ _ _ wq.drew
        go_wp2_with fail
        refine (dropOf_any _ _ _ _ _ _ _ (by omega) hzp).mono ?_
        rintro e w5 ⟨rfl, b5'⟩
        have b5 : Below wq.heap.size wq w5 := (Below.refl _ _).drew.trans b5'
        rw [hdF]
        have hDb := drF_bnd HV.out HS.out p
        have sq := bq.size
        have hszq : wr.heap.size < wq.heap.size := World.block_lt_of_cell? _ _ n0
        have n05 := (b5.cell (p := ⟨wr.heap.size, 0, none⟩) hszq).trans n0
        have n15 := (b5.cell (p := ⟨wr.heap.size, 1, none⟩) hszq).trans n1
        have ol5 := OLQ.out.later b5
        have hg5 := grown_alloc GQ.out b5
        have hb5 := below_step BQ.out b5
        have c6 := ol5.cell hxn
        have u6 := ol5.unfrozen x
        have hF5 := ol5.cell hgp.1
        rw [mapTo_ig hgp.1] at hF5
        have hT5 := ol5.cell hgp.2.1
        rw [mapTo_ig hgp.2.1] at hT5
        have lF := levS_lim HV.out HS.out k (by omega) ((netG net).f p)
        have lT := levS_lim HV.out HS.out k (by omega) ((netG net).t p)
        clear n0 n1 n2 n3 n4 hckq b5' hdF OLQ GQ BQ
        by_cases htx : (netG net).t p = x
        · have g1 : (((netG net).t p : Int) == (x : Int)) = true := by simp [htx]
          have ol' := ol5.store x (z := (netG net).levS (drF net zs) k ((netG net).f p) - drF net zs p) ⟨by omega, by omega⟩
          rw [mapTo_upd] at ol'
          rw [if_pos htx] at HL
          rw [← HL.out] at ol'
          have OL := Lib.hid ol'
          have HB' := Lib.hid (hb5.setCell (p := ⟨w.heap.size + 1, x, none⟩) (by show w.heap.size ≤ w.heap.size + 1; omega) (.int .i64 ((netG net).levS (drF net zs) k ((netG net).f p) - drF net zs p)))
          have HG' := Lib.hid (grown_put (j := x) hg5 (.int .i64 ((netG net).levS (drF net zs) k ((netG net).f p) - drF net zs p)))
          clear ol5 ol' hb5 hg5 htx hT5
          generalize (netG net).levS (drF net zs) k ((netG net).f p) = X at *
          generalize drF net zs p = D at *
          generalize (netG net).f p = F at *
          generalize (netG net).t p = T at *
          go_wp2_with fail
          go_roundw
          case rel => exact ⟨k + 1, by omega, by go_num, OL.out, HG'.out, HB'.out⟩
          case measure => simp [intOf]; omega
        · have g1 : (((netG net).t p : Int) == (x : Int)) = false := by simp; omega
          have ol' := ol5.store x (z := (netG net).levS (drF net zs) k ((netG net).t p) + drF net zs p) ⟨by omega, by omega⟩
          rw [mapTo_upd] at ol'
          rw [if_neg htx] at HL
          rw [← HL.out] at ol'
          have OL := Lib.hid ol'
          have HB' := Lib.hid (hb5.setCell (p := ⟨w.heap.size + 1, x, none⟩) (by show w.heap.size ≤ w.heap.size + 1; omega) (.int .i64 ((netG net).levS (drF net zs) k ((netG net).t p) + drF net zs p)))
          have HG' := Lib.hid (grown_put (j := x) hg5 (.int .i64 ((netG net).levS (drF net zs) k ((netG net).t p) + drF net zs p)))
          clear ol5 ol' hb5 hg5 htx hF5
          generalize (netG net).levS (drF net zs) k ((netG net).t p) = X at *
          generalize drF net zs p = D at *
          generalize (netG net).f p = F at *
          generalize (netG net).t p = T at *
          go_wp2_with fail
          go_roundw
          case rel => exact ⟨k + 1, by omega, by go_num, OL.out, HG'.out, HB'.out⟩
          case measure => simp [intOf]; omega
      · have hkl : lo - 1 = k := by omega
        have HBS : Hid ((netG net).levS (drF net zs) k = (netG net).base (drF net zs)) := Lib.hid (by unfold Gr.base; rw [HLO.out, hkl])
        rw [HBS.out] at ol
        have cr := ol.cell hr
        rw [mapTo_ig hr] at cr
        have hbr := base_lim HV.out HS.out root
        clear hlt
        go_wp2_with fail
        go_loopw [81] (fun i wr => ∃ k : Nat, k ≤ n ∧ i = .int .i64 k ∧ Own wr (some ⟨w.heap.size + 1, 0, none⟩) n n (mapTo n (levK net zs root level k)) ∧ Below w.heap.size w wr) (fun i _ => n - (intOf i).toNat)
        case atStart => exact ⟨0, by omega, rfl, by rw [levK_zero]; exact ol, hb⟩
        case round =>
          obtain ⟨k, hk, rfl, ol, hb⟩ := hrel
          by_cases hlt : k < n
          · have c1 := ol.cell hlt
            rw [mapTo_ig hlt, levK_at] at c1
            have u1 := ol.unfrozen k
            have hbk := base_lim HV.out HS.out k
            have ol' := ol.store k (z := (netG net).base (drF net zs) k + (level - (netG net).base (drF net zs) root)) ⟨by omega, by omega⟩
            rw [levK_set] at ol'
            have hb' := hb.setCell (p := ⟨w.heap.size + 1, k, none⟩) (by show w.heap.size ≤ w.heap.size + 1; omega) (.int .i64 ((netG net).base (drF net zs) k + (level - (netG net).base (drF net zs) root)))
            have OL := Lib.hid ol'
            have HB' := Lib.hid hb'
            clear ol ol' hb'
            generalize (netG net).base (drF net zs) k = X at *
            generalize (netG net).base (drF net zs) root = Y at *
            go_wp2_with fail
            go_roundw
            case rel => exact ⟨k + 1, by omega, by go_num, OL.out, HB'.out⟩
            case measure => simp [intOf]; omega
          · have hkn : n = k := by omega
            subst hkn
            rw [levK_end] at ol
            have HN2 := Lib.hid hnet.nodes.len
            go_wp2_with fail
            go_ret
            refine ⟨_, rfl, ?_, (fun a ha => by injection ha with ha; subst ha; show w.heap.size ≤ w.heap.size + 1; omega), hb⟩
            unfold levL
            rw [HN2.out]; exact ol

end Go.Proofs.Ytioiebjgjimeiaa

/- forest levels: the reference -/
namespace Go.Proofs.Ytioiebjgjimeiaa
open Go.RowKit

def Gr.levT (g : Gr) (dr : Nat → Int) (root : Nat) (level : Int) (k v : Nat) : Int := if v ∈ (g.tree.ord root).take k then g.lev dr root level v else 0
theorem Gr.tree_head {g : Gr} (ok : g.ok) {root : Nat} (hr : root < g.n) : (g.tree.ord root).take 1 = [root] := by
  obtain ⟨l, hl⟩ := (Gr.ord_inv (Gr.tree_ok ok) (r := root) hr).head
  have : g.tree.ord root = root :: l := hl
  rw [this]; rfl
theorem Gr.levT_one {g : Gr} (ok : g.ok) {dr : Nat → Int} {root n : Nat} {level : Int} (hr : root < g.n) : (List.replicate n 0).set root level = mapTo n (g.levT dr root level 1) := by
  rw [← mapTo_const]
  refine mapTo_set fun v _ => ?_
  unfold Gr.levT
  rw [Gr.tree_head ok hr]
  by_cases e : root = v
  · subst e; simp [Gr.lev_root]
  · have : ¬ v = root := fun h => e h.symm
    simp [e, this]
theorem Gr.levT_succ {g : Gr} {dr : Nat → Int} {root n k x : Nat} {level : Int} (hx : (g.tree.ord root)[k]? = some x) : (mapTo n (g.levT dr root level k)).set x (g.lev dr root level x) = mapTo n (g.levT dr root level (k + 1)) := mapTo_set fun v _ => by
  unfold Gr.levT
  rw [List.take_add_one, hx]
  simp only [Option.toList_some, List.mem_append, List.mem_singleton]
  by_cases e : x = v
  · subst e; simp
  · have : ¬ v = x := fun h => e h.symm
    simp [e, this]
theorem Gr.levT_end {g : Gr} (ok : g.ok) (hn : 0 < g.n) (hc : g.conn = true) {dr : Nat → Int} {root k : Nat} {level : Int} (hr : root < g.n) (hk : (g.tree.ord root).length ≤ k) : mapTo g.n (g.levT dr root level k) = mapTo g.n (g.lev dr root level) := List.map_congr_left fun v hv => by
  have hv' := List.mem_range.1 hv
  have hc' := (Gr.conn_iff ok hn).1 hc
  unfold Gr.levT
  rw [List.take_of_length_le hk, if_pos (Gr.tree_reach ok hr hv' (by rw [hc' _ hr, hc' _ hv']))]
/-- one step along the tree -/
theorem Gr.tree_step {g : Gr} (ok : g.ok) {root k x : Nat} (hr : root < g.n) (hk : 1 ≤ k) (hx : (g.tree.ord root)[k]? = some x) :
    ∃ p y : Nat, g.tree.ent root x = p ∧ p < g.forest.length ∧ (g.tree.f p = x ∨ g.tree.t p = x) ∧ g.tree.oth p x = y ∧ y ∈ (g.tree.ord root).take k ∧ x < g.n ∧ y < g.n := by
  have hT := Gr.tree_ok ok
  have hord := Gr.ord_inv hT (r := root) hr
  have hxm := List.mem_of_getElem? hx
  have hxi : (g.tree.ord root).idxOf x = k := idxOf_at hord.nodup hx
  have hx0 : x ≠ root := by rintro rfl; have := Gr.idxOf_r hT (a := x) hr; omega
  obtain ⟨p, h1, h2, y, hy, h3, h4⟩ := hord.ent x hxm hx0
  have h3' : (g.tree.ord root).idxOf y < (g.tree.ord root).idxOf x := h3
  have hxy : x ≠ y := by rintro rfl; omega
  refine ⟨p, y, h1, h2, Gr.touch_of_joins h4, Gr.oth_of_joins h4 hxy, ?_, hord.lt x hxm, hord.lt y hy⟩
  have hyl : (g.tree.ord root).idxOf y < (g.tree.ord root).length := List.idxOf_lt_length_of_mem hy
  have : (g.tree.ord root)[(g.tree.ord root).idxOf y] = y := List.getElem_idxOf hyl
  rw [← this]
  rw [List.mem_take_iff_getElem]
  exact ⟨(g.tree.ord root).idxOf y, by omega, rfl⟩
theorem Gr.lev_step {g : Gr} (ok : g.ok) (hn : 0 < g.n) (hc : g.conn = true) {dr : Nat → Int} {root : Nat} {level : Int} {p x : Nat} (hp : p < g.forest.length) (hx : g.tree.f p = x ∨ g.tree.t p = x) :
    g.lev dr root level x = if g.tree.f p = x then g.lev dr root level (g.tree.oth p x) + dr (g.idx p) else g.lev dr root level (g.tree.oth p x) - dr (g.idx p) := by
  have hF := (Gr.idx_mem hp).2
  have hl := Gr.lev_lv ok hn hc dr root level (g.idx p) hF
  have e1 : g.tree.f p = g.f (g.idx p) := rfl
  have e2 : g.tree.t p = g.t (g.idx p) := rfl
  unfold Gr.oth
  by_cases hf : g.tree.f p = x
  · rw [if_pos hf, if_pos hf, e2]
    rw [e1] at hf
    rw [← hf]; omega
  · rw [if_neg hf, if_neg hf]
    have ht : g.tree.t p = x := hx.resolve_left hf
    rw [e1]
    rw [e2] at ht
    rw [← ht]; omega

set_option maxRecDepth 100000 in
set_option maxHeartbeats 4000000 in
theorem l07Levels_any (A : Option Addr) (n c : Nat) (B : Option Addr) (m d : Nat) (net : Net) (C : Option Addr) (l e : Nat) (zs : List Int) (root : Nat) (level : Int) (w : World) (h : NetAt w A n c B m d net) (hz : Ints w C l e zs) (hv : netB net = true) (hs : flowB net zs = true) (hcn : (netG net).conn = true) (hr : root < n) (hl : -500000000000000000 ≤ level ∧ level ≤ 500000000000000000) :
    Calls Try.prog 103 #[.agg #[.slice A n c, .slice B m d], .slice C l e, .int .i64 root, .int .i64 level] w fun e w' => ∃ Al, e = .returned (.slice Al n n) ∧ Own w' Al n n (levL net zs root level) ∧ Fresh w.heap.size Al ∧ Below w.heap.size w w' := by
  have ok := NetOK.of hv
  have hn24 : n ≤ 24 := by have := ok.n24; have := h.nodes.len; omega
  have hm40 : m ≤ 40 := by have := ok.m40; have := h.pipes.len; omega
  have HNn : Hid ((netG net).n = n) := Lib.hid h.nodes.len
  have HMm : Hid ((netG net).m = m) := Lib.hid h.pipes.len
  have hlm : m = l := by have := flowB_len hs; have := h.pipes.len; have := hz.len; omega
  subst hlm
  have hrg : root < (netG net).n := by rw [HNn.out]; exact hr
  have h0n : 0 < (netG net).n := by omega
  have HV := Lib.hid hv
  have HS := Lib.hid hs
  have HCN := Lib.hid hcn
  clear hv hs hcn
  have HB := Lib.hid (bel1 w (.cells #[.slice A n c, .slice B m d] 27))
  have bx0 : BX (w.alloc (.cells #[.slice A n c, .slice B m d] 27)) w.heap.size A n c B m d := ⟨heap_alloc_new w _⟩
  obtain ⟨W, hW⟩ : ∃ W, W = w.alloc (.cells #[.slice A n c, .slice B m d] 27) := ⟨_, rfl⟩
  have hWs : W.heap.size = w.heap.size + 1 := by rw [hW]; simp
  go_enter Try.func103, Try.ntmps103
  go_wp2_with fail
  refine (l05Tree_any _ _ _ _ _ _ net _ (h.later HB.out) ok).mono ?_
  rintro e w1 ⟨Ap, cp, Af, cf, rfl, op, of, fp, ff, b1⟩
  obtain ⟨M, hMl⟩ : ∃ M, (netG net).forest.length = M := ⟨_, rfl⟩
  have hM40 : M ≤ 40 := by have := Gr.forK_len (netG net) (netG net).m; unfold Gr.forest at hMl; have := HMm.out; omega
  rw [hMl] at op of ⊢
  have HML := Lib.hid hMl
  clear hMl
  rw [← hW] at b1 fp ff HB bx0
  have t1 := below_step HB.out b1
  obtain ⟨w2, hw2⟩ : ∃ w2, w2 = w1.alloc (.cells #[.slice A n c, .slice Ap M cp] 27) := ⟨_, rfl⟩
  have b2 := bel1 w1 (.cells #[.slice A n c, .slice Ap M cp] 27)
  have bx2 : BX (w1.alloc (.cells #[.slice A n c, .slice Ap M cp] 27)) w1.heap.size A n c Ap M cp := ⟨heap_alloc_new w1 _⟩
  rw [← hw2] at b2 bx2
  have hw2s : w2.heap.size = w1.heap.size + 1 := by rw [hw2]; simp
  have t2 := below_step t1 b2
  have nt2 : NetAt w2 A n c Ap M cp (treeN net) := ⟨h.nodes.later t2, (op.later b2).pipes⟩
  go_wp2_with fail
  rw [← hw2]
  refine (l04Search_any _ _ _ _ _ _ (treeN net) root _ nt2 (treeN_ok ok) hr).mono ?_
  rintro e w3 ⟨Ao, lo, co, Ae, rfl, oo, oe, fo, fe, b3⟩
  rw [treeN_g] at oo oe
  have t3 := below_step t2 b3
  have kx := ((bx0.step b1).step b2).step b3
  have k0 := kx.c0
  clear hw2
  go_wp2_with (at_make; refine law_make _ rfl _ _ rfl n _ _ rfl rfl rfl rfl (by omega) ?_; intro w4 o4 b4 z4; have u4 := o4.unfrozen root; have c4 := o4.cell hr; have o5 := o4.store root (z := level) ⟨by omega, by omega⟩)
  rw [Gr.levT_one ok.g (dr := drF net zs) hrg] at o5
  obtain ⟨gR, hgR⟩ : ∃ gR, w3.heap.size = gR := ⟨_, rfl⟩
  obtain ⟨Wb, hWb⟩ : ∃ Wb, Wb = w4.setCell ⟨gR, root, none⟩ (.int .i64 level) := ⟨_, rfl⟩
  have b3s := b3.size
  have b1s := b1.size
  have gW4 : w3.grownBy Wb (some gR) := by
    rw [hWb]
    exact grown_put (grown_alloc (World.grownBy.refl _ _) b4) _
  have tb : Below w.heap.size w Wb := by
    rw [hWb]; exact (below_step t3 b4).setCell (by show w.heap.size ≤ gR; have := t3.size; omega) _
  have gsz : w3.heap.size ≤ Wb.heap.size := gW4.size
  have OO := Lib.hid (oo.off gW4 (fun a ha => by have := oo.lt a ha; omega))
  have OE := Lib.hid (oe.off gW4 (fun a ha => by have := oe.lt a ha; omega))
  have of3 := (of.later b2).later b3
  have OF := Lib.hid (of3.off gW4 (fun a ha => by have := of3.lt a ha; omega))
  have OP := Lib.hid (((op.later b2).later b3).keep (w' := Wb) fun a ha => gW4.block _ (((op.later b2).later b3).lt a ha) (fun e => by injection e with e; have := ((op.later b2).later b3).lt a ha; omega))
  have ltO := oo.lt
  have ltE := oe.lt
  have ltF := of3.lt
  have ltP := ((op.later b2).later b3).lt
  have bx4 : BX Wb w.heap.size A n c B m d := ⟨(gW4.block _ kx.lt (fun e => by injection e with e; have := kx.lt; omega)).trans kx.box⟩
  have bx3 := bx2.step b3
  have bx9 : BX Wb w1.heap.size A n c Ap M cp := ⟨(gW4.block _ bx3.lt (fun e => by injection e with e; have := bx3.lt; omega)).trans bx3.box⟩
  rw [hgR] at o5 ⊢
  rw [← hWb] at o5 ⊢
  have hlo := oo.len
  rw [nl_len] at hlo
  have hlo24 : lo ≤ n := by have := Gr.ord_len (Gr.tree_ok ok.g) (r := root) hrg; have e : (netG net).tree.n = (netG net).n := rfl; rw [e, HNn.out] at this; omega
  have hlo1 : 1 ≤ lo := by have := List.length_pos_of_mem (Gr.ord_r (Gr.tree_ok ok.g) (r := root) hrg); omega
  have HLO := Lib.hid hlo
  clear k0 u4 c4 o4 z4 hWb hlo oo oe of3 of op nt2
  go_loopw [14] (fun i wr => ∃ k : Nat, 1 ≤ k ∧ k ≤ lo ∧ i = .int .i64 k ∧ Own wr (some ⟨gR, 0, none⟩) n n (mapTo n ((netG net).levT (drF net zs) root level k)) ∧ Wb.grownBy wr (some gR) ∧ Below w.heap.size w wr) (fun i _ => lo - (intOf i).toNat)
  case atStart => exact ⟨1, by omega, by omega, rfl, o5, World.grownBy.refl _ _, tb⟩
  case round =>
    obtain ⟨k, hk1, hk, rfl, ol, hg, hb⟩ := hrel
    clear o5
    by_cases hlt : k < lo
    · have hlt' : k < ((netG net).tree.ord root).length := by rw [HLO.out]; exact hlt
      obtain ⟨x, hx⟩ : ∃ x, ((netG net).tree.ord root)[k]? = some x := ⟨_, List.getElem?_eq_getElem hlt'⟩
      obtain ⟨p, y, hent, hpM, hpx, hoth, hyt, hxn, hyn⟩ := Gr.tree_step ok.g hrg hk1 hx
      rw [HNn.out] at hxn hyn
      rw [HML.out] at hpM
      have hstep := Gr.lev_step ok.g h0n HCN.out (dr := drF net zs) (root := root) (level := level) (p := p) (x := x) (by rw [HML.out]; exact hpM) hpx
      rw [hoth] at hstep
      have hLx := lev_lim HV.out HS.out (root := root) hl x
      have hLy := lev_lim HV.out HS.out (root := root) hl y
      have HSU := Lib.hid (Gr.levT_succ (n := n) (dr := drF net zs) (level := level) hx)
      have hWs2 : Wb.heap.size ≤ wr.heap.size := hg.size
      have oo := OO.out.off hg (fun a ha => by have := ltO a ha; omega)
      have oe := OE.out.off hg (fun a ha => by have := ltE a ha; omega)
      have of := OF.out.off hg (fun a ha => by have := ltF a ha; omega)
      have op := OP.out.keep (w' := wr) fun a ha => hg.block _ (OP.out.lt a ha) (fun e => by injection e with e; have := ltP a ha; omega)
      have bx4r : BX wr w.heap.size A n c B m d := ⟨(hg.block _ bx4.lt (fun e => by injection e with e; have := kx.lt; omega)).trans bx4.box⟩
      have bx9r : BX wr w1.heap.size A n c Ap M cp := ⟨(hg.block _ bx9.lt (fun e => by injection e with e; have := bx3.lt; omega)).trans bx9.box⟩
      obtain ⟨ga, rfl, hga⟩ := oo.pos (by omega)
      obtain ⟨ge, rfl, hge⟩ := oe.pos (by omega)
      obtain ⟨gf, rfl, hgf⟩ := of.pos (by omega)
      have cx := oo.cell hlt
      rw [nl_ig hlt', show ((netG net).tree.ord root)[k] = x from (List.getElem?_eq_some_iff.1 hx).2] at cx
      have ce := oe.cell hxn
      rw [mapTo_ig hxn, hent] at ce
      have cf := of.cell hpM
      have hpf : p < (netG net).forest.length := by rw [HML.out]; exact hpM
      have hidx := Gr.idx_lt hpf
      rw [nl_ig hpf, ← hidx] at cf
      obtain ⟨q, hq⟩ : ∃ q, (netG net).idx p = q := ⟨_, rfl⟩
      have hqm : q < m := by have := (Gr.idx_mem hpf).1; rw [hq, HMm.out] at this; exact this
      rw [hq] at cf hstep
      obtain ⟨bb, off, rfl, hbl, hc⟩ := (hz.later hb).cells (by omega)
      have hck := hc q hqm
      have hzq := flowB_all HS.out q
      have hkq : 1 ≤ (pp net.pipes q).k ∧ (pp net.pipes q).k ≤ 1000 := by
        have := netB_pipe_at HV.out (j := q) (by rw [h.pipes.len]; exact hqm); omega
      have z0 := bx4r.c0
      have z1 := bx4r.c1
      have hzle := hz.le
      have hzcap := hz.cap
      have HYT := Lib.hid hyt
      clear hc hx hent hidx hyt hlt'
      have OLQ := Lib.hid ol
      have OPQ := Lib.hid op
      have BX9 := Lib.hid bx9r
      clear ol oo oe of op bx9r bx4r
      go_wp2_with fail
      go_still_tail 12, (by kernel_rfl)
      change wpList _ _ _ _ _ wr.drew
      go_wp2_with fail
      refine (l07Drop_any _ _ _ _ _ _ net _ _ _ (h.later (by exact hb.drew)) (by omega) (by simpa using hkq) hzq).mono ?_
      rintro e w5 ⟨rfl, b5'⟩
      have b5 : Below wr.heap.size wr w5 := (Below.refl _ _).drew.trans b5'
      rw [show drp (pp net.pipes ((q : Int).toNat)).k (ig zs q) = drF net zs q by rw [Int.toNat_natCast]; rfl]
      have hb5 := below_step hb b5
      have hg5 := grown_alloc hg b5
      have ol5 := OLQ.out.later b5
      have op5 := OPQ.out.later b5
      have bx95 := BX9.out.step b5
      have z90 := bx95.c0
      have z91 := bx95.c1
      have nt5 : NetAt w5 A n c Ap M cp (treeN net) := ⟨h.nodes.later hb5, op5.pipes⟩
      clear cx ce cf hck z0 z1 b5' BX9 OLQ OPQ
      go_wp2_with fail
      refine (l02Other_any _ _ _ _ _ _ (treeN net) p x _ nt5 (treeN_ok ok) hpM (by rw [treeN_g]; exact hpx)).mono ?_
      rintro e w6 ⟨rfl, b6⟩
      rw [treeN_g, hoth]
      have hb6 := below_step hb5 b6
      have hg6 := grown_alloc hg5 b6
      have ol6 := ol5.later b6
      have op6 := op5.later b6
      have bx96 := bx95.step b6
      clear z90 z91
      have z91 := bx96.c1
      obtain ⟨gp, rfl, hgp⟩ := op6.pos (by omega)
      have cp0 := (op6.cell hpM).1
      rw [treeN_pp, hq, ok.fr (by rw [h.pipes.len]; exact hqm)] at cp0
      have hfp : (netG net).tree.f p = (netG net).f q := by rw [← hq]; rfl
      rw [hfp] at hstep
      have cy := ol6.cell hyn
      rw [mapTo_ig hyn, show (netG net).levT (drF net zs) root level k y = (netG net).lev (drF net zs) root level y by unfold Gr.levT; rw [if_pos HYT.out]] at cy
      have cx6 := ol6.cell hxn
      have ux6 := ol6.unfrozen x
      have hcp := op6.pipes.le
      have hcp2 := op6.pipes.cap
      have ol' := ol6.store x (z := (netG net).lev (drF net zs) root level x) ⟨by omega, by omega⟩
      rw [HSU.out] at ol'
      have OL := Lib.hid ol'
      have HB' := Lib.hid (hb6.setCell (p := ⟨gR, x, none⟩) (by show w.heap.size ≤ gR; have := t3.size; omega) (.int .i64 ((netG net).lev (drF net zs) root level x)))
      have HG' := Lib.hid (grown_put (j := x) hg6 (.int .i64 ((netG net).lev (drF net zs) root level x)))
      have hDb := drF_bnd HV.out HS.out q
      clear ol' ol6 op6 hb6 hg6 hpx hfp hoth HYT HSU
      by_cases hfx : (netG net).f q = x
      · have g1 : (((netG net).f q : Int) == (x : Int)) = true := by simp [hfx]
        rw [if_pos hfx] at hstep
        clear hfx
        rw [hstep] at OL HB' HG' hLx
        clear hstep
        generalize (netG net).lev (drF net zs) root level y = Y at *
        generalize drF net zs q = D at *
        generalize (netG net).f q = F at *
        go_wp2_with fail
        go_roundw
        case rel => exact ⟨k + 1, by omega, by omega, by go_num, OL.out, HG'.out, HB'.out⟩
        case measure => simp [intOf]; omega
      · have g1 : (((netG net).f q : Int) == (x : Int)) = false := by simp; omega
        rw [if_neg hfx] at hstep
        clear hfx
        rw [hstep] at OL HB' HG' hLx
        clear hstep
        generalize (netG net).lev (drF net zs) root level y = Y at *
        generalize drF net zs q = D at *
        generalize (netG net).f q = F at *
        go_wp2_with fail
        go_roundw
        case rel => exact ⟨k + 1, by omega, by omega, by go_num, OL.out, HG'.out, HB'.out⟩
        case measure => simp [intOf]; omega
    · have hkl : lo = k := by omega
      subst hkl
      have he := Gr.levT_end ok.g h0n HCN.out (dr := drF net zs) (level := level) hrg (k := lo) (by rw [HLO.out]; omega)
      rw [HNn.out] at he
      rw [he] at ol
      have HN2 := Lib.hid h.nodes.len
      clear he
      go_wp2_with fail
      go_ret
      refine ⟨_, rfl, ?_, (fun a ha => by injection ha with ha; subst ha; show w.heap.size ≤ gR; have := t3.size; omega), hb⟩
      unfold levL
      rw [HN2.out]; exact ol

end Go.Proofs.Ytioiebjgjimeiaa

/- checks: nodes, levels, connected networks; IsEven -/
namespace Go.Proofs.Ytioiebjgjimeiaa
open Go.RowKit

def rIsEven (net : Net) (zs : List Int) : Bool := netB net && supB net zs && evB net zs

set_option maxHeartbeats 2000000 in
theorem implIsEven_any (A : Option Addr) (n c : Nat) (B : Option Addr) (m d : Nat) (net : Net) (C : Option Addr) (l e : Nat) (zs : List Int) (w : World) (h : NetAt w A n c B m d net) (hz : Ints w C l e zs) :
    Calls Try.prog 28 #[.agg #[.slice A n c, .slice B m d], .slice C l e] w fun e w' => e = .returned (.bool (rIsEven net zs)) ∧ Below w.heap.size w w' := by
  have HB := Lib.hid (bel1 w (.cells #[.slice A n c, .slice B m d] 27))
  rcases hv : netB net with _ | _
  · have HR : Hid (rIsEven net zs = false) := Lib.hid (by unfold rIsEven; rw [hv]; rfl)
    go_enter Try.func28, Try.ntmps28
    go_wp2_with fail
    refine (implIsNetwork_is _ _ _ _ _ _ net _ _ (h.later HB.out) hv).mono ?_
    rintro e w1 ⟨rfl, b1⟩
    have t1 := below_step HB.out b1
    have s1 := b1
    obtain ⟨k0, k1⟩ := box_cells s1
    go_wp2_with fail
    go_ret
    exact ⟨ret_bool HR.out.symm, t1⟩
  · rcases hs : supB net zs with _ | _
    · have HR : Hid (rIsEven net zs = false) := Lib.hid (by unfold rIsEven; rw [hv, hs]; rfl)
      go_enter Try.func28, Try.ntmps28
      go_wp2_with fail
      refine (implIsNetwork_is _ _ _ _ _ _ net _ _ (h.later HB.out) hv).mono ?_
      rintro e w1 ⟨rfl, b1⟩
      have t1 := below_step HB.out b1
      have s1 := b1
      obtain ⟨k0, k1⟩ := box_cells s1
      go_wp2_with fail
      refine (areSupplies_is _ _ _ _ _ _ _ _ _ net zs _ _ (h.later t1) (hz.later t1) hs).mono ?_
      rintro e w2 ⟨rfl, b2⟩
      clear k0 k1
      have t2 := below_step t1 b2
      have s2 := below_step s1 b2
      obtain ⟨k0, k1⟩ := box_cells s2
      go_wp2_with fail
      go_ret
      exact ⟨ret_bool HR.out.symm, t2⟩
    · have HR : Hid (rIsEven net zs = evB net zs) := Lib.hid (by unfold rIsEven; rw [hv, hs]; rfl)
      obtain ⟨b, hE⟩ : ∃ b, evB net zs = b := ⟨_, rfl⟩
      rw [hE] at HR
      go_enter Try.func28, Try.ntmps28
      go_wp2_with fail
      refine (implIsNetwork_is _ _ _ _ _ _ net _ _ (h.later HB.out) hv).mono ?_
      rintro e w1 ⟨rfl, b1⟩
      have t1 := below_step HB.out b1
      have s1 := b1
      obtain ⟨k0, k1⟩ := box_cells s1
      go_wp2_with fail
      refine (areSupplies_is _ _ _ _ _ _ _ _ _ net zs _ _ (h.later t1) (hz.later t1) hs).mono ?_
      rintro e w2 ⟨rfl, b2⟩
      clear k0 k1
      have t2 := below_step t1 b2
      have s2 := below_step s1 b2
      obtain ⟨k0, k1⟩ := box_cells s2
      go_wp2_with fail
      refine (isEven_is _ _ _ _ _ _ net _ _ _ zs _ _ (h.later t2) (hz.later t2) (NetOK.of hv) hs hE).mono ?_
      rintro e w3 ⟨rfl, b3⟩
      clear k0 k1
      have t3 := below_step t2 b3
      have s3 := below_step s2 b3
      obtain ⟨k0, k1⟩ := box_cells s3
      go_wp2_with fail
      go_ret
      exact ⟨ret_bool HR.out.symm, t3⟩

set_option maxHeartbeats 2000000 in
theorem specIsEven_any (A : Option Addr) (n c : Nat) (B : Option Addr) (m d : Nat) (net : Net) (C : Option Addr) (l e : Nat) (zs : List Int) (w : World) (h : NetAt w A n c B m d net) (hz : Ints w C l e zs) :
    Calls Try.prog 19 #[.agg #[.slice A n c, .slice B m d], .slice C l e] w fun e w' => e = .returned (.bool (rIsEven net zs)) ∧ Below w.heap.size w w' := by
  have HB := Lib.hid (bel1 w (.cells #[.slice A n c, .slice B m d] 27))
  rcases hv : netB net with _ | _
  · have HR : Hid (rIsEven net zs = false) := Lib.hid (by unfold rIsEven; rw [hv]; rfl)
    go_enter Try.func19, Try.ntmps19
    go_wp2_with fail
    refine (specIsNetwork_is _ _ _ _ _ _ net _ _ (h.later HB.out) hv).mono ?_
    rintro e w1 ⟨rfl, b1⟩
    have t1 := below_step HB.out b1
    have s1 := b1
    obtain ⟨k0, k1⟩ := box_cells s1
    go_wp2_with fail
    go_ret
    exact ⟨ret_bool HR.out.symm, t1⟩
  · rcases hs : supB net zs with _ | _
    · have HR : Hid (rIsEven net zs = false) := Lib.hid (by unfold rIsEven; rw [hv, hs]; rfl)
      go_enter Try.func19, Try.ntmps19
      go_wp2_with fail
      refine (specIsNetwork_is _ _ _ _ _ _ net _ _ (h.later HB.out) hv).mono ?_
      rintro e w1 ⟨rfl, b1⟩
      have t1 := below_step HB.out b1
      have s1 := b1
      obtain ⟨k0, k1⟩ := box_cells s1
      go_wp2_with fail
      refine (l06List_is _ _ _ _ _ _ _ _ _ net zs _ _ (h.later t1) (hz.later t1) hs).mono ?_
      rintro e w2 ⟨rfl, b2⟩
      clear k0 k1
      have t2 := below_step t1 b2
      have s2 := below_step s1 b2
      obtain ⟨k0, k1⟩ := box_cells s2
      go_wp2_with fail
      go_ret
      exact ⟨ret_bool HR.out.symm, t2⟩
    · have HR : Hid (rIsEven net zs = evB net zs) := Lib.hid (by unfold rIsEven; rw [hv, hs]; rfl)
      obtain ⟨b, hE⟩ : ∃ b, evB net zs = b := ⟨_, rfl⟩
      rw [hE] at HR
      go_enter Try.func19, Try.ntmps19
      go_wp2_with fail
      refine (specIsNetwork_is _ _ _ _ _ _ net _ _ (h.later HB.out) hv).mono ?_
      rintro e w1 ⟨rfl, b1⟩
      have t1 := below_step HB.out b1
      have s1 := b1
      obtain ⟨k0, k1⟩ := box_cells s1
      go_wp2_with fail
      refine (l06List_is _ _ _ _ _ _ _ _ _ net zs _ _ (h.later t1) (hz.later t1) hs).mono ?_
      rintro e w2 ⟨rfl, b2⟩
      clear k0 k1
      have t2 := below_step t1 b2
      have s2 := below_step s1 b2
      obtain ⟨k0, k1⟩ := box_cells s2
      go_wp2_with fail
      refine (l06Even_is _ _ _ _ _ _ net _ _ _ zs _ _ (h.later t2) (hz.later t2) (NetOK.of hv) hs hE).mono ?_
      rintro e w3 ⟨rfl, b3⟩
      clear k0 k1
      have t3 := below_step t2 b3
      have s3 := below_step s2 b3
      obtain ⟨k0, k1⟩ := box_cells s3
      go_wp2_with fail
      go_ret
      exact ⟨ret_bool HR.out.symm, t3⟩

def levB (x : Int) : Bool := inB x (-500000000000000000) 500000000000000000
theorem levB_lim {x : Int} (h : levB x = true) : -500000000000000000 ≤ x ∧ x ≤ 500000000000000000 := by unfold levB inB at h; simp at h; exact h
set_option maxHeartbeats 1000000 in
theorem isLevel_is (x : Int) (b : Bool) (w : World) (hb : levB x = b) : Calls Try.prog 107 #[.int .i64 x] w fun e w' => e = .returned (.bool b) ∧ w = w' := by
  go_enter Try.func107, Try.ntmps107
  go_wp2_with fail
  refine (within_is _ _ _ _ _ hb).mono ?_
  rintro e w' ⟨rfl, rfl⟩
  go_wp2_with fail
  go_ret
  exact ⟨rfl, rfl⟩

set_option maxHeartbeats 1000000 in
theorem l07Level_is (x : Int) (b : Bool) (w : World) (hb : levB x = b) : Calls Try.prog 102 #[.int .i64 x] w fun e w' => e = .returned (.bool b) ∧ w = w' := by
  go_enter Try.func102, Try.ntmps102
  go_wp2_with fail
  refine (l01In_any _ _ _ _).mono ?_
  rintro e w' ⟨rfl, rfl⟩
  rw [show inB x (-500000000000000000) 500000000000000000 = b from hb]
  go_wp2_with fail
  go_ret
  exact ⟨rfl, rfl⟩

/-- the code of a network and nodes -/
def codeN (net : Net) (xs : List Int) : Int := if netB net then (if allB xs 0 ((net.nodes.length : Int) - 1) then 0 else 2) else 1

set_option maxHeartbeats 2000000 in
theorem checkNodes_is (A : Option Addr) (n c : Nat) (B : Option Addr) (m d : Nat) (net : Net) (C : Option Addr) (l e : Nat) (xs : List Int) (r : Int) (w : World) (h : NetAt w A n c B m d net) (hz : Ints w C l e xs) (hr : codeN net xs = r) :
    Calls Try.prog 160 #[.agg #[.slice A n c, .slice B m d], .slice C l e] w fun e w' => e = .returned (.int .i64 r) ∧ Below w.heap.size w w' := by
  have HB := Lib.hid (bel1 w (.cells #[.slice A n c, .slice B m d] 27))
  rcases hv : netB net with _ | _
  · have HR : Hid (1 = r) := Lib.hid (by rw [← hr]; unfold codeN; rw [hv]; rfl)
    clear hr
    go_enter Try.func160, Try.ntmps160
    go_wp2_with fail
    refine (implIsNetwork_is _ _ _ _ _ _ net _ _ (h.later HB.out) hv).mono ?_
    rintro e w1 ⟨rfl, b1⟩
    go_wp2_with fail
    go_ret
    exact ⟨ret_int HR.out, below_step HB.out b1⟩
  · have hnl := h.nodes.len
    have HA : Hid ((if allB xs 0 ((n : Int) - 1) then 0 else 2) = r) := Lib.hid (by rw [← hr]; unfold codeN; rw [hv, hnl]; rfl)
    have hn24 : n ≤ 24 := by have := (netB_sizes hv).2.1; omega
    have hlen := Lib.hid hz.len
    have hzle := hz.le
    have hzcap := hz.cap
    clear hr hnl
    go_enter Try.func160, Try.ntmps160
    go_wp2_with fail
    refine (implIsNetwork_is _ _ _ _ _ _ net _ _ (h.later HB.out) hv).mono ?_
    rintro e w1 ⟨rfl, b1⟩
    have t1 := below_step HB.out b1
    go_wp2_with fail
    go_loopw [12] (fun i wr => ∃ k : Nat, k ≤ l ∧ i = .int .i64 k ∧ Hid (∀ j, j < k → inB (ig xs j) 0 ((n : Int) - 1) = true) ∧ Below (w.alloc (.cells #[.slice A n c, .slice B m d] 27)).heap.size (w.alloc (.cells #[.slice A n c, .slice B m d] 27)) wr) (fun i _ => l - (intOf i).toNat)
    case atStart => exact ⟨0, by omega, rfl, Lib.hid (fun j hj => absurd hj (by omega)), b1⟩
    case round =>
      obtain ⟨k, hk, rfl, hq, hb⟩ := hrel
      have tw := below_step HB.out hb
      by_cases hlt : k < l
      · obtain ⟨bb, off, rfl, hbl, hc⟩ := (hz.later tw).cells (by omega)
        have hck := hc k hlt
        obtain ⟨k0, k1⟩ := box_cells hb
        clear hc
        rcases hin : inB (ig xs k) 0 ((n : Int) - 1) with _ | _
        · have HR : Hid (2 = r) := Lib.hid (by rw [← HA.out, allB_no (k := k) (by rw [hlen.out]; exact hlt) hin]; rfl)
          go_wp2_with fail
          refine (isNodeOf_is _ _ _ _ _ _ _ _ _ (by omega) hin).mono ?_
          rintro e w2 ⟨rfl, b2⟩
          go_wp2_with fail
          go_ret
          exact ⟨ret_int HR.out, below_step tw b2⟩
        · go_wp2_with fail
          refine (isNodeOf_is _ _ _ _ _ _ _ _ _ (by omega) hin).mono ?_
          rintro e w2 ⟨rfl, b2⟩
          go_wp2_with fail
          go_roundw
          case rel => exact ⟨k + 1, by omega, by go_num, Lib.hid (fun j hj => by
            rcases Nat.lt_or_ge j k with h' | h'
            · exact hq.out j h'
            · have : j = k := by omega
              subst this; exact hin), below_step hb b2⟩
          case measure => simp [intOf]; omega
      · have HR : Hid (0 = r) := Lib.hid (by rw [← HA.out, allB_yes (k := k) (by rw [hlen.out]; omega) hq.out]; rfl)
        go_wp2_with fail
        go_ret
        exact ⟨ret_int HR.out, tw⟩

/-- the code of a network that must be connected, a flow list, a level and nodes -/
def codeT (net : Net) (zs : List Int) (level : Int) (xs : List Int) : Int :=
  if codeF net zs = 0 then (if allB xs 0 ((net.nodes.length : Int) - 1) && levB level then (if (netG net).conn then 0 else 5) else 2) else codeF net zs
theorem codeT_cases (net : Net) (zs : List Int) (level : Int) (xs : List Int) :
    (codeF net zs ≠ 0 ∧ codeT net zs level xs = codeF net zs) ∨ (codeF net zs = 0 ∧ codeN net xs = 2 ∧ codeT net zs level xs = 2) ∨ (codeF net zs = 0 ∧ codeN net xs = 0 ∧ allB xs 0 ((net.nodes.length : Int) - 1) = true ∧ levB level = false ∧ codeT net zs level xs = 2) ∨
    (codeF net zs = 0 ∧ codeN net xs = 0 ∧ allB xs 0 ((net.nodes.length : Int) - 1) = true ∧ levB level = true ∧ (netG net).conn = false ∧ codeT net zs level xs = 5) ∨ (codeF net zs = 0 ∧ codeN net xs = 0 ∧ allB xs 0 ((net.nodes.length : Int) - 1) = true ∧ levB level = true ∧ (netG net).conn = true ∧ codeT net zs level xs = 0) := by
  by_cases h0 : codeF net zs = 0
  · have hv := (codeF_zero h0).1
    unfold codeT codeN
    rw [if_pos h0, hv]
    cases h1 : allB xs 0 ((net.nodes.length : Int) - 1) <;> cases h2 : levB level <;> cases h3 : (netG net).conn <;> simp [h0]
  · exact .inl ⟨h0, by unfold codeT; rw [if_neg h0]⟩
theorem codeT_zero {net : Net} {zs : List Int} {level : Int} {xs : List Int} (h : codeT net zs level xs = 0) : netB net = true ∧ flowB net zs = true ∧ allB xs 0 ((net.nodes.length : Int) - 1) = true ∧ levB level = true ∧ (netG net).conn = true := by
  rcases codeT_cases net zs level xs with ⟨h0, e⟩ | ⟨h0, h1, e⟩ | ⟨h0, h1, h2, h3, e⟩ | ⟨h0, h1, h2, h3, h4, e⟩ | ⟨h0, h1, h2, h3, h4, e⟩
  · rw [e] at h; exact absurd h h0
  · omega
  · omega
  · omega
  · exact ⟨(codeF_zero h0).1, (codeF_zero h0).2, h2, h3, h4⟩

set_option maxHeartbeats 2000000 in
theorem checkForest_is (A : Option Addr) (n c : Nat) (B : Option Addr) (m d : Nat) (net : Net) (C : Option Addr) (l e : Nat) (zs : List Int) (level : Int) (C2 : Option Addr) (l2 e2 : Nat) (zs2 : List Int) (r : Int) (w : World) (h : NetAt w A n c B m d net) (hz : Ints w C l e zs) (hz2 : Ints w C2 l2 e2 zs2) (hr : codeT net zs level zs2 = r) :
    Calls Try.prog 95 #[.agg #[.slice A n c, .slice B m d], .slice C l e, .int .i64 level, .slice C2 l2 e2] w fun e w' => e = .returned (.int .i64 r) ∧ Below w.heap.size w w' := by
  have HB := Lib.hid (bel1 w (.cells #[.slice A n c, .slice B m d] 27))
  rcases codeT_cases net zs level zs2 with ⟨hF0, e⟩ | ⟨hF, hN, e⟩ | ⟨hF, hN, _, hL, e⟩ | ⟨hF, hN, _, hL, hC, e⟩ | ⟨hF, hN, _, hL, hC, e⟩
  · obtain ⟨k, hF⟩ : ∃ k, codeF net zs = k := ⟨_, rfl⟩
    have HR : Hid (k = r) := Lib.hid (by rw [← hr, e, hF])
    have hne : (k != 0) = true := by rw [hF] at hF0; simp [hF0]
    clear hr e hF0
    go_enter Try.func95, Try.ntmps95
    go_wp2_with fail
    refine (checkFlows_is _ _ _ _ _ _ _ _ _ net zs _ _ (h.later HB.out) (hz.later HB.out) hF).mono ?_
    rintro e w1 ⟨rfl, b1⟩
    have t1 := below_step HB.out b1
    have s1 := b1
    obtain ⟨k0, k1⟩ := box_cells s1
    go_wp2_with fail
    go_ret
    exact ⟨ret_int HR.out, t1⟩
  · have HR : Hid (2 = r) := Lib.hid (by rw [← hr, e])
    clear hr e
    go_enter Try.func95, Try.ntmps95
    go_wp2_with fail
    refine (checkFlows_is _ _ _ _ _ _ _ _ _ net zs _ _ (h.later HB.out) (hz.later HB.out) hF).mono ?_
    rintro e w1 ⟨rfl, b1⟩
    have t1 := below_step HB.out b1
    have s1 := b1
    obtain ⟨k0, k1⟩ := box_cells s1
    go_wp2_with fail
    refine (checkNodes_is _ _ _ _ _ _ net _ _ _ zs2 _ _ (h.later t1) (hz2.later t1) hN).mono ?_
    rintro e w2 ⟨rfl, b2⟩
    clear k0 k1
    have t2 := below_step t1 b2
    have s2 := below_step s1 b2
    obtain ⟨k0, k1⟩ := box_cells s2
    go_wp2_with fail
    go_ret
    exact ⟨ret_int HR.out, t2⟩
  · have HR : Hid (2 = r) := Lib.hid (by rw [← hr, e])
    clear hr e
    go_enter Try.func95, Try.ntmps95
    go_wp2_with fail
    refine (checkFlows_is _ _ _ _ _ _ _ _ _ net zs _ _ (h.later HB.out) (hz.later HB.out) hF).mono ?_
    rintro e w1 ⟨rfl, b1⟩
    have t1 := below_step HB.out b1
    have s1 := b1
    obtain ⟨k0, k1⟩ := box_cells s1
    go_wp2_with fail
    refine (checkNodes_is _ _ _ _ _ _ net _ _ _ zs2 _ _ (h.later t1) (hz2.later t1) hN).mono ?_
    rintro e w2 ⟨rfl, b2⟩
    clear k0 k1
    have t2 := below_step t1 b2
    have s2 := below_step s1 b2
    obtain ⟨k0, k1⟩ := box_cells s2
    go_wp2_with fail
    refine (isLevel_is _ _ _ hL).mono ?_
    rintro e w' ⟨rfl, rfl⟩
    clear k0 k1
    obtain ⟨k0, k1⟩ := box_cells s2
    go_wp2_with fail
    go_ret
    exact ⟨ret_int HR.out, t2⟩
  · have HR : Hid (5 = r) := Lib.hid (by rw [← hr, e])
    have hv := (codeF_zero hF).1
    clear hr e
    go_enter Try.func95, Try.ntmps95
    go_wp2_with fail
    refine (checkFlows_is _ _ _ _ _ _ _ _ _ net zs _ _ (h.later HB.out) (hz.later HB.out) hF).mono ?_
    rintro e w1 ⟨rfl, b1⟩
    have t1 := below_step HB.out b1
    have s1 := b1
    obtain ⟨k0, k1⟩ := box_cells s1
    go_wp2_with fail
    refine (checkNodes_is _ _ _ _ _ _ net _ _ _ zs2 _ _ (h.later t1) (hz2.later t1) hN).mono ?_
    rintro e w2 ⟨rfl, b2⟩
    clear k0 k1
    have t2 := below_step t1 b2
    have s2 := below_step s1 b2
    obtain ⟨k0, k1⟩ := box_cells s2
    go_wp2_with fail
    refine (isLevel_is _ _ _ hL).mono ?_
    rintro e w' ⟨rfl, rfl⟩
    clear k0 k1
    obtain ⟨k0, k1⟩ := box_cells s2
    go_wp2_with fail
    refine (isConnected_is _ _ _ _ _ _ net _ _ (h.later t2) (NetOK.of hv) hC).mono ?_
    rintro e w4 ⟨rfl, b4⟩
    clear k0 k1
    have t4 := below_step t2 b4
    have s4 := below_step s2 b4
    obtain ⟨k0, k1⟩ := box_cells s4
    go_wp2_with fail
    go_ret
    exact ⟨ret_int HR.out, t4⟩
  · have HR : Hid (0 = r) := Lib.hid (by rw [← hr, e])
    have hv := (codeF_zero hF).1
    clear hr e
    go_enter Try.func95, Try.ntmps95
    go_wp2_with fail
    refine (checkFlows_is _ _ _ _ _ _ _ _ _ net zs _ _ (h.later HB.out) (hz.later HB.out) hF).mono ?_
    rintro e w1 ⟨rfl, b1⟩
    have t1 := below_step HB.out b1
    have s1 := b1
    obtain ⟨k0, k1⟩ := box_cells s1
    go_wp2_with fail
    refine (checkNodes_is _ _ _ _ _ _ net _ _ _ zs2 _ _ (h.later t1) (hz2.later t1) hN).mono ?_
    rintro e w2 ⟨rfl, b2⟩
    clear k0 k1
    have t2 := below_step t1 b2
    have s2 := below_step s1 b2
    obtain ⟨k0, k1⟩ := box_cells s2
    go_wp2_with fail
    refine (isLevel_is _ _ _ hL).mono ?_
    rintro e w' ⟨rfl, rfl⟩
    clear k0 k1
    obtain ⟨k0, k1⟩ := box_cells s2
    go_wp2_with fail
    refine (isConnected_is _ _ _ _ _ _ net _ _ (h.later t2) (NetOK.of hv) hC).mono ?_
    rintro e w4 ⟨rfl, b4⟩
    clear k0 k1
    have t4 := below_step t2 b4
    have s4 := below_step s2 b4
    obtain ⟨k0, k1⟩ := box_cells s4
    go_wp2_with fail
    go_ret
    exact ⟨ret_int HR.out, t4⟩

end Go.Proofs.Ytioiebjgjimeiaa

/- GapBetween, LowestNode -/
namespace Go.Proofs.Ytioiebjgjimeiaa
open Go.RowKit

theorem ints_lit1 (w : World) (o : Obj) {a : Int} (ha : I64 a) : Ints ((w.alloc o).alloc (.cells #[.int .i64 a] 2)) (some ⟨w.heap.size + 1, 0, none⟩) 1 1 [a] := by
  rw [← size_alloc1 w o]
  exact (own_lit (w.alloc o) a ha).ints
theorem ints_lit2 (w : World) (o : Obj) {a b : Int} (ha : I64 a) (hb : I64 b) : Ints ((w.alloc o).alloc (.cells #[.int .i64 a, .int .i64 b] 2)) (some ⟨w.heap.size + 1, 0, none⟩) 2 2 [a, b] := by
  rw [← size_alloc1 w o]
  have g := heap_alloc_new (w.alloc o) (.cells #[.int .i64 a, .int .i64 b] 2)
  refine ⟨rfl, by omega, by omega, ?_, fun _ => ⟨(w.alloc o).heap.size, 0, rfl, by simp, fun j hj => ?_⟩⟩
  · intro z hz
    simp at hz
    rcases hz with rfl | rfl
    · exact ha
    · exact hb
  · match j, hj with
    | 0, _ => rw [cell_blk g]; rfl
    | 1, _ => rw [cell_blk g]; rfl
theorem allB_one {a lo hi : Int} : allB [a] lo hi = inB a lo hi := by unfold allB; simp
theorem allB_two {a b lo hi : Int} : allB [a, b] lo hi = (inB a lo hi && inB b lo hi) := by unfold allB; simp
theorem inB_nat {a : Int} {n : Nat} (h : inB a 0 ((n : Int) - 1) = true) : ∃ a' : Nat, a = a' ∧ a' < n := by
  unfold inB at h
  simp at h
  exact ⟨a.toNat, by omega, by omega⟩

theorem l04Count_one (A : Option Addr) (n c : Nat) (B : Option Addr) (m d : Nat) (net : Net) (w : World) (h : NetAt w A n c B m d net) (ok : NetOK net) (hc : (netG net).conn = true) :
    Calls Try.prog 121 #[.agg #[.slice A n c, .slice B m d]] w fun e w' => e = .returned (.int .i64 1) ∧ Below w.heap.size w w' := by
  have hn : (netG net).n = n := h.nodes.len
  have h0 : 0 < (netG net).n := by have := ok.n1; show 0 < net.nodes.length; omega
  have := (Gr.cnt_conn ok.g h0).2 hc
  rw [hn] at this
  exact (l04Count_any A n c B m d net w h ok).mono fun e w' ⟨h1, h2⟩ => ⟨by rw [h1, this]; rfl, h2⟩

theorem l04Count_other (A : Option Addr) (n c : Nat) (B : Option Addr) (m d : Nat) (net : Net) (w : World) (h : NetAt w A n c B m d net) (ok : NetOK net) (hc : (netG net).conn = false) :
    Calls Try.prog 121 #[.agg #[.slice A n c, .slice B m d]] w fun e w' => ∃ k : Int, e = .returned (.int .i64 k) ∧ (k != 1) = true ∧ Below w.heap.size w w' := by
  have hn : (netG net).n = n := h.nodes.len
  have h0 : 0 < (netG net).n := by have := ok.n1; show 0 < net.nodes.length; omega
  have h1 : (netG net).cnt n ≠ 1 := fun e => by
    rw [← hn] at e
    rw [(Gr.cnt_conn ok.g h0).1 e] at hc
    cases hc
  refine (l04Count_any A n c B m d net w h ok).mono ?_
  rintro e w' ⟨rfl, h2⟩
  exact ⟨_, rfl, by simp; omega, h2⟩

def rForestLevels (net : Net) (zs : List Int) (root level : Int) : List Int × Int := if codeT net zs level [root] = 0 then (levL net zs root.toNat level, 0) else ([], codeT net zs level [root])

set_option maxHeartbeats 2000000 in
theorem specForestLevels_any (A : Option Addr) (n c : Nat) (B : Option Addr) (m d : Nat) (net : Net) (C : Option Addr) (l e : Nat) (zs : List Int) (root : Int) (level : Int) (w : World) (h : NetAt w A n c B m d net) (hz : Ints w C l e zs) :
    Calls Try.prog 54 #[.agg #[.slice A n c, .slice B m d], .slice C l e, .int .i64 root, .int .i64 level] w fun e w' => RetLI w (rForestLevels net zs root level) e w' := by
  have HB := Lib.hid (bel1 w (.cells #[.slice A n c, .slice B m d] 27))
  have hnl := h.nodes.len
  have hnle : n ≤ 9223372036854775807 := by have := h.nodes.le; have := h.nodes.cap; omega
  rcases codeT_cases net zs level [root] with ⟨hF0, e⟩ | ⟨hF, hN, e⟩ | ⟨hF, hN, hA, hL, e⟩ | ⟨hF, hN, hA, hL, hC, e⟩ | ⟨hF, hN, hA, hL, hC, e⟩
  · obtain ⟨k, hF⟩ : ∃ k, codeF net zs = k := ⟨_, rfl⟩
    have hk0 : k ≠ 0 := by rw [← hF]; exact hF0
    have hne : (k != 0) = true := by simp [hk0]
    have hne2 : (k == 0) = false := by simp [hk0]
    have HR : Hid (rForestLevels net zs root level = ([], k)) := Lib.hid (by unfold rForestLevels; rw [e, hF, if_neg hk0])
    clear e hF0
    go_enter Try.func54, Try.ntmps54
    go_wp2_with fail
    refine (l05Code_is _ _ _ _ _ _ _ _ _ net zs _ _ (h.later HB.out) (hz.later HB.out) hF).mono ?_
    rintro e w1 ⟨rfl, b1⟩
    have t1 := below_step HB.out b1
    have s1 := b1
    obtain ⟨k0, k1⟩ := box_cells s1
    go_wp2_with fail
    go_ret2
    exact retLI_nil rfl HR.out t1
  · have HR : Hid (rForestLevels net zs root level = ([], 2)) := Lib.hid (by unfold rForestLevels; rw [e]; rfl)
    have hb1 : inB root 0 ((n : Int) - 1) = false := by
      unfold codeN at hN
      rw [(codeF_zero hF).1, allB_one, hnl] at hN
      cases hx : inB root 0 ((n : Int) - 1) with
      | false => rfl
      | true => rw [hx] at hN; simp at hN
    clear e hN
    go_enter Try.func54, Try.ntmps54
    go_wp2_with fail
    refine (l05Code_is _ _ _ _ _ _ _ _ _ net zs _ _ (h.later HB.out) (hz.later HB.out) hF).mono ?_
    rintro e w1 ⟨rfl, b1⟩
    have t1 := below_step HB.out b1
    have s1 := b1
    obtain ⟨k0, k1⟩ := box_cells s1
    go_wp2_with fail
    refine (l02Node_is _ _ _ _ _ _ root _ _ hnle hb1).mono ?_
    rintro e w2 ⟨rfl, b2⟩
    clear k0 k1
    have t2 := below_step t1 b2
    have s2 := below_step s1 b2
    obtain ⟨k0, k1⟩ := box_cells s2
    go_wp2_with fail
    go_ret2
    exact retLI_nil rfl HR.out t2
  · have HR : Hid (rForestLevels net zs root level = ([], 2)) := Lib.hid (by unfold rForestLevels; rw [e]; rfl)
    have hb1 : inB root 0 ((n : Int) - 1) = true := by rw [allB_one, hnl] at hA; exact hA
    clear e hN hA
    go_enter Try.func54, Try.ntmps54
    go_wp2_with fail
    refine (l05Code_is _ _ _ _ _ _ _ _ _ net zs _ _ (h.later HB.out) (hz.later HB.out) hF).mono ?_
    rintro e w1 ⟨rfl, b1⟩
    have t1 := below_step HB.out b1
    have s1 := b1
    obtain ⟨k0, k1⟩ := box_cells s1
    go_wp2_with fail
    refine (l02Node_is _ _ _ _ _ _ root _ _ hnle hb1).mono ?_
    rintro e w2 ⟨rfl, b2⟩
    clear k0 k1
    have t2 := below_step t1 b2
    have s2 := below_step s1 b2
    obtain ⟨k0, k1⟩ := box_cells s2
    go_wp2_with fail
    refine (l07Level_is _ _ _ hL).mono ?_
    rintro e w' ⟨rfl, rfl⟩
    clear k0 k1
    obtain ⟨k0, k1⟩ := box_cells s2
    go_wp2_with fail
    go_ret2
    exact retLI_nil rfl HR.out t2
  · have HR : Hid (rForestLevels net zs root level = ([], 5)) := Lib.hid (by unfold rForestLevels; rw [e]; rfl)
    have hb1 : inB root 0 ((n : Int) - 1) = true := by rw [allB_one, hnl] at hA; exact hA
    have hv := (codeF_zero hF).1
    clear e hN hA
    go_enter Try.func54, Try.ntmps54
    go_wp2_with fail
    refine (l05Code_is _ _ _ _ _ _ _ _ _ net zs _ _ (h.later HB.out) (hz.later HB.out) hF).mono ?_
    rintro e w1 ⟨rfl, b1⟩
    have t1 := below_step HB.out b1
    have s1 := b1
    obtain ⟨k0, k1⟩ := box_cells s1
    go_wp2_with fail
    refine (l02Node_is _ _ _ _ _ _ root _ _ hnle hb1).mono ?_
    rintro e w2 ⟨rfl, b2⟩
    clear k0 k1
    have t2 := below_step t1 b2
    have s2 := below_step s1 b2
    obtain ⟨k0, k1⟩ := box_cells s2
    go_wp2_with fail
    refine (l07Level_is _ _ _ hL).mono ?_
    rintro e w' ⟨rfl, rfl⟩
    clear k0 k1
    obtain ⟨k0, k1⟩ := box_cells s2
    go_wp2_with fail
    refine (l04Count_other _ _ _ _ _ _ net _ (h.later t2) (NetOK.of hv) hC).mono ?_
    rintro e w4 ⟨kk, rfl, hkk, b4⟩
    clear k0 k1
    have t4 := below_step t2 b4
    have s4 := below_step s2 b4
    obtain ⟨k0, k1⟩ := box_cells s4
    go_wp2_with fail
    go_ret2
    exact retLI_nil rfl HR.out t4
  · obtain ⟨hv, hs⟩ := codeF_zero hF
    have hb1 : inB root 0 ((n : Int) - 1) = true := by rw [allB_one, hnl] at hA; exact hA
    obtain ⟨rt, rfl, hrn⟩ := inB_nat hb1
    have hlim := levB_lim hL
    have HR : Hid (rForestLevels net zs rt level = (levL net zs rt level, 0)) := Lib.hid (by unfold rForestLevels; rw [if_pos e, Int.toNat_natCast])
    clear e hN hA
    go_enter Try.func54, Try.ntmps54
    go_wp2_with fail
    refine (l05Code_is _ _ _ _ _ _ _ _ _ net zs _ _ (h.later HB.out) (hz.later HB.out) hF).mono ?_
    rintro e w1 ⟨rfl, b1⟩
    have t1 := below_step HB.out b1
    have s1 := b1
    obtain ⟨k0, k1⟩ := box_cells s1
    go_wp2_with fail
    refine (l02Node_is _ _ _ _ _ _ rt _ _ hnle hb1).mono ?_
    rintro e w2 ⟨rfl, b2⟩
    clear k0 k1
    have t2 := below_step t1 b2
    have s2 := below_step s1 b2
    obtain ⟨k0, k1⟩ := box_cells s2
    go_wp2_with fail
    refine (l07Level_is _ _ _ hL).mono ?_
    rintro e w' ⟨rfl, rfl⟩
    clear k0 k1
    obtain ⟨k0, k1⟩ := box_cells s2
    go_wp2_with fail
    refine (l04Count_one _ _ _ _ _ _ net _ (h.later t2) (NetOK.of hv) hC).mono ?_
    rintro e w4 ⟨rfl, b4⟩
    clear k0 k1
    have t4 := below_step t2 b4
    have s4 := below_step s2 b4
    obtain ⟨k0, k1⟩ := box_cells s4
    go_wp2_with fail
    refine (l07Levels_any _ _ _ _ _ _ net _ _ _ zs rt level _ (h.later t4) (hz.later t4) hv hs hC hrn hlim).mono ?_
    rintro e w5 ⟨Al, rfl, ol, fl, b5⟩
    clear k0 k1
    have t5 := below_step t4 b5
    have s5 := below_step s4 b5
    obtain ⟨k0, k1⟩ := box_cells s5
    go_wp2_with fail
    go_ret2
    exact retLI_own rfl HR.out ol (fresh_up fl t4.size) t5

def rGapBetween (net : Net) (zs : List Int) (a b : Int) : Int × Int := if codeT net zs 0 [a, b] = 0 then ((netG net).base (drF net zs) a.toNat - (netG net).base (drF net zs) b.toNat, 0) else (0, codeT net zs 0 [a, b])

set_option maxHeartbeats 2000000 in
theorem implGapBetween_any (A : Option Addr) (n c : Nat) (B : Option Addr) (m d : Nat) (net : Net) (C : Option Addr) (l e : Nat) (zs : List Int) (a : Int) (b : Int) (w : World) (h : NetAt w A n c B m d net) (hz : Ints w C l e zs) (ha : I64 a) (hb : I64 b) :
    Calls Try.prog 34 #[.agg #[.slice A n c, .slice B m d], .slice C l e, .int .i64 a, .int .i64 b] w fun e w' => e = .returned (.tuple #[.int .i64 (rGapBetween net zs a b).1, .int .i64 (rGapBetween net zs a b).2]) ∧ Below w.heap.size w w' := by
  have HB := Lib.hid (bel1 w (.cells #[.slice A n c, .slice B m d] 27))
  have hnl := h.nodes.len
  by_cases h0 : codeT net zs 0 [a, b] = 0
  · obtain ⟨hv, hs, hA, _, hC⟩ := codeT_zero h0
    rw [allB_two, hnl, Bool.and_eq_true] at hA
    obtain ⟨a', rfl, han⟩ := inB_nat hA.1
    obtain ⟨b', rfl, hbn⟩ := inB_nat hA.2
    have hn24 := (netB_sizes hv).2.1
    rw [hnl] at hn24
    have hrn : 0 < n := by omega
    have hlim : -500000000000000000 ≤ (0 : Int) ∧ (0 : Int) ≤ 500000000000000000 := by omega
    have HR : Hid (rGapBetween net zs a' b' = ((netG net).base (drF net zs) a' - (netG net).base (drF net zs) b', 0)) := Lib.hid (by unfold rGapBetween; rw [if_pos h0, Int.toNat_natCast, Int.toNat_natCast])
    go_enter Try.func34, Try.ntmps34
    go_wp2_with fail
    refine (checkForest_is _ _ _ _ _ _ net _ _ _ zs 0 _ _ _ [(a' : Int), (b' : Int)] _ _ (h.later (bel2 w (.cells #[.slice A n c, .slice B m d] 27) (.cells #[.int .i64 a', .int .i64 b'] 2))) (hz.later (bel2 w (.cells #[.slice A n c, .slice B m d] 27) (.cells #[.int .i64 a', .int .i64 b'] 2))) (ints_lit2 w (.cells #[.slice A n c, .slice B m d] 27) ha hb) h0).mono ?_
    rintro e w1 ⟨rfl, b1⟩
    have t1 := below_step (bel2 w (.cells #[.slice A n c, .slice B m d] 27) (.cells #[.int .i64 a', .int .i64 b'] 2)) b1
    have s1 := below_step (bel1 (w.alloc (.cells #[.slice A n c, .slice B m d] 27)) (.cells #[.int .i64 a', .int .i64 b'] 2)) b1
    obtain ⟨k0, k1⟩ := box_cells s1
    go_wp2_with fail
    refine (forestLevels_any _ _ _ _ _ _ net _ _ _ zs 0 0 _ (h.later t1) (hz.later t1) hv hs hrn hlim).mono ?_
    rintro e w2 ⟨Al, rfl, ol, fl, b2⟩
    clear k0 k1
    have t2 := below_step t1 b2
    have s2 := below_step s1 b2
    obtain ⟨k0, k1⟩ := box_cells s2
    obtain ⟨g, rfl, hg⟩ := ol.pos (by omega)
    have ca := ol.cell han
    have cb := ol.cell hbn
    unfold levL at ca cb
    rw [hnl, mapTo_ig han] at ca
    rw [hnl, mapTo_ig hbn] at cb
    have la := lev0_lim hv hs (root := 0) a'
    have lb := lev0_lim hv hs (root := 0) b'
    have HD : Hid ((netG net).lev (drF net zs) 0 0 a' - (netG net).lev (drF net zs) 0 0 b' = (netG net).base (drF net zs) a' - (netG net).base (drF net zs) b') := Lib.hid (by unfold Gr.lev; omega)
    generalize (netG net).lev (drF net zs) 0 0 a' = X at *
    generalize (netG net).lev (drF net zs) 0 0 b' = Y at *
    go_wp2_with fail
    go_quiet (fail)
    go_wp2_with fail
    go_ret2
    exact ⟨by rw [HR.out, ← HD.out]; rfl, below_drew t2 _⟩
  · obtain ⟨k, hk⟩ : ∃ k, codeT net zs 0 [a, b] = k := ⟨_, rfl⟩
    rw [hk] at h0
    have hne : (k != 0) = true := by simp [h0]
    have HR : Hid (rGapBetween net zs a b = (0, k)) := Lib.hid (by unfold rGapBetween; rw [hk, if_neg h0])
    go_enter Try.func34, Try.ntmps34
    go_wp2_with fail
    refine (checkForest_is _ _ _ _ _ _ net _ _ _ zs 0 _ _ _ [a, b] _ _ (h.later (bel2 w (.cells #[.slice A n c, .slice B m d] 27) (.cells #[.int .i64 a, .int .i64 b] 2))) (hz.later (bel2 w (.cells #[.slice A n c, .slice B m d] 27) (.cells #[.int .i64 a, .int .i64 b] 2))) (ints_lit2 w (.cells #[.slice A n c, .slice B m d] 27) ha hb) hk).mono ?_
    rintro e w1 ⟨rfl, b1⟩
    have t1 := below_step (bel2 w (.cells #[.slice A n c, .slice B m d] 27) (.cells #[.int .i64 a, .int .i64 b] 2)) b1
    have s1 := below_step (bel1 (w.alloc (.cells #[.slice A n c, .slice B m d] 27)) (.cells #[.int .i64 a, .int .i64 b] 2)) b1
    obtain ⟨k0, k1⟩ := box_cells s1
    go_wp2_with fail
    go_ret2
    exact ⟨by rw [HR.out]; rfl, t1⟩

/-- the first of the least of the first k + 1 numbers -/
def lowI (L : List Int) : Nat → Nat
  | 0 => 0
  | k + 1 => if ig L (k + 1) < ig L (lowI L k) then k + 1 else lowI L k
theorem lowI_facts (L : List Int) (k : Nat) : lowI L k ≤ k ∧ (∀ i, i ≤ k → ig L (lowI L k) ≤ ig L i) ∧ ∀ i, i < lowI L k → ig L (lowI L k) < ig L i := by
  induction k with
  | zero => exact ⟨Nat.le_refl _, fun i hi => by have : i = 0 := by omega
                                                 subst this; exact Int.le_refl _, fun i hi => by simp [lowI] at hi⟩
  | succ k ih =>
    obtain ⟨h1, h2, h3⟩ := ih
    unfold lowI
    by_cases h : ig L (k + 1) < ig L (lowI L k)
    · rw [if_pos h]
      refine ⟨Nat.le_refl _, fun i hi => ?_, fun i hi => ?_⟩
      · by_cases e : i = k + 1
        · subst e; exact Int.le_refl _
        · have := h2 i (by omega); omega
      · have := h2 i (by omega); omega
    · rw [if_neg h]
      refine ⟨by omega, fun i hi => ?_, h3⟩
      by_cases e : i = k + 1
      · subst e; omega
      · exact h2 i (by omega)

set_option maxHeartbeats 1000000 in
theorem slicesIndex_at (A : Option Addr) (n c : Nat) (zs : List Int) (x : Int) (j : Nat) (w : World) (h : Ints w A n c zs) (hj : j < n) (hx : ig zs j = x) (hne : ∀ i, i < j → ig zs i ≠ x) :
    Calls Try.prog 182 #[.slice A n c, .int .i64 x] w fun e w' => e = .returned (.int .i64 j) ∧ w = w' := by
  have hle := h.le
  have hcap := h.cap
  obtain ⟨b, off, rfl, hb, hc⟩ := h.cells (by omega)
  have HC := Lib.hid hc
  have HNE := Lib.hid hne
  clear hc hne
  go_enter Try.func182, Try.ntmps182
  go_wp2_with fail
  go_loop [8] (fun i => ∃ k : Nat, k ≤ j ∧ i = .int .i64 k) (fun i => n - (intOf i).toNat)
  case atStart => exact ⟨0, by omega, rfl⟩
  case round =>
    obtain ⟨k, hk, rfl⟩ := hrel
    have hck := HC.out k (by omega)
    by_cases e : k = j
    · subst e
      have g : (x == ig zs k) = true := by simp [hx]
      clear hx
      generalize ig zs k = X at *
      go_wp2_with fail
      go_ret
      exact ⟨rfl, rfl⟩
    · have g : (x == ig zs k) = false := by have := HNE.out k (by omega); simp; exact fun h => this h.symm
      generalize ig zs k = X at *
      go_wp2_with fail
      go_round
      case rel => exact ⟨k + 1, by omega, by go_num⟩
      case measure => simp [intOf]; omega

def rLowestNode (net : Net) (zs : List Int) : Int × Int := if codeT net zs 0 [] = 0 then (((lowI (levL net zs 0 0) (net.nodes.length - 1) : Nat) : Int), 0) else (0, codeT net zs 0 [])

end Go.Proofs.Ytioiebjgjimeiaa
