/- forest levels -/
import Derived.Test.YtahmhmicegjdkaaH9
namespace Go.Proofs.Ytahmhmicegjdkaa
open Go.RowKit

/-- the drop of each pipe for a flow list -/
def drF (net : Net) (zs : List Int) (e : Nat) : Int := drp (pp net.pipes e).k (ig zs e)
theorem ppk_bnd {net : Net} (hv : netB net = true) (e : Nat) : 0 ≤ (pp net.pipes e).k ∧ (pp net.pipes e).k ≤ 1000 := by
  rcases Nat.lt_or_ge e net.pipes.length with h | h
  · have := netB_pipe_at hv h; omega
  · have : pp net.pipes e = pipe0 := by unfold pp; rw [List.getD_eq_getElem?_getD, List.getElem?_eq_none h]; rfl
    rw [this]; exact ⟨by decide, by decide⟩
theorem drF_bnd {net : Net} {zs : List Int} (hv : netB net = true) (hs : flowB net zs = true) (e : Nat) : -900000000000 ≤ drF net zs e ∧ drF net zs e ≤ 900000000000 := by
  have h1 := flowB_all hs e
  have h2 := ppk_bnd hv e
  exact drp_bnd (by omega) h2.2 h1.1 h1.2
theorem levS_lim {net : Net} {zs : List Int} (hv : netB net = true) (hs : flowB net zs = true) (j : Nat) (hj : j ≤ 24) (v : Nat) : -21600000000000 ≤ (netG net).levS (drF net zs) j v ∧ (netG net).levS (drF net zs) j v ≤ 21600000000000 := by
  have := Gr.levS_bnd (g := netG net) (dr := drF net zs) (M := 900000000000) (by omega) (drF_bnd hv hs) j v
  omega
theorem base_lim {net : Net} {zs : List Int} (hv : netB net = true) (hs : flowB net zs = true) (v : Nat) : -21600000000000 ≤ (netG net).base (drF net zs) v ∧ (netG net).base (drF net zs) v ≤ 21600000000000 := by
  have hok := NetOK.of hv
  have hl := Gr.ord_len hok.g (r := 0) (by have := hok.n1; show 0 < net.nodes.length; omega)
  have h24 : (netG net).n ≤ 24 := hok.n24
  exact levS_lim hv hs _ (by omega) v
/-- the forest levels of a network -/
def levL (net : Net) (zs : List Int) (root : Nat) (level : Int) : List Int := mapTo net.nodes.length ((netG net).lev (drF net zs) root level)
theorem levL_ig {net : Net} {zs : List Int} {root v : Nat} {level : Int} (h : v < net.nodes.length) : ig (levL net zs root level) v = (netG net).lev (drF net zs) root level v := mapTo_ig h
theorem levL_len (net : Net) (zs : List Int) (root : Nat) (level : Int) : (levL net zs root level).length = net.nodes.length := mapTo_len _ _
theorem lev_lim {net : Net} {zs : List Int} (hv : netB net = true) (hs : flowB net zs = true) {root : Nat} {level : Int} (hl : -500000000000000000 ≤ level ∧ level ≤ 500000000000000000) (v : Nat) :
    -500043200000000000 ≤ (netG net).lev (drF net zs) root level v ∧ (netG net).lev (drF net zs) root level v ≤ 500043200000000000 := by
  have h1 := base_lim hv hs v
  have h2 := base_lim hv hs root
  unfold Gr.lev
  omega
theorem lev0_lim {net : Net} {zs : List Int} (hv : netB net = true) (hs : flowB net zs = true) {root : Nat} (v : Nat) :
    -43200000000000 ≤ (netG net).lev (drF net zs) root 0 v ∧ (netG net).lev (drF net zs) root 0 v ≤ 43200000000000 := by
  have h1 := base_lim hv hs v
  have h2 := base_lim hv hs root
  unfold Gr.lev
  omega

theorem grown_cell {w w' : World} {r : Nat} (hg : w.grownBy w' (some r)) {p : Addr} (h1 : p.block < w.heap.size) (h2 : p.block ≠ r) : w'.cell? p = w.cell? p :=
  World.cell?_of_block (hg.block p.block h1 (fun e => h2 (by injection e)))
theorem Own.off {w w' : World} {r : Nat} {A : Option Addr} {n c : Nat} {zs : List Int} (h : Own w A n c zs) (hg : w.grownBy w' (some r)) (hne : ∀ a, A = some a → a.block ≠ r) : Own w' A n c zs :=
  h.keep fun a ha => hg.block _ (h.lt a ha) (fun e => hne a ha (by injection e))
theorem grown_alloc {w0 w w' : World} {r : Nat} (hg : w0.grownBy w (some r)) (hb : Below w.heap.size w w') : w0.grownBy w' (some r) :=
  ⟨hb.os.trans hg.os, hb.tape.trans hg.tape, hb.output.trans hg.output, Nat.le_trans hg.size hb.size, fun k hk hne => (hb.block k (Nat.lt_of_lt_of_le hk hg.size)).trans (hg.block k hk hne)⟩
theorem grown_put {w0 w : World} {r j : Nat} (hg : w0.grownBy w (some r)) (u : Value) : w0.grownBy (w.setCell ⟨r, j, none⟩ u) (some r) :=
  ⟨hg.os, hg.tape, hg.output, by simpa [World.setCell] using hg.size, fun k hk hne => (Below.heap_setCell w ⟨r, j, none⟩ u k (fun e => hne (by rw [e]))).trans (hg.block k hk hne)⟩

theorem Gr.levS_at {g : Gr} {dr : Nat → Int} {j x e : Nat} (hx : (g.ord 0)[j + 1]? = some x) (he : g.ent 0 x = e) :
    g.levS dr (j + 1) = upd (g.levS dr j) x (if g.t e = x then g.levS dr j (g.f e) - dr e else g.levS dr j (g.t e) + dr e) := by
  simp [Gr.levS, hx, he]

/-- the first k levels have been moved -/
def levK (net : Net) (zs : List Int) (root : Nat) (level : Int) (k v : Nat) : Int := (netG net).base (drF net zs) v + if v < k then level - (netG net).base (drF net zs) root else 0
theorem levK_zero {net : Net} {zs : List Int} {root : Nat} {level : Int} : levK net zs root level 0 = (netG net).base (drF net zs) := funext fun v => by unfold levK; simp
theorem levK_at {net : Net} {zs : List Int} {root : Nat} {level : Int} {k : Nat} : levK net zs root level k k = (netG net).base (drF net zs) k := by unfold levK; simp
theorem levK_set {net : Net} {zs : List Int} {root n : Nat} {level : Int} {k : Nat} : (mapTo n (levK net zs root level k)).set k ((netG net).base (drF net zs) k + (level - (netG net).base (drF net zs) root)) = mapTo n (levK net zs root level (k + 1)) := mapTo_set fun v _ => by
  unfold levK
  by_cases e : k = v
  · subst e; simp
  · rw [if_neg e]
    by_cases h : v < k
    · rw [if_pos h, if_pos (by omega)]
    · rw [if_neg h, if_neg (by omega)]
theorem levK_end {net : Net} {zs : List Int} {root n : Nat} {level : Int} : mapTo n (levK net zs root level n) = mapTo n ((netG net).lev (drF net zs) root level) := List.map_congr_left fun v hv => by simp [levK, Gr.lev, List.mem_range.1 hv]

set_option maxRecDepth 100000 in
set_option maxHeartbeats 4000000 in
theorem forestLevels_any (A : Option Addr) (n c : Nat) (B : Option Addr) (m d : Nat) (net : Net) (C : Option Addr) (l e : Nat) (zs : List Int) (root : Nat) (level : Int) (w : World) (h : NetAt w A n c B m d net) (hz : Ints w C l e zs) (hv : netB net = true) (hs : flowB net zs = true) (hr : root < n) (hl : -500000000000000000 ≤ level ∧ level ≤ 500000000000000000) :
    Calls Try.prog 90 #[.agg #[.slice A n c, .slice B m d], .slice C l e, .int .i64 root, .int .i64 level] w fun e w' => ∃ Al, e = .returned (.slice Al n n) ∧ Own w' Al n n (levL net zs root level) ∧ Fresh w.heap.size Al ∧ Below w.heap.size w w' := by
  have ok := NetOK.of hv
  have hn24 : n ≤ 24 := by have := ok.n24; have := h.nodes.len; omega
  have hm40 : m ≤ 40 := by have := ok.m40; have := h.pipes.len; omega
  have HNn : Hid ((netG net).n = n) := Lib.hid h.nodes.len
  have HMm : Hid ((netG net).m = m) := Lib.hid h.pipes.len
  have hlm : m = l := by have := flowB_len hs; have := h.pipes.len; have := hz.len; omega
  subst hlm
  have hple := h.pipes.le
  have hpcap := h.pipes.cap
  have HV := Lib.hid hv
  have HS := Lib.hid hs
  clear hv hs
  have HB := Lib.hid (bel1 w (.cells #[.slice A n c, .slice B m d] 32))
  have bx0 : BX (w.alloc (.cells #[.slice A n c, .slice B m d] 32)) w.heap.size A n c B m d := ⟨heap_alloc_new w _⟩
  obtain ⟨W, hW⟩ : ∃ W, W = w.alloc (.cells #[.slice A n c, .slice B m d] 32) := ⟨_, rfl⟩
  have hWs : W.heap.size = w.heap.size + 1 := by rw [hW]; simp
  go_enter Try.func90, Try.ntmps90
  go_wp2_with (at_make; refine law_make _ rfl _ _ rfl n _ _ rfl rfl rfl rfl (by omega) ?_; intro w1 o1 b1 z1; have kx := bx0.step b1; have k0 := kx.c0; have k1 := kx.c1)
  rw [World.size_alloc] at o1
  rw [← hW] at b1 HB bx0
  have t1 := below_step HB.out b1
  refine (searchFrom_any _ _ _ _ _ _ net 0 _ (h.later t1) ok (by omega)).mono ?_
  rintro e w2 ⟨Ao, lo, co, Ad, Ae, rfl, oo, oe, fo, fe, b2⟩
  have hlo := oo.len
  rw [nl_len] at hlo
  have h0n : 0 < (netG net).n := by rw [HNn.out]; omega
  have hlo24 : lo ≤ n := by have := Gr.ord_len ok.g (r := 0) h0n; rw [HNn.out] at this; omega
  have hlo1 : 1 ≤ lo := by have := List.length_pos_of_mem (Gr.ord_r ok.g (r := 0) h0n); omega
  have HLO := Lib.hid hlo
  obtain ⟨ga, rfl, hga⟩ := oo.pos (by omega)
  obtain ⟨ge, rfl, hge⟩ := oe.pos (by omega)
  have hfo := fo _ rfl
  have hfe := fe _ rfl
  have oo1 := o1.lt _ rfl
  simp only at hfo hfe oo1
  have hw12 := b2.size
  have hco := oo.ints.le
  have hco2 := oo.ints.cap
  have o12 := o1.later b2
  rw [show List.replicate n (0 : Int) = mapTo n ((netG net).levS (drF net zs) 0) from (mapTo_const n 0).symm] at o12
  obtain ⟨Wb, hWb⟩ : ∃ Wb, Wb = w2.alloc (.cells #[.slice (some ⟨ga, 0, none⟩) lo co, .slice Ad n n, .slice (some ⟨ge, 0, none⟩) n n] 125) := ⟨_, rfl⟩
  have hWbs : Wb.heap.size = w2.heap.size + 1 := by rw [hWb]; simp
  have bWb := bel1 w2 (.cells #[.slice (some ⟨ga, 0, none⟩) lo co, .slice Ad n n, .slice (some ⟨ge, 0, none⟩) n n] 125)
  have xb := heap_alloc_new w2 (.cells #[.slice (some ⟨ga, 0, none⟩) lo co, .slice Ad n n, .slice (some ⟨ge, 0, none⟩) n n] 125)
  rw [← hWb] at bWb xb
  have tb := below_step (below_step t1 b2) bWb
  have bxb := (kx.step b2).step bWb
  have OO := Lib.hid (oo.later bWb)
  have OE := Lib.hid (oe.later bWb)
  have o3 := o12.later bWb
  have HWb := Lib.hid hWb
  have XB := Lib.hid xb
  have y0 : Wb.cell? ⟨w2.heap.size, 0, none⟩ = some (.slice (some ⟨ga, 0, none⟩) lo co) := by rw [cell_blk xb]; rfl
  have Y2 : Hid (Wb.cell? ⟨w2.heap.size, 2, none⟩ = some (.slice (some ⟨ge, 0, none⟩) n n)) := Lib.hid (by rw [cell_blk xb]; rfl)
  rw [hWb] at y0
  clear k0 k1 kx hWb xb o12 oo oe o1 hlo hW z1
  have hnet := h
  clear h
  go_wp2_with fail
  case inl =>
    subst h
    rw [← HWb.out]
    clear y0 HWb
    have hlo2 : lo = 1 := by omega
    go_loopw [28] (fun i wr => ∃ k : Nat, k ≤ lo - 1 ∧ i = .int .i64 k ∧ Own wr (some ⟨w.heap.size + 1, 0, none⟩) n n (mapTo n ((netG net).levS (drF net zs) k)) ∧ Wb.grownBy wr (some (w.heap.size + 1)) ∧ Below w.heap.size w wr) (fun i _ => lo - 1 - (intOf i).toNat)
    case atStart => exact ⟨0, by omega, rfl, o3, World.grownBy.refl _ _, tb⟩
    case round =>
      obtain ⟨k, hk, rfl, ol, hg, hb⟩ := hrel
      clear o3
      by_cases hlt : k < lo - 1
      · exact absurd hlt (by omega)
      · have hkl : lo - 1 = k := by omega
        have HBS : Hid ((netG net).levS (drF net zs) k = (netG net).base (drF net zs)) := Lib.hid (by unfold Gr.base; rw [HLO.out, hkl])
        rw [HBS.out] at ol
        have cr := ol.cell hr
        rw [mapTo_ig hr] at cr
        have hbr := base_lim HV.out HS.out root
        clear hlt
        go_wp2_with fail
        go_loopw [81] (fun i wr => ∃ k : Nat, k ≤ n ∧ i = .int .i64 k ∧ Own wr (some ⟨w.heap.size + 1, 0, none⟩) n n (mapTo n (levK net zs root level k)) ∧ Below w.heap.size w wr) (fun i _ => n - (intOf i).toNat)
        case atStart => exact ⟨0, by omega, rfl, by rw [levK_zero]; exact ol, hb⟩
        case round =>
          obtain ⟨k, hk, rfl, ol, hb⟩ := hrel
          by_cases hlt : k < n
          · have c1 := ol.cell hlt
            rw [mapTo_ig hlt, levK_at] at c1
            have u1 := ol.unfrozen k
            have hbk := base_lim HV.out HS.out k
            have ol' := ol.store k (z := (netG net).base (drF net zs) k + (level - (netG net).base (drF net zs) root)) ⟨by omega, by omega⟩
            rw [levK_set] at ol'
            have hb' := hb.setCell (p := ⟨w.heap.size + 1, k, none⟩) (by show w.heap.size ≤ w.heap.size + 1; omega) (.int .i64 ((netG net).base (drF net zs) k + (level - (netG net).base (drF net zs) root)))
            have OL := Lib.hid ol'
            have HB' := Lib.hid hb'
            clear ol ol' hb'
            generalize (netG net).base (drF net zs) k = X at *
            generalize (netG net).base (drF net zs) root = Y at *
            go_wp2_with fail
            go_roundw
            case rel => exact ⟨k + 1, by omega, by go_num, OL.out, HB'.out⟩
            case measure => simp [intOf]; omega
          · have hkn : n = k := by omega
            subst hkn
            rw [levK_end] at ol
            have HN2 := Lib.hid hnet.nodes.len
            go_wp2_with fail
            go_ret
            refine ⟨_, rfl, ?_, (fun a ha => by injection ha with ha; subst ha; show w.heap.size ≤ w.heap.size + 1; omega), hb⟩
            unfold levL
            rw [HN2.out]; exact ol
  case inr =>
    rw [← HWb.out]
    clear y0 HWb
    go_loopw [28] (fun i wr => ∃ k : Nat, k ≤ lo - 1 ∧ i = .int .i64 k ∧ Own wr (some ⟨w.heap.size + 1, 0, none⟩) n n (mapTo n ((netG net).levS (drF net zs) k)) ∧ Wb.grownBy wr (some (w.heap.size + 1)) ∧ Below w.heap.size w wr) (fun i _ => lo - 1 - (intOf i).toNat)
    case atStart => exact ⟨0, by omega, rfl, o3, World.grownBy.refl _ _, tb⟩
    case round =>
      obtain ⟨k, hk, rfl, ol, hg, hb⟩ := hrel
      clear o3
      by_cases hlt : k < lo - 1
      · have hlt' : k + 1 < ((netG net).ord 0).length := by rw [HLO.out]; omega
        obtain ⟨x, hx⟩ : ∃ x, ((netG net).ord 0)[k + 1]? = some x := ⟨_, List.getElem?_eq_getElem hlt'⟩
        have hord := Gr.ord_inv ok.g (r := 0) h0n
        have hxm := List.mem_of_getElem? hx
        have hxn : x < n := by have := hord.lt x hxm; rw [HNn.out] at this; exact this
        have hxi := idxOf_at hord.nodup hx
        have hx0 : x ≠ 0 := by rintro rfl; have := Gr.idxOf_r ok.g (a := 0) h0n; unfold Gr.ord at this; omega
        obtain ⟨p, hp1, hp2, y, hy, hy2, hj⟩ := hord.ent x hxm hx0
        have hent : (netG net).ent 0 x = p := hp1
        rw [HMm.out] at hp2
        have HL := Lib.hid (Gr.levS_at (dr := drF net zs) hx hent)
        have oo := OO.out.off hg (fun a ha => by injection ha with ha; subst ha; show ga ≠ _; omega)
        have oe := OE.out.off hg (fun a ha => by injection ha with ha; subst ha; show ge ≠ _; omega)
        have cx := oo.cell (j := k + 1) (by omega)
        rw [nl_ig hlt', show ((netG net).ord 0)[k + 1] = x from (List.getElem?_eq_some_iff.1 hx).2, Nat.add_comm k 1] at cx
        have ce := oe.cell hxn
        rw [mapTo_ig hxn, hent] at ce
        have y2 := (grown_cell hg (p := ⟨w2.heap.size, 2, none⟩) (by show w2.heap.size < _; omega) (by show w2.heap.size ≠ _; omega)).trans Y2.out
        have kb1 := (grown_cell hg (p := ⟨w.heap.size, 1, none⟩) (by show w.heap.size < _; omega) (by show w.heap.size ≠ _; omega)).trans bxb.c1
        obtain ⟨bp, offp, rfl, hblp, hcp⟩ := (hnet.pipes.later hb).cells (by omega)
        obtain ⟨c0, c1, c2, c3, c4⟩ := hcp p hp2
        have hpl : p < net.pipes.length := by rw [hnet.pipes.len]; exact hp2
        have hpk := netB_pipe_at HV.out hpl
        rw [ok.fr hpl] at c0
        rw [ok.to hpl] at c1
        obtain ⟨bb, off, rfl, hbl, hc⟩ := (hz.later hb).cells (by omega)
        have hck := hc p hp2
        have hzp := flowB_all HS.out p
        have hgp := ok.g p hpl
        rw [HNn.out] at hgp
        have hbs := hb.size
        have hgs := hg.size
        obtain ⟨wq, hwq, bq, n0, n1, n2, n3, n4⟩ := pipe_box wr (pp net.pipes p)
        rw [ok.fr hpl] at n0 hwq
        rw [ok.to hpl] at n1 hwq
        have hckq := (bq.cell (p := ⟨bb, off + p, none⟩) hbl).trans hck
        have hdF : drp (pp net.pipes p).k (ig zs p) = drF net zs p := rfl
        clear hcp hc hx hxi hord hxm hx0 hp1 hy hy2 hj hent hlt'
        have OLQ := Lib.hid (ol.later bq)
        have GQ := Lib.hid (grown_alloc hg bq)
        have BQ := Lib.hid (below_step hb bq)
        clear ol
        go_wp2_with fail
        rw [← hwq]
        clear c0 c1 c2 c3 c4 hwq cx ce y2 kb1 hck
        go_still_tail 5, (by kernel_rfl)
        change wpList _ _ _ _ _ wq.drew
        go_wp2_with fail
        refine (dropOf_any _ _ _ _ _ _ _ (by omega) hzp).mono ?_
        rintro e w5 ⟨rfl, b5'⟩
        have b5 : Below wq.heap.size wq w5 := (Below.refl _ _).drew.trans b5'
        rw [hdF]
        have hDb := drF_bnd HV.out HS.out p
        have sq := bq.size
        have hszq : wr.heap.size < wq.heap.size := World.block_lt_of_cell? _ _ n0
        have n05 := (b5.cell (p := ⟨wr.heap.size, 0, none⟩) hszq).trans n0
        have n15 := (b5.cell (p := ⟨wr.heap.size, 1, none⟩) hszq).trans n1
        have ol5 := OLQ.out.later b5
        have hg5 := grown_alloc GQ.out b5
        have hb5 := below_step BQ.out b5
        have c6 := ol5.cell hxn
        have u6 := ol5.unfrozen x
        have hF5 := ol5.cell hgp.1
        rw [mapTo_ig hgp.1] at hF5
        have hT5 := ol5.cell hgp.2.1
        rw [mapTo_ig hgp.2.1] at hT5
        have lF := levS_lim HV.out HS.out k (by omega) ((netG net).f p)
        have lT := levS_lim HV.out HS.out k (by omega) ((netG net).t p)
        clear n0 n1 n2 n3 n4 hckq b5' hdF OLQ GQ BQ
        by_cases htx : (netG net).t p = x
        · have g1 : (((netG net).t p : Int) == (x : Int)) = true := by simp [htx]
          have ol' := ol5.store x (z := (netG net).levS (drF net zs) k ((netG net).f p) - drF net zs p) ⟨by omega, by omega⟩
          rw [mapTo_upd] at ol'
          rw [if_pos htx] at HL
          rw [← HL.out] at ol'
          have OL := Lib.hid ol'
          have HB' := Lib.hid (hb5.setCell (p := ⟨w.heap.size + 1, x, none⟩) (by show w.heap.size ≤ w.heap.size + 1; omega) (.int .i64 ((netG net).levS (drF net zs) k ((netG net).f p) - drF net zs p)))
          have HG' := Lib.hid (grown_put (j := x) hg5 (.int .i64 ((netG net).levS (drF net zs) k ((netG net).f p) - drF net zs p)))
          clear ol5 ol' hb5 hg5 htx hT5
          generalize (netG net).levS (drF net zs) k ((netG net).f p) = X at *
          generalize drF net zs p = D at *
          generalize (netG net).f p = F at *
          generalize (netG net).t p = T at *
          go_wp2_with fail
          go_roundw
          case rel => exact ⟨k + 1, by omega, by go_num, OL.out, HG'.out, HB'.out⟩
          case measure => simp [intOf]; omega
        · have g1 : (((netG net).t p : Int) == (x : Int)) = false := by simp; omega
          have ol' := ol5.store x (z := (netG net).levS (drF net zs) k ((netG net).t p) + drF net zs p) ⟨by omega, by omega⟩
          rw [mapTo_upd] at ol'
          rw [if_neg htx] at HL
          rw [← HL.out] at ol'
          have OL := Lib.hid ol'
          have HB' := Lib.hid (hb5.setCell (p := ⟨w.heap.size + 1, x, none⟩) (by show w.heap.size ≤ w.heap.size + 1; omega) (.int .i64 ((netG net).levS (drF net zs) k ((netG net).t p) + drF net zs p)))
          have HG' := Lib.hid (grown_put (j := x) hg5 (.int .i64 ((netG net).levS (drF net zs) k ((netG net).t p) + drF net zs p)))
          clear ol5 ol' hb5 hg5 htx hF5
          generalize (netG net).levS (drF net zs) k ((netG net).t p) = X at *
          generalize drF net zs p = D at *
          generalize (netG net).f p = F at *
          generalize (netG net).t p = T at *
          go_wp2_with fail
          go_roundw
          case rel => exact ⟨k + 1, by omega, by go_num, OL.out, HG'.out, HB'.out⟩
          case measure => simp [intOf]; omega
      · have hkl : lo - 1 = k := by omega
        have HBS : Hid ((netG net).levS (drF net zs) k = (netG net).base (drF net zs)) := Lib.hid (by unfold Gr.base; rw [HLO.out, hkl])
        rw [HBS.out] at ol
        have cr := ol.cell hr
        rw [mapTo_ig hr] at cr
        have hbr := base_lim HV.out HS.out root
        clear hlt
        go_wp2_with fail
        go_loopw [81] (fun i wr => ∃ k : Nat, k ≤ n ∧ i = .int .i64 k ∧ Own wr (some ⟨w.heap.size + 1, 0, none⟩) n n (mapTo n (levK net zs root level k)) ∧ Below w.heap.size w wr) (fun i _ => n - (intOf i).toNat)
        case atStart => exact ⟨0, by omega, rfl, by rw [levK_zero]; exact ol, hb⟩
        case round =>
          obtain ⟨k, hk, rfl, ol, hb⟩ := hrel
          by_cases hlt : k < n
          · have c1 := ol.cell hlt
            rw [mapTo_ig hlt, levK_at] at c1
            have u1 := ol.unfrozen k
            have hbk := base_lim HV.out HS.out k
            have ol' := ol.store k (z := (netG net).base (drF net zs) k + (level - (netG net).base (drF net zs) root)) ⟨by omega, by omega⟩
            rw [levK_set] at ol'
            have hb' := hb.setCell (p := ⟨w.heap.size + 1, k, none⟩) (by show w.heap.size ≤ w.heap.size + 1; omega) (.int .i64 ((netG net).base (drF net zs) k + (level - (netG net).base (drF net zs) root)))
            have OL := Lib.hid ol'
            have HB' := Lib.hid hb'
            clear ol ol' hb'
            generalize (netG net).base (drF net zs) k = X at *
            generalize (netG net).base (drF net zs) root = Y at *
            go_wp2_with fail
            go_roundw
            case rel => exact ⟨k + 1, by omega, by go_num, OL.out, HB'.out⟩
            case measure => simp [intOf]; omega
          · have hkn : n = k := by omega
            subst hkn
            rw [levK_end] at ol
            have HN2 := Lib.hid hnet.nodes.len
            go_wp2_with fail
            go_ret
            refine ⟨_, rfl, ?_, (fun a ha => by injection ha with ha; subst ha; show w.heap.size ≤ w.heap.size + 1; omega), hb⟩
            unfold levL
            rw [HN2.out]; exact ol

end Go.Proofs.Ytahmhmicegjdkaa
