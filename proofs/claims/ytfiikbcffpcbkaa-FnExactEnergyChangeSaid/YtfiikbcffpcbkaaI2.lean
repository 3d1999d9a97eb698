/- forest levels -/
import Derived.Test.YtfiikbcffpcbkaaH9
namespace Go.Proofs.Ytfiikbcffpcbkaa
open Go.RowKit

/-- the drop of each pipe for a flow list -/
def drF (net : Net) (zs : List Int) (e : Nat) : Int := drp (pp net.pipes e).k (ig zs e)
theorem ppk_bnd {net : Net} (hv : netB net = true) (e : Nat) : 0 ≤ (pp net.pipes e).k ∧ (pp net.pipes e).k ≤ 1000 := by
  rcases Nat.lt_or_ge e net.pipes.length with h | h
  · have := netB_pipe_at hv h; omega
  · have : pp net.pipes e = pipe0 := by unfold pp; rw [List.getD_eq_getElem?_getD, List.getElem?_eq_none h]; rfl
    rw [this]; exact ⟨by decide, by decide⟩
theorem drF_bnd {net : Net} {zs : List Int} (hv : netB net = true) (hs : flowB net zs = true) (e : Nat) : -900000000000 ≤ drF net zs e ∧ drF net zs e ≤ 900000000000 := by
  have h1 := flowB_all hs e
  have h2 := ppk_bnd hv e
  exact drp_bnd (by omega) h2.2 h1.1 h1.2
theorem levS_lim {net : Net} {zs : List Int} (hv : netB net = true) (hs : flowB net zs = true) (j : Nat) (hj : j ≤ 24) (v : Nat) : -21600000000000 ≤ (netG net).levS (drF net zs) j v ∧ (netG net).levS (drF net zs) j v ≤ 21600000000000 := by
  have := Gr.levS_bnd (g := netG net) (dr := drF net zs) (M := 900000000000) (by omega) (drF_bnd hv hs) j v
  omega
theorem base_lim {net : Net} {zs : List Int} (hv : netB net = true) (hs : flowB net zs = true) (v : Nat) : -21600000000000 ≤ (netG net).base (drF net zs) v ∧ (netG net).base (drF net zs) v ≤ 21600000000000 := by
  have hok := NetOK.of hv
  have hl := Gr.ord_len hok.g (r := 0) (by have := hok.n1; show 0 < net.nodes.length; omega)
  have h24 : (netG net).n ≤ 24 := hok.n24
  exact levS_lim hv hs _ (by omega) v
/-- the forest levels of a network -/
def levL (net : Net) (zs : List Int) (root : Nat) (level : Int) : List Int := mapTo net.nodes.length ((netG net).lev (drF net zs) root level)
theorem levL_ig {net : Net} {zs : List Int} {root v : Nat} {level : Int} (h : v < net.nodes.length) : ig (levL net zs root level) v = (netG net).lev (drF net zs) root level v := mapTo_ig h
theorem levL_len (net : Net) (zs : List Int) (root : Nat) (level : Int) : (levL net zs root level).length = net.nodes.length := mapTo_len _ _
theorem lev_lim {net : Net} {zs : List Int} (hv : netB net = true) (hs : flowB net zs = true) {root : Nat} {level : Int} (hl : -500000000000000000 ≤ level ∧ level ≤ 500000000000000000) (v : Nat) :
    -500043200000000000 ≤ (netG net).lev (drF net zs) root level v ∧ (netG net).lev (drF net zs) root level v ≤ 500043200000000000 := by
  have h1 := base_lim hv hs v
  have h2 := base_lim hv hs root
  unfold Gr.lev
  omega
theorem lev0_lim {net : Net} {zs : List Int} (hv : netB net = true) (hs : flowB net zs = true) {root : Nat} (v : Nat) :
    -43200000000000 ≤ (netG net).lev (drF net zs) root 0 v ∧ (netG net).lev (drF net zs) root 0 v ≤ 43200000000000 := by
  have h1 := base_lim hv hs v
  have h2 := base_lim hv hs root
  unfold Gr.lev
  omega

theorem grown_cell {w w' : World} {r : Nat} (hg : w.grownBy w' (some r)) {p : Addr} (h1 : p.block < w.heap.size) (h2 : p.block ≠ r) : w'.cell? p = w.cell? p :=
  World.cell?_of_block (hg.block p.block h1 (fun e => h2 (by injection e)))
theorem Own.off {w w' : World} {r : Nat} {A : Option Addr} {n c : Nat} {zs : List Int} (h : Own w A n c zs) (hg : w.grownBy w' (some r)) (hne : ∀ a, A = some a → a.block ≠ r) : Own w' A n c zs :=
  h.keep fun a ha => hg.block _ (h.lt a ha) (fun e => hne a ha (by injection e))
theorem grown_alloc {w0 w w' : World} {r : Nat} (hg : w0.grownBy w (some r)) (hb : Below w.heap.size w w') : w0.grownBy w' (some r) :=
  ⟨hb.os.trans hg.os, hb.tape.trans hg.tape, hb.output.trans hg.output, Nat.le_trans hg.size hb.size, fun k hk hne => (hb.block k (Nat.lt_of_lt_of_le hk hg.size)).trans (hg.block k hk hne)⟩
theorem grown_put {w0 w : World} {r j : Nat} (hg : w0.grownBy w (some r)) (u : Value) : w0.grownBy (w.setCell ⟨r, j, none⟩ u) (some r) :=
  ⟨hg.os, hg.tape, hg.output, by simpa [World.setCell] using hg.size, fun k hk hne => (Below.heap_setCell w ⟨r, j, none⟩ u k (fun e => hne (by rw [e]))).trans (hg.block k hk hne)⟩

theorem Gr.levS_at {g : Gr} {dr : Nat → Int} {j x e : Nat} (hx : (g.ord 0)[j + 1]? = some x) (he : g.ent 0 x = e) :
    g.levS dr (j + 1) = upd (g.levS dr j) x (if g.t e = x then g.levS dr j (g.f e) - dr e else g.levS dr j (g.t e) + dr e) := by
  simp [Gr.levS, hx, he]

/-- the first k levels have been moved -/
def levK (net : Net) (zs : List Int) (root : Nat) (level : Int) (k v : Nat) : Int := (netG net).base (drF net zs) v + if v < k then level - (netG net).base (drF net zs) root else 0
theorem levK_zero {net : Net} {zs : List Int} {root : Nat} {level : Int} : levK net zs root level 0 = (netG net).base (drF net zs) := funext fun v => by unfold levK; simp
theorem levK_at {net : Net} {zs : List Int} {root : Nat} {level : Int} {k : Nat} : levK net zs root level k k = (netG net).base (drF net zs) k := by unfold levK; simp
theorem levK_set {net : Net} {zs : List Int} {root n : Nat} {level : Int} {k : Nat} : (mapTo n (levK net zs root level k)).set k ((netG net).base (drF net zs) k + (level - (netG net).base (drF net zs) root)) = mapTo n (levK net zs root level (k + 1)) := mapTo_set fun v _ => by
  unfold levK
  by_cases e : k = v
  · subst e; simp
  · rw [if_neg e]
    by_cases h : v < k
    · rw [if_pos h, if_pos (by omega)]
    · rw [if_neg h, if_neg (by omega)]
theorem levK_end {net : Net} {zs : List Int} {root n : Nat} {level : Int} : mapTo n (levK net zs root level n) = mapTo n ((netG net).lev (drF net zs) root level) := List.map_congr_left fun v hv => by simp [levK, Gr.lev, List.mem_range.1 hv]

end Go.Proofs.Ytfiikbcffpcbkaa

/- forest levels: the reference -/
namespace Go.Proofs.Ytfiikbcffpcbkaa
open Go.RowKit

def Gr.levT (g : Gr) (dr : Nat → Int) (root : Nat) (level : Int) (k v : Nat) : Int := if v ∈ (g.tree.ord root).take k then g.lev dr root level v else 0
theorem Gr.tree_head {g : Gr} (ok : g.ok) {root : Nat} (hr : root < g.n) : (g.tree.ord root).take 1 = [root] := by
  obtain ⟨l, hl⟩ := (Gr.ord_inv (Gr.tree_ok ok) (r := root) hr).head
  have : g.tree.ord root = root :: l := hl
  rw [this]; rfl
theorem Gr.levT_one {g : Gr} (ok : g.ok) {dr : Nat → Int} {root n : Nat} {level : Int} (hr : root < g.n) : (List.replicate n 0).set root level = mapTo n (g.levT dr root level 1) := by
  rw [← mapTo_const]
  refine mapTo_set fun v _ => ?_
  unfold Gr.levT
  rw [Gr.tree_head ok hr]
  by_cases e : root = v
  · subst e; simp [Gr.lev_root]
  · have : ¬ v = root := fun h => e h.symm
    simp [e, this]
theorem Gr.levT_succ {g : Gr} {dr : Nat → Int} {root n k x : Nat} {level : Int} (hx : (g.tree.ord root)[k]? = some x) : (mapTo n (g.levT dr root level k)).set x (g.lev dr root level x) = mapTo n (g.levT dr root level (k + 1)) := mapTo_set fun v _ => by
  unfold Gr.levT
  rw [List.take_add_one, hx]
  simp only [Option.toList_some, List.mem_append, List.mem_singleton]
  by_cases e : x = v
  · subst e; simp
  · have : ¬ v = x := fun h => e h.symm
    simp [e, this]
theorem Gr.levT_end {g : Gr} (ok : g.ok) (hn : 0 < g.n) (hc : g.conn = true) {dr : Nat → Int} {root k : Nat} {level : Int} (hr : root < g.n) (hk : (g.tree.ord root).length ≤ k) : mapTo g.n (g.levT dr root level k) = mapTo g.n (g.lev dr root level) := List.map_congr_left fun v hv => by
  have hv' := List.mem_range.1 hv
  have hc' := (Gr.conn_iff ok hn).1 hc
  unfold Gr.levT
  rw [List.take_of_length_le hk, if_pos (Gr.tree_reach ok hr hv' (by rw [hc' _ hr, hc' _ hv']))]
/-- one step along the tree -/
theorem Gr.tree_step {g : Gr} (ok : g.ok) {root k x : Nat} (hr : root < g.n) (hk : 1 ≤ k) (hx : (g.tree.ord root)[k]? = some x) :
    ∃ p y : Nat, g.tree.ent root x = p ∧ p < g.forest.length ∧ (g.tree.f p = x ∨ g.tree.t p = x) ∧ g.tree.oth p x = y ∧ y ∈ (g.tree.ord root).take k ∧ x < g.n ∧ y < g.n := by
  have hT := Gr.tree_ok ok
  have hord := Gr.ord_inv hT (r := root) hr
  have hxm := List.mem_of_getElem? hx
  have hxi : (g.tree.ord root).idxOf x = k := idxOf_at hord.nodup hx
  have hx0 : x ≠ root := by rintro rfl; have := Gr.idxOf_r hT (a := x) hr; omega
  obtain ⟨p, h1, h2, y, hy, h3, h4⟩ := hord.ent x hxm hx0
  have h3' : (g.tree.ord root).idxOf y < (g.tree.ord root).idxOf x := h3
  have hxy : x ≠ y := by rintro rfl; omega
  refine ⟨p, y, h1, h2, Gr.touch_of_joins h4, Gr.oth_of_joins h4 hxy, ?_, hord.lt x hxm, hord.lt y hy⟩
  have hyl : (g.tree.ord root).idxOf y < (g.tree.ord root).length := List.idxOf_lt_length_of_mem hy
  have : (g.tree.ord root)[(g.tree.ord root).idxOf y] = y := List.getElem_idxOf hyl
  rw [← this]
  rw [List.mem_take_iff_getElem]
  exact ⟨(g.tree.ord root).idxOf y, by omega, rfl⟩
theorem Gr.lev_step {g : Gr} (ok : g.ok) (hn : 0 < g.n) (hc : g.conn = true) {dr : Nat → Int} {root : Nat} {level : Int} {p x : Nat} (hp : p < g.forest.length) (hx : g.tree.f p = x ∨ g.tree.t p = x) :
    g.lev dr root level x = if g.tree.f p = x then g.lev dr root level (g.tree.oth p x) + dr (g.idx p) else g.lev dr root level (g.tree.oth p x) - dr (g.idx p) := by
  have hF := (Gr.idx_mem hp).2
  have hl := Gr.lev_lv ok hn hc dr root level (g.idx p) hF
  have e1 : g.tree.f p = g.f (g.idx p) := rfl
  have e2 : g.tree.t p = g.t (g.idx p) := rfl
  unfold Gr.oth
  by_cases hf : g.tree.f p = x
  · rw [if_pos hf, if_pos hf, e2]
    rw [e1] at hf
    rw [← hf]; omega
  · rw [if_neg hf, if_neg hf]
    have ht : g.tree.t p = x := hx.resolve_left hf
    rw [e1]
    rw [e2] at ht
    rw [← ht]; omega

end Go.Proofs.Ytfiikbcffpcbkaa
