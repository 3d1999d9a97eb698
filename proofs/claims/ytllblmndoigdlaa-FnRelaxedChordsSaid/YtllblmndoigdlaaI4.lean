/- forest levels -/
import Derived.Test.YtllblmndoigdlaaH9
namespace Go.Proofs.Ytllblmndoigdlaa
open Go.RowKit

/-- the drop of each pipe for a flow list -/
def drF (net : Net) (zs : List Int) (e : Nat) : Int := drp (pp net.pipes e).k (ig zs e)
theorem ppk_bnd {net : Net} (hv : netB net = true) (e : Nat) : 0 ≤ (pp net.pipes e).k ∧ (pp net.pipes e).k ≤ 1000 := by
  rcases Nat.lt_or_ge e net.pipes.length with h | h
  · have := netB_pipe_at hv h; omega
  · have : pp net.pipes e = pipe0 := by unfold pp; rw [List.getD_eq_getElem?_getD, List.getElem?_eq_none h]; rfl
    rw [this]; exact ⟨by decide, by decide⟩
theorem drF_bnd {net : Net} {zs : List Int} (hv : netB net = true) (hs : flowB net zs = true) (e : Nat) : -900000000000 ≤ drF net zs e ∧ drF net zs e ≤ 900000000000 := by
  have h1 := flowB_all hs e
  have h2 := ppk_bnd hv e
  exact drp_bnd (by omega) h2.2 h1.1 h1.2
theorem levS_lim {net : Net} {zs : List Int} (hv : netB net = true) (hs : flowB net zs = true) (j : Nat) (hj : j ≤ 24) (v : Nat) : -21600000000000 ≤ (netG net).levS (drF net zs) j v ∧ (netG net).levS (drF net zs) j v ≤ 21600000000000 := by
  have := Gr.levS_bnd (g := netG net) (dr := drF net zs) (M := 900000000000) (by omega) (drF_bnd hv hs) j v
  omega
theorem base_lim {net : Net} {zs : List Int} (hv : netB net = true) (hs : flowB net zs = true) (v : Nat) : -21600000000000 ≤ (netG net).base (drF net zs) v ∧ (netG net).base (drF net zs) v ≤ 21600000000000 := by
  have hok := NetOK.of hv
  have hl := Gr.ord_len hok.g (r := 0) (by have := hok.n1; show 0 < net.nodes.length; omega)
  have h24 : (netG net).n ≤ 24 := hok.n24
  exact levS_lim hv hs _ (by omega) v
/-- the forest levels of a network -/
def levL (net : Net) (zs : List Int) (root : Nat) (level : Int) : List Int := mapTo net.nodes.length ((netG net).lev (drF net zs) root level)
theorem levL_ig {net : Net} {zs : List Int} {root v : Nat} {level : Int} (h : v < net.nodes.length) : ig (levL net zs root level) v = (netG net).lev (drF net zs) root level v := mapTo_ig h
theorem levL_len (net : Net) (zs : List Int) (root : Nat) (level : Int) : (levL net zs root level).length = net.nodes.length := mapTo_len _ _
theorem lev_lim {net : Net} {zs : List Int} (hv : netB net = true) (hs : flowB net zs = true) {root : Nat} {level : Int} (hl : -500000000000000000 ≤ level ∧ level ≤ 500000000000000000) (v : Nat) :
    -500043200000000000 ≤ (netG net).lev (drF net zs) root level v ∧ (netG net).lev (drF net zs) root level v ≤ 500043200000000000 := by
  have h1 := base_lim hv hs v
  have h2 := base_lim hv hs root
  unfold Gr.lev
  omega
theorem lev0_lim {net : Net} {zs : List Int} (hv : netB net = true) (hs : flowB net zs = true) {root : Nat} (v : Nat) :
    -43200000000000 ≤ (netG net).lev (drF net zs) root 0 v ∧ (netG net).lev (drF net zs) root 0 v ≤ 43200000000000 := by
  have h1 := base_lim hv hs v
  have h2 := base_lim hv hs root
  unfold Gr.lev
  omega

theorem grown_cell {w w' : World} {r : Nat} (hg : w.grownBy w' (some r)) {p : Addr} (h1 : p.block < w.heap.size) (h2 : p.block ≠ r) : w'.cell? p = w.cell? p :=
  World.cell?_of_block (hg.block p.block h1 (fun e => h2 (by injection e)))
theorem Own.off {w w' : World} {r : Nat} {A : Option Addr} {n c : Nat} {zs : List Int} (h : Own w A n c zs) (hg : w.grownBy w' (some r)) (hne : ∀ a, A = some a → a.block ≠ r) : Own w' A n c zs :=
  h.keep fun a ha => hg.block _ (h.lt a ha) (fun e => hne a ha (by injection e))
theorem grown_alloc {w0 w w' : World} {r : Nat} (hg : w0.grownBy w (some r)) (hb : Below w.heap.size w w') : w0.grownBy w' (some r) :=
  ⟨hb.os.trans hg.os, hb.tape.trans hg.tape, hb.output.trans hg.output, Nat.le_trans hg.size hb.size, fun k hk hne => (hb.block k (Nat.lt_of_lt_of_le hk hg.size)).trans (hg.block k hk hne)⟩
theorem grown_put {w0 w : World} {r j : Nat} (hg : w0.grownBy w (some r)) (u : Value) : w0.grownBy (w.setCell ⟨r, j, none⟩ u) (some r) :=
  ⟨hg.os, hg.tape, hg.output, by simpa [World.setCell] using hg.size, fun k hk hne => (Below.heap_setCell w ⟨r, j, none⟩ u k (fun e => hne (by rw [e]))).trans (hg.block k hk hne)⟩

theorem Gr.levS_at {g : Gr} {dr : Nat → Int} {j x e : Nat} (hx : (g.ord 0)[j + 1]? = some x) (he : g.ent 0 x = e) :
    g.levS dr (j + 1) = upd (g.levS dr j) x (if g.t e = x then g.levS dr j (g.f e) - dr e else g.levS dr j (g.t e) + dr e) := by
  simp [Gr.levS, hx, he]

/-- the first k levels have been moved -/
def levK (net : Net) (zs : List Int) (root : Nat) (level : Int) (k v : Nat) : Int := (netG net).base (drF net zs) v + if v < k then level - (netG net).base (drF net zs) root else 0
theorem levK_zero {net : Net} {zs : List Int} {root : Nat} {level : Int} : levK net zs root level 0 = (netG net).base (drF net zs) := funext fun v => by unfold levK; simp
theorem levK_at {net : Net} {zs : List Int} {root : Nat} {level : Int} {k : Nat} : levK net zs root level k k = (netG net).base (drF net zs) k := by unfold levK; simp
theorem levK_set {net : Net} {zs : List Int} {root n : Nat} {level : Int} {k : Nat} : (mapTo n (levK net zs root level k)).set k ((netG net).base (drF net zs) k + (level - (netG net).base (drF net zs) root)) = mapTo n (levK net zs root level (k + 1)) := mapTo_set fun v _ => by
  unfold levK
  by_cases e : k = v
  · subst e; simp
  · rw [if_neg e]
    by_cases h : v < k
    · rw [if_pos h, if_pos (by omega)]
    · rw [if_neg h, if_neg (by omega)]
theorem levK_end {net : Net} {zs : List Int} {root n : Nat} {level : Int} : mapTo n (levK net zs root level n) = mapTo n ((netG net).lev (drF net zs) root level) := List.map_congr_left fun v hv => by simp [levK, Gr.lev, List.mem_range.1 hv]

end Go.Proofs.Ytllblmndoigdlaa

/- forest levels: the reference -/
namespace Go.Proofs.Ytllblmndoigdlaa
open Go.RowKit

def Gr.levT (g : Gr) (dr : Nat → Int) (root : Nat) (level : Int) (k v : Nat) : Int := if v ∈ (g.tree.ord root).take k then g.lev dr root level v else 0
theorem Gr.tree_head {g : Gr} (ok : g.ok) {root : Nat} (hr : root < g.n) : (g.tree.ord root).take 1 = [root] := by
  obtain ⟨l, hl⟩ := (Gr.ord_inv (Gr.tree_ok ok) (r := root) hr).head
  have : g.tree.ord root = root :: l := hl
  rw [this]; rfl
theorem Gr.levT_one {g : Gr} (ok : g.ok) {dr : Nat → Int} {root n : Nat} {level : Int} (hr : root < g.n) : (List.replicate n 0).set root level = mapTo n (g.levT dr root level 1) := by
  rw [← mapTo_const]
  refine mapTo_set fun v _ => ?_
  unfold Gr.levT
  rw [Gr.tree_head ok hr]
  by_cases e : root = v
  · subst e; simp [Gr.lev_root]
  · have : ¬ v = root := fun h => e h.symm
    simp [e, this]
theorem Gr.levT_succ {g : Gr} {dr : Nat → Int} {root n k x : Nat} {level : Int} (hx : (g.tree.ord root)[k]? = some x) : (mapTo n (g.levT dr root level k)).set x (g.lev dr root level x) = mapTo n (g.levT dr root level (k + 1)) := mapTo_set fun v _ => by
  unfold Gr.levT
  rw [List.take_add_one, hx]
  simp only [Option.toList_some, List.mem_append, List.mem_singleton]
  by_cases e : x = v
  · subst e; simp
  · have : ¬ v = x := fun h => e h.symm
    simp [e, this]
theorem Gr.levT_end {g : Gr} (ok : g.ok) (hn : 0 < g.n) (hc : g.conn = true) {dr : Nat → Int} {root k : Nat} {level : Int} (hr : root < g.n) (hk : (g.tree.ord root).length ≤ k) : mapTo g.n (g.levT dr root level k) = mapTo g.n (g.lev dr root level) := List.map_congr_left fun v hv => by
  have hv' := List.mem_range.1 hv
  have hc' := (Gr.conn_iff ok hn).1 hc
  unfold Gr.levT
  rw [List.take_of_length_le hk, if_pos (Gr.tree_reach ok hr hv' (by rw [hc' _ hr, hc' _ hv']))]
/-- one step along the tree -/
theorem Gr.tree_step {g : Gr} (ok : g.ok) {root k x : Nat} (hr : root < g.n) (hk : 1 ≤ k) (hx : (g.tree.ord root)[k]? = some x) :
    ∃ p y : Nat, g.tree.ent root x = p ∧ p < g.forest.length ∧ (g.tree.f p = x ∨ g.tree.t p = x) ∧ g.tree.oth p x = y ∧ y ∈ (g.tree.ord root).take k ∧ x < g.n ∧ y < g.n := by
  have hT := Gr.tree_ok ok
  have hord := Gr.ord_inv hT (r := root) hr
  have hxm := List.mem_of_getElem? hx
  have hxi : (g.tree.ord root).idxOf x = k := idxOf_at hord.nodup hx
  have hx0 : x ≠ root := by rintro rfl; have := Gr.idxOf_r hT (a := x) hr; omega
  obtain ⟨p, h1, h2, y, hy, h3, h4⟩ := hord.ent x hxm hx0
  have h3' : (g.tree.ord root).idxOf y < (g.tree.ord root).idxOf x := h3
  have hxy : x ≠ y := by rintro rfl; omega
  refine ⟨p, y, h1, h2, Gr.touch_of_joins h4, Gr.oth_of_joins h4 hxy, ?_, hord.lt x hxm, hord.lt y hy⟩
  have hyl : (g.tree.ord root).idxOf y < (g.tree.ord root).length := List.idxOf_lt_length_of_mem hy
  have : (g.tree.ord root)[(g.tree.ord root).idxOf y] = y := List.getElem_idxOf hyl
  rw [← this]
  rw [List.mem_take_iff_getElem]
  exact ⟨(g.tree.ord root).idxOf y, by omega, rfl⟩
theorem Gr.lev_step {g : Gr} (ok : g.ok) (hn : 0 < g.n) (hc : g.conn = true) {dr : Nat → Int} {root : Nat} {level : Int} {p x : Nat} (hp : p < g.forest.length) (hx : g.tree.f p = x ∨ g.tree.t p = x) :
    g.lev dr root level x = if g.tree.f p = x then g.lev dr root level (g.tree.oth p x) + dr (g.idx p) else g.lev dr root level (g.tree.oth p x) - dr (g.idx p) := by
  have hF := (Gr.idx_mem hp).2
  have hl := Gr.lev_lv ok hn hc dr root level (g.idx p) hF
  have e1 : g.tree.f p = g.f (g.idx p) := rfl
  have e2 : g.tree.t p = g.t (g.idx p) := rfl
  unfold Gr.oth
  by_cases hf : g.tree.f p = x
  · rw [if_pos hf, if_pos hf, e2]
    rw [e1] at hf
    rw [← hf]; omega
  · rw [if_neg hf, if_neg hf]
    have ht : g.tree.t p = x := hx.resolve_left hf
    rw [e1]
    rw [e2] at ht
    rw [← ht]; omega

end Go.Proofs.Ytllblmndoigdlaa

/- checks: nodes, levels, connected networks; IsEven -/
namespace Go.Proofs.Ytllblmndoigdlaa
open Go.RowKit

def rIsEven (net : Net) (zs : List Int) : Bool := netB net && supB net zs && evB net zs

set_option maxHeartbeats 2000000 in
theorem implIsEven_any (A : Option Addr) (n c : Nat) (B : Option Addr) (m d : Nat) (net : Net) (C : Option Addr) (l e : Nat) (zs : List Int) (w : World) (h : NetAt w A n c B m d net) (hz : Ints w C l e zs) :
    Calls Try.prog 19 #[.agg #[.slice A n c, .slice B m d], .slice C l e] w fun e w' => e = .returned (.bool (rIsEven net zs)) ∧ Below w.heap.size w w' := by
  have HB := Lib.hid (bel1 w (.cells #[.slice A n c, .slice B m d] 27))
  rcases hv : netB net with _ | _
  · have HR : Hid (rIsEven net zs = false) := Lib.hid (by unfold rIsEven; rw [hv]; rfl)
    go_enter Try.func19, Try.ntmps19
    go_wp2_with fail
    refine (implIsNetwork_is _ _ _ _ _ _ net _ _ (h.later HB.out) hv).mono ?_
    rintro e w1 ⟨rfl, b1⟩
    have t1 := below_step HB.out b1
    have s1 := b1
    obtain ⟨k0, k1⟩ := box_cells s1
    go_wp2_with fail
    go_ret
    exact ⟨ret_bool HR.out.symm, t1⟩
  · rcases hs : supB net zs with _ | _
    · have HR : Hid (rIsEven net zs = false) := Lib.hid (by unfold rIsEven; rw [hv, hs]; rfl)
      go_enter Try.func19, Try.ntmps19
      go_wp2_with fail
      refine (implIsNetwork_is _ _ _ _ _ _ net _ _ (h.later HB.out) hv).mono ?_
      rintro e w1 ⟨rfl, b1⟩
      have t1 := below_step HB.out b1
      have s1 := b1
      obtain ⟨k0, k1⟩ := box_cells s1
      go_wp2_with fail
      refine (areSupplies_is _ _ _ _ _ _ _ _ _ net zs _ _ (h.later t1) (hz.later t1) hs).mono ?_
      rintro e w2 ⟨rfl, b2⟩
      clear k0 k1
      have t2 := below_step t1 b2
      have s2 := below_step s1 b2
      obtain ⟨k0, k1⟩ := box_cells s2
      go_wp2_with fail
      go_ret
      exact ⟨ret_bool HR.out.symm, t2⟩
    · have HR : Hid (rIsEven net zs = evB net zs) := Lib.hid (by unfold rIsEven; rw [hv, hs]; rfl)
      obtain ⟨b, hE⟩ : ∃ b, evB net zs = b := ⟨_, rfl⟩
      rw [hE] at HR
      go_enter Try.func19, Try.ntmps19
      go_wp2_with fail
      refine (implIsNetwork_is _ _ _ _ _ _ net _ _ (h.later HB.out) hv).mono ?_
      rintro e w1 ⟨rfl, b1⟩
      have t1 := below_step HB.out b1
      have s1 := b1
      obtain ⟨k0, k1⟩ := box_cells s1
      go_wp2_with fail
      refine (areSupplies_is _ _ _ _ _ _ _ _ _ net zs _ _ (h.later t1) (hz.later t1) hs).mono ?_
      rintro e w2 ⟨rfl, b2⟩
      clear k0 k1
      have t2 := below_step t1 b2
      have s2 := below_step s1 b2
      obtain ⟨k0, k1⟩ := box_cells s2
      go_wp2_with fail
      refine (isEven_is _ _ _ _ _ _ net _ _ _ zs _ _ (h.later t2) (hz.later t2) (NetOK.of hv) hs hE).mono ?_
      rintro e w3 ⟨rfl, b3⟩
      clear k0 k1
      have t3 := below_step t2 b3
      have s3 := below_step s2 b3
      obtain ⟨k0, k1⟩ := box_cells s3
      go_wp2_with fail
      go_ret
      exact ⟨ret_bool HR.out.symm, t3⟩

set_option maxHeartbeats 2000000 in
theorem specIsEven_any (A : Option Addr) (n c : Nat) (B : Option Addr) (m d : Nat) (net : Net) (C : Option Addr) (l e : Nat) (zs : List Int) (w : World) (h : NetAt w A n c B m d net) (hz : Ints w C l e zs) :
    Calls Try.prog 20 #[.agg #[.slice A n c, .slice B m d], .slice C l e] w fun e w' => e = .returned (.bool (rIsEven net zs)) ∧ Below w.heap.size w w' := by
  have HB := Lib.hid (bel1 w (.cells #[.slice A n c, .slice B m d] 27))
  rcases hv : netB net with _ | _
  · have HR : Hid (rIsEven net zs = false) := Lib.hid (by unfold rIsEven; rw [hv]; rfl)
    go_enter Try.func20, Try.ntmps20
    go_wp2_with fail
    refine (specIsNetwork_is _ _ _ _ _ _ net _ _ (h.later HB.out) hv).mono ?_
    rintro e w1 ⟨rfl, b1⟩
    have t1 := below_step HB.out b1
    have s1 := b1
    obtain ⟨k0, k1⟩ := box_cells s1
    go_wp2_with fail
    go_ret
    exact ⟨ret_bool HR.out.symm, t1⟩
  · rcases hs : supB net zs with _ | _
    · have HR : Hid (rIsEven net zs = false) := Lib.hid (by unfold rIsEven; rw [hv, hs]; rfl)
      go_enter Try.func20, Try.ntmps20
      go_wp2_with fail
      refine (specIsNetwork_is _ _ _ _ _ _ net _ _ (h.later HB.out) hv).mono ?_
      rintro e w1 ⟨rfl, b1⟩
      have t1 := below_step HB.out b1
      have s1 := b1
      obtain ⟨k0, k1⟩ := box_cells s1
      go_wp2_with fail
      refine (l06List_is _ _ _ _ _ _ _ _ _ net zs _ _ (h.later t1) (hz.later t1) hs).mono ?_
      rintro e w2 ⟨rfl, b2⟩
      clear k0 k1
      have t2 := below_step t1 b2
      have s2 := below_step s1 b2
      obtain ⟨k0, k1⟩ := box_cells s2
      go_wp2_with fail
      go_ret
      exact ⟨ret_bool HR.out.symm, t2⟩
    · have HR : Hid (rIsEven net zs = evB net zs) := Lib.hid (by unfold rIsEven; rw [hv, hs]; rfl)
      obtain ⟨b, hE⟩ : ∃ b, evB net zs = b := ⟨_, rfl⟩
      rw [hE] at HR
      go_enter Try.func20, Try.ntmps20
      go_wp2_with fail
      refine (specIsNetwork_is _ _ _ _ _ _ net _ _ (h.later HB.out) hv).mono ?_
      rintro e w1 ⟨rfl, b1⟩
      have t1 := below_step HB.out b1
      have s1 := b1
      obtain ⟨k0, k1⟩ := box_cells s1
      go_wp2_with fail
      refine (l06List_is _ _ _ _ _ _ _ _ _ net zs _ _ (h.later t1) (hz.later t1) hs).mono ?_
      rintro e w2 ⟨rfl, b2⟩
      clear k0 k1
      have t2 := below_step t1 b2
      have s2 := below_step s1 b2
      obtain ⟨k0, k1⟩ := box_cells s2
      go_wp2_with fail
      refine (l06Even_is _ _ _ _ _ _ net _ _ _ zs _ _ (h.later t2) (hz.later t2) (NetOK.of hv) hs hE).mono ?_
      rintro e w3 ⟨rfl, b3⟩
      clear k0 k1
      have t3 := below_step t2 b3
      have s3 := below_step s2 b3
      obtain ⟨k0, k1⟩ := box_cells s3
      go_wp2_with fail
      go_ret
      exact ⟨ret_bool HR.out.symm, t3⟩

def levB (x : Int) : Bool := inB x (-500000000000000000) 500000000000000000
theorem levB_lim {x : Int} (h : levB x = true) : -500000000000000000 ≤ x ∧ x ≤ 500000000000000000 := by unfold levB inB at h; simp at h; exact h

/-- the code of a network and nodes -/
def codeN (net : Net) (xs : List Int) : Int := if netB net then (if allB xs 0 ((net.nodes.length : Int) - 1) then 0 else 2) else 1

/-- the code of a network that must be connected, a flow list, a level and nodes -/
def codeT (net : Net) (zs : List Int) (level : Int) (xs : List Int) : Int :=
  if codeF net zs = 0 then (if allB xs 0 ((net.nodes.length : Int) - 1) && levB level then (if (netG net).conn then 0 else 5) else 2) else codeF net zs
theorem codeT_cases (net : Net) (zs : List Int) (level : Int) (xs : List Int) :
    (codeF net zs ≠ 0 ∧ codeT net zs level xs = codeF net zs) ∨ (codeF net zs = 0 ∧ codeN net xs = 2 ∧ codeT net zs level xs = 2) ∨ (codeF net zs = 0 ∧ codeN net xs = 0 ∧ allB xs 0 ((net.nodes.length : Int) - 1) = true ∧ levB level = false ∧ codeT net zs level xs = 2) ∨
    (codeF net zs = 0 ∧ codeN net xs = 0 ∧ allB xs 0 ((net.nodes.length : Int) - 1) = true ∧ levB level = true ∧ (netG net).conn = false ∧ codeT net zs level xs = 5) ∨ (codeF net zs = 0 ∧ codeN net xs = 0 ∧ allB xs 0 ((net.nodes.length : Int) - 1) = true ∧ levB level = true ∧ (netG net).conn = true ∧ codeT net zs level xs = 0) := by
  by_cases h0 : codeF net zs = 0
  · have hv := (codeF_zero h0).1
    unfold codeT codeN
    rw [if_pos h0, hv]
    cases h1 : allB xs 0 ((net.nodes.length : Int) - 1) <;> cases h2 : levB level <;> cases h3 : (netG net).conn <;> simp [h0]
  · exact .inl ⟨h0, by unfold codeT; rw [if_neg h0]⟩
theorem codeT_zero {net : Net} {zs : List Int} {level : Int} {xs : List Int} (h : codeT net zs level xs = 0) : netB net = true ∧ flowB net zs = true ∧ allB xs 0 ((net.nodes.length : Int) - 1) = true ∧ levB level = true ∧ (netG net).conn = true := by
  rcases codeT_cases net zs level xs with ⟨h0, e⟩ | ⟨h0, h1, e⟩ | ⟨h0, h1, h2, h3, e⟩ | ⟨h0, h1, h2, h3, h4, e⟩ | ⟨h0, h1, h2, h3, h4, e⟩
  · rw [e] at h; exact absurd h h0
  · omega
  · omega
  · omega
  · exact ⟨(codeF_zero h0).1, (codeF_zero h0).2, h2, h3, h4⟩

end Go.Proofs.Ytllblmndoigdlaa

/- GapBetween, LowestNode -/
namespace Go.Proofs.Ytllblmndoigdlaa
open Go.RowKit

theorem ints_lit1 (w : World) (o : Obj) {a : Int} (ha : I64 a) : Ints ((w.alloc o).alloc (.cells #[.int .i64 a] 2)) (some ⟨w.heap.size + 1, 0, none⟩) 1 1 [a] := by
  rw [← size_alloc1 w o]
  exact (own_lit (w.alloc o) a ha).ints
theorem ints_lit2 (w : World) (o : Obj) {a b : Int} (ha : I64 a) (hb : I64 b) : Ints ((w.alloc o).alloc (.cells #[.int .i64 a, .int .i64 b] 2)) (some ⟨w.heap.size + 1, 0, none⟩) 2 2 [a, b] := by
  rw [← size_alloc1 w o]
  have g := heap_alloc_new (w.alloc o) (.cells #[.int .i64 a, .int .i64 b] 2)
  refine ⟨rfl, by omega, by omega, ?_, fun _ => ⟨(w.alloc o).heap.size, 0, rfl, by simp, fun j hj => ?_⟩⟩
  · intro z hz
    simp at hz
    rcases hz with rfl | rfl
    · exact ha
    · exact hb
  · match j, hj with
    | 0, _ => rw [cell_blk g]; rfl
    | 1, _ => rw [cell_blk g]; rfl
theorem allB_one {a lo hi : Int} : allB [a] lo hi = inB a lo hi := by unfold allB; simp
theorem allB_two {a b lo hi : Int} : allB [a, b] lo hi = (inB a lo hi && inB b lo hi) := by unfold allB; simp
theorem inB_nat {a : Int} {n : Nat} (h : inB a 0 ((n : Int) - 1) = true) : ∃ a' : Nat, a = a' ∧ a' < n := by
  unfold inB at h
  simp at h
  exact ⟨a.toNat, by omega, by omega⟩

def rForestLevels (net : Net) (zs : List Int) (root level : Int) : List Int × Int := if codeT net zs level [root] = 0 then (levL net zs root.toNat level, 0) else ([], codeT net zs level [root])

def rGapBetween (net : Net) (zs : List Int) (a b : Int) : Int × Int := if codeT net zs 0 [a, b] = 0 then ((netG net).base (drF net zs) a.toNat - (netG net).base (drF net zs) b.toNat, 0) else (0, codeT net zs 0 [a, b])

/-- the first of the least of the first k + 1 numbers -/
def lowI (L : List Int) : Nat → Nat
  | 0 => 0
  | k + 1 => if ig L (k + 1) < ig L (lowI L k) then k + 1 else lowI L k
theorem lowI_facts (L : List Int) (k : Nat) : lowI L k ≤ k ∧ (∀ i, i ≤ k → ig L (lowI L k) ≤ ig L i) ∧ ∀ i, i < lowI L k → ig L (lowI L k) < ig L i := by
  induction k with
  | zero => exact ⟨Nat.le_refl _, fun i hi => by have : i = 0 := by omega
                                                 subst this; exact Int.le_refl _, fun i hi => by simp [lowI] at hi⟩
  | succ k ih =>
    obtain ⟨h1, h2, h3⟩ := ih
    unfold lowI
    by_cases h : ig L (k + 1) < ig L (lowI L k)
    · rw [if_pos h]
      refine ⟨Nat.le_refl _, fun i hi => ?_, fun i hi => ?_⟩
      · by_cases e : i = k + 1
        · subst e; exact Int.le_refl _
        · have := h2 i (by omega); omega
      · have := h2 i (by omega); omega
    · rw [if_neg h]
      refine ⟨by omega, fun i hi => ?_, h3⟩
      by_cases e : i = k + 1
      · subst e; omega
      · exact h2 i (by omega)

set_option maxHeartbeats 1000000 in
theorem slicesIndex_at (A : Option Addr) (n c : Nat) (zs : List Int) (x : Int) (j : Nat) (w : World) (h : Ints w A n c zs) (hj : j < n) (hx : ig zs j = x) (hne : ∀ i, i < j → ig zs i ≠ x) :
    Calls Try.prog 122 #[.slice A n c, .int .i64 x] w fun e w' => e = .returned (.int .i64 j) ∧ w = w' := by
  have hle := h.le
  have hcap := h.cap
  obtain ⟨b, off, rfl, hb, hc⟩ := h.cells (by omega)
  have HC := Lib.hid hc
  have HNE := Lib.hid hne
  clear hc hne
  go_enter Try.func122, Try.ntmps122
  go_wp2_with fail
  go_loop [8] (fun i => ∃ k : Nat, k ≤ j ∧ i = .int .i64 k) (fun i => n - (intOf i).toNat)
  case atStart => exact ⟨0, by omega, rfl⟩
  case round =>
    obtain ⟨k, hk, rfl⟩ := hrel
    have hck := HC.out k (by omega)
    by_cases e : k = j
    · subst e
      have g : (x == ig zs k) = true := by simp [hx]
      clear hx
      generalize ig zs k = X at *
      go_wp2_with fail
      go_ret
      exact ⟨rfl, rfl⟩
    · have g : (x == ig zs k) = false := by have := HNE.out k (by omega); simp; exact fun h => this h.symm
      generalize ig zs k = X at *
      go_wp2_with fail
      go_round
      case rel => exact ⟨k + 1, by omega, by go_num⟩
      case measure => simp [intOf]; omega

def rLowestNode (net : Net) (zs : List Int) : Int × Int := if codeT net zs 0 [] = 0 then (((lowI (levL net zs 0 0) (net.nodes.length - 1) : Nat) : Int), 0) else (0, codeT net zs 0 [])

end Go.Proofs.Ytllblmndoigdlaa
