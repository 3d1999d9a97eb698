/- plain facts: throughput, balance, circulations, trees -/
import Derived.Test.YtllblmndoigdlaaM4
import Derived.Test.YtllblmndoigdlaaJ4
import Derived.Test.YtllblmndoigdlaaK2
import Derived.Test.YtllblmndoigdlaaH9
namespace Go.Proofs.Ytllblmndoigdlaa

theorem Gr.sum_even {g : Gr} (ok : g.ok) {sup : Nat → Int} (h : g.even sup) : sumTo sup g.n = 0 := by
  have e1 : sumTo (fun v => sumTo (fun c => if g.root v = c then sup v else 0) g.n) g.n = sumTo sup g.n := sumTo_congr fun v hv => by
    rw [sumTo_one (i := g.root v) (Gr.root_facts ok hv).1 (fun j _ hj => if_neg (Ne.symm hj)), if_pos rfl]
  rw [← e1, sumTo_swap]
  exact sumTo_zero fun c hc => h c hc
theorem thr_law {net : Net} {zs : List Int} (hv : netB net = true) (hs : supB net zs = true) (he : evB net zs = true) : 2 * thr zs zs.length = sumTo (fun j => ab (ig zs j)) zs.length := by
  have h0 := Gr.sum_even (NetOK.of hv).g (evB_iff.1 he)
  have hn : (netG net).n = zs.length := (supB_len hs).symm
  rw [hn] at h0
  have e : sumTo (fun j => 2 * pos (ig zs j) - ab (ig zs j)) zs.length = sumTo (ig zs) zs.length := sumTo_congr fun j _ => by
    unfold pos ab; split <;> omega
  rw [sumTo_sub, sumTo_mul, h0] at e
  unfold thr; omega

theorem outS_is {net : Net} (ok : NetOK net) (zs : List Int) (v : Nat) : outS net.pipes zs net.pipes.length v = (netG net).out (ig zs) v := by
  unfold outS Gr.out
  refine sumTo_congr fun j hj => ?_
  unfold dlt Gr.trm
  rw [ok.fr hj, ok.to hj]
  simp only [Int.natCast_inj]
theorem outL_is {net : Net} (ok : NetOK net) (zs : List Int) : outL net.nodes.length net.pipes zs net.pipes.length = mapTo net.nodes.length ((netG net).out (ig zs)) := List.map_congr_left fun v _ => outS_is ok zs v
theorem outL_ig {net : Net} (ok : NetOK net) (zs : List Int) {v : Nat} (hv : v < net.nodes.length) : ig (outL net.nodes.length net.pipes zs net.pipes.length) v = (netG net).out (ig zs) v := by
  rw [outL_is ok, mapTo_ig hv]
theorem bal_facts {net : Net} {zs zs2 : List Int} (h : rIsBalanced net zs zs2 = true) : netB net = true ∧ flowB net zs = true ∧ supB net zs2 = true ∧ outL net.nodes.length net.pipes zs net.pipes.length = zs2 ∧ evB net zs2 = true := by
  unfold rIsBalanced at h
  simp only [Bool.and_eq_true] at h
  obtain ⟨⟨⟨h1, h2⟩, h3⟩, h4⟩ := h
  have e : outL net.nodes.length net.pipes zs net.pipes.length = zs2 := of_decide_eq_true h4
  refine ⟨h1, h2, h3, e, evB_iff.2 (Gr.even_of_out (NetOK.of h1).g (fl := ig zs) fun v hv => ?_)⟩
  rw [← e, outL_ig (NetOK.of h1) zs hv]
/-- the forest flows balance even supplies -/
theorem ffL_out {net : Net} {zs : List Int} (hv : netB net = true) (he : evB net zs = true) {v : Nat} (h : v < net.nodes.length) : (netG net).out (ig (ffL net zs)) v = ig zs v := by
  have ok := NetOK.of hv
  have e : (netG net).out (ig (ffL net zs)) v = (netG net).out ((netG net).ffl (ig zs)) v := Gr.out_congr (fun i hi => by unfold ffL; exact mapTo_ig hi) v
  rw [e]
  exact (Gr.ffl_ff ok.g).even ok.g (evB_iff.1 he) v h
theorem ffL_balanced {net : Net} {zs : List Int} (hv : netB net = true) (hs : supB net zs = true) (he : evB net zs = true) (hf : flowB net (ffL net zs) = true) : rIsBalanced net (ffL net zs) zs = true := by
  unfold rIsBalanced
  rw [hv, hf, hs]
  show eqL _ _ = true
  have : outL net.nodes.length net.pipes (ffL net zs) net.pipes.length = zs := ext_ig (by rw [outL_len, supB_len hs]) fun j hj => by
    rw [outL_len] at hj
    rw [outL_ig (NetOK.of hv) _ hj, ffL_out hv he hj]
  rw [this]; exact eqL_self _
/-- circulations -/
def rIsCirc (net : Net) (zs : List Int) : Bool := netB net && flowB net zs && allB (outL net.nodes.length net.pipes zs net.pipes.length) 0 0
theorem circ_mk {net : Net} {zs : List Int} (hv : netB net = true) (hf : flowB net zs = true) (h : ∀ v, v < net.nodes.length → (netG net).out (ig zs) v = 0) : rIsCirc net zs = true := by
  unfold rIsCirc
  rw [hv, hf]
  show allB _ 0 0 = true
  refine allB_yes (k := net.nodes.length) (by rw [outL_len]; omega) fun j hj => ?_
  rw [outL_ig (NetOK.of hv) _ hj, h j hj]; rfl
theorem circ_out {net : Net} {zs : List Int} (h : rIsCirc net zs = true) : netB net = true ∧ flowB net zs = true ∧ ∀ v, v < net.nodes.length → (netG net).out (ig zs) v = 0 := by
  unfold rIsCirc at h
  simp only [Bool.and_eq_true] at h
  obtain ⟨⟨h1, h2⟩, h3⟩ := h
  refine ⟨h1, h2, fun v hv => ?_⟩
  have := allB_at h3 v (by rw [outL_len]; exact hv)
  rw [outL_ig (NetOK.of h1) _ hv] at this
  omega
/-- in a tree every pipe is in the forest -/
theorem Gr.tree_all {g : Gr} (ok : g.ok) (hn : 0 < g.n) (hc : g.conn = true) (hm : g.m + 1 = g.n) {i : Nat} (hi : i < g.m) : g.F i := by
  have hr := (Gr.conn_iff ok hn).1 hc
  have hne : ∀ v, v < g.n → 0 < v → g.root v ≠ v := fun v hv h0 => by rw [hr v hv]; omega
  obtain ⟨L, hL⟩ : ∃ L, L = (List.range g.m).map (fun v => (g.fe (v + 1)).toNat) := ⟨_, rfl⟩
  have key : ∀ v, v < g.m → ∃ e : Nat, g.fe (v + 1) = e ∧ e < g.m := fun v hv => by
    obtain ⟨e, y, h1, h2, _⟩ := Gr.fe_some ok (v := v + 1) (by omega) (hne _ (by omega) (by omega))
    exact ⟨e, h1, h2⟩
  have hnd : L.Nodup := by
    rw [hL]
    refine List.Pairwise.map _ (fun a b hab => hab) ?_
    refine List.Pairwise.imp_of_mem ?_ (List.nodup_range (n := g.m))
    intro a b ha hb hab e
    obtain ⟨x, hx, _⟩ := key a (List.mem_range.1 ha)
    obtain ⟨y, hy, _⟩ := key b (List.mem_range.1 hb)
    rw [hx, hy] at e
    have e' : g.fe (a + 1) = g.fe (b + 1) := by rw [hx, hy]; exact congrArg Int.ofNat (by simpa using e)
    have := Gr.fe_inj ok (v := a + 1) (v' := b + 1) (by have := List.mem_range.1 ha; omega) (by have := List.mem_range.1 hb; omega) (hne _ (by have := List.mem_range.1 ha; omega) (by omega)) e'
    omega
  by_cases hin : i ∈ L
  · rw [hL, List.mem_map] at hin
    obtain ⟨v, hv, e⟩ := hin
    obtain ⟨x, hx, _⟩ := key v (List.mem_range.1 hv)
    refine ⟨v + 1, by have := List.mem_range.1 hv; omega, ?_⟩
    rw [hx] at e ⊢
    simp at e; rw [e]
  · have h2 : (i :: L).Nodup := List.nodup_cons.2 ⟨hin, hnd⟩
    have := nodup_len h2 (n := g.m) (fun x hx => by
      rcases List.mem_cons.1 hx with rfl | hx
      · exact hi
      · rw [hL, List.mem_map] at hx
        obtain ⟨v, hv, e⟩ := hx
        obtain ⟨y, hy, hy2⟩ := key v (List.mem_range.1 hv)
        rw [hy] at e; simp at e; omega)
    rw [hL] at this
    simp at this
    omega

end Go.Proofs.Ytllblmndoigdlaa

/- plain facts: cycles of chords as lists; what adding a cycle changes; residuals -/
namespace Go.Proofs.Ytllblmndoigdlaa

/-! ### cycles as lists -/
noncomputable def cycL (net : Net) (c : Nat) : List Int := mapTo net.pipes.length ((netG net).cyc c)
theorem cycL_len (net : Net) (c : Nat) : (cycL net c).length = net.pipes.length := mapTo_len _ _
def chdB (net : Net) (x : Int) : Bool := decide (x ∈ nl (netG net).chords)
theorem chdB_nat {net : Net} {x : Int} (h : chdB net x = true) : ∃ c : Nat, x = c ∧ c ∈ (netG net).chords ∧ c < net.pipes.length := by
  unfold chdB nl at h
  have h := of_decide_eq_true h
  obtain ⟨c, hc, e⟩ := List.mem_map.1 h
  exact ⟨c, e.symm, hc, (Gr.mem_chords.1 hc).1⟩
theorem chdB_of {net : Net} {c : Nat} (h : c ∈ (netG net).chords) : chdB net c = true := by
  unfold chdB nl
  exact decide_eq_true (List.mem_map.2 ⟨c, h, rfl⟩)
theorem cyc_at {net : Net} (ok : NetOK net) {c : Nat} (hc : c ∈ (netG net).chords) : (netG net).CC c ((netG net).cyc c) ∧ (∀ e, unit ((netG net).cyc c e)) ∧ (∀ v, (netG net).out ((netG net).cyc c) v = 0) ∧ ∀ e, (netG net).m ≤ e → (netG net).cyc c e = 0 :=
  Gr.cyc_facts ok.g (Gr.mem_chords.1 hc).1 (Gr.mem_chords.1 hc).2
theorem cycL_ig {net : Net} (ok : NetOK net) {c : Nat} (hc : c ∈ (netG net).chords) (j : Nat) : ig (cycL net c) j = (netG net).cyc c j := by
  by_cases hj : j < net.pipes.length
  · exact mapTo_ig hj
  · rw [ig_ge (by rw [cycL_len]; omega)]
    exact ((cyc_at ok hc).2.2.2 j (by show net.pipes.length ≤ j; omega)).symm
/-- a list that may be a cycle of a network -/
structure Cyc (net : Net) (cs : List Int) : Prop where
  len : cs.length = net.pipes.length
  u : ∀ j, unit (ig cs j)
theorem Cyc.bnd {net : Net} {cs : List Int} (h : Cyc net cs) (j : Nat) : -1 ≤ ig cs j ∧ ig cs j ≤ 1 := by
  rcases h.u j with h | h | h <;> omega
theorem cycL_cyc {net : Net} (ok : NetOK net) {c : Nat} (hc : c ∈ (netG net).chords) : Cyc net (cycL net c) :=
  ⟨cycL_len _ _, fun j => by rw [cycL_ig ok hc]; exact (cyc_at ok hc).2.1 j⟩
theorem cycL_self {net : Net} (ok : NetOK net) {c : Nat} (hc : c ∈ (netG net).chords) : ig (cycL net c) c = 1 := by
  rw [cycL_ig ok hc]; exact (cyc_at ok hc).1.one
theorem cycL_other {net : Net} (ok : NetOK net) {c c' : Nat} (hc : c ∈ (netG net).chords) (hc' : c' ∈ (netG net).chords) (hne : c' ≠ c) : ig (cycL net c) c' = 0 := by
  rw [cycL_ig ok hc]; exact (cyc_at ok hc).1.supp c' (Gr.mem_chords.1 hc').1 (Gr.mem_chords.1 hc').2 hne
theorem cycL_out {net : Net} (ok : NetOK net) {c : Nat} (hc : c ∈ (netG net).chords) (v : Nat) : (netG net).out (ig (cycL net c)) v = 0 := by
  rw [← (cyc_at ok hc).2.2.1 v]
  exact Gr.out_congr (fun i _ => cycL_ig ok hc i) v
/-- what the reference and the program find -/
theorem cycL_is {net : Net} (ok : NetOK net) {c : Nat} (hc : c ∈ (netG net).chords) {h : Nat → Int} (hh : (netG net).CC c h) : mapTo net.pipes.length h = cycL net c :=
  List.map_congr_left fun i hi => Gr.cyc_is ok.g (Gr.mem_chords.1 hc).1 (Gr.mem_chords.1 hc).2 hh i (List.mem_range.1 hi)
noncomputable def basL (net : Net) : List (List Int) := (netG net).chords.map (cycL net)
theorem basL_len (net : Net) : (basL net).length = (netG net).chords.length := by unfold basL; simp
theorem basL_at {net : Net} {j c : Nat} (h : (netG net).chords[j]? = some c) : (basL net)[j]? = some (cycL net c) := by unfold basL; rw [List.getElem?_map, h]; rfl
theorem chords_le (net : Net) : (netG net).chords.length ≤ net.pipes.length := Gr.choK_len _ _
theorem chords_nodup (g : Gr) : g.chords.Nodup := List.Pairwise.filter _ List.nodup_range

/-! ### adding a multiple of a cycle -/
theorem addL_ig' {zs cs : List Int} {a : Int} (h : cs.length = zs.length) (j : Nat) : ig (addL zs cs a) j = ig zs j + a * ig cs j := by
  by_cases hj : j < zs.length
  · exact addL_ig hj
  · rw [ig_ge (by rw [addL_len]; omega), ig_ge (by omega), ig_ge (by omega)]; simp
theorem addL_zero {zs cs : List Int} (h : cs.length = zs.length) : addL zs cs 0 = zs := ext_ig (addL_len _ _ _) fun j hj => by rw [addL_ig' h]; simp
theorem addL_add {zs cs : List Int} (h : cs.length = zs.length) (a b : Int) : addL (addL zs cs a) cs b = addL zs cs (a + b) := ext_ig (by rw [addL_len, addL_len, addL_len]) fun j hj => by
  rw [addL_ig' (by rw [addL_len]; exact h), addL_ig' h, addL_ig' h, Int.add_mul]; omega
theorem addL_out {net : Net} {zs cs : List Int} (h : cs.length = zs.length) (a : Int) (v : Nat) : (netG net).out (ig (addL zs cs a)) v = (netG net).out (ig zs) v + a * (netG net).out (ig cs) v := by
  rw [← Gr.out_mul, ← Gr.out_add]
  exact Gr.out_congr (fun i _ => addL_ig' h i) v
def okK (zs cs : List Int) (a : Int) (k : Nat) : Bool := (List.range k).all fun j => decide (ig cs j = 0) || inB (ig zs j + ig cs j * a) (-30000) 30000
theorem okK_succ (zs cs : List Int) (a : Int) (k : Nat) : okK zs cs a (k + 1) = (okK zs cs a k && (decide (ig cs k = 0) || inB (ig zs k + ig cs k * a) (-30000) 30000)) := by
  unfold okK; rw [List.range_succ, List.all_append]; simp
theorem okK_at {zs cs : List Int} {a : Int} {k : Nat} (h : okK zs cs a k = true) {j : Nat} (hj : j < k) (hc : ig cs j ≠ 0) : -30000 ≤ ig zs j + ig cs j * a ∧ ig zs j + ig cs j * a ≤ 30000 := by
  unfold okK at h
  have := List.all_eq_true.1 h j (List.mem_range.2 hj)
  simp only [Bool.or_eq_true, decide_eq_true_eq] at this
  exact inB_iff'.1 (this.resolve_left hc)
theorem okK_no {zs cs : List Int} {a : Int} {k m : Nat} (hk : k < m) (hc : ig cs k ≠ 0) (h : inB (ig zs k + ig cs k * a) (-30000) 30000 = false) : okK zs cs a m = false := by
  cases hb : okK zs cs a m
  · rfl
  · have := okK_at hb hk hc
    rw [inB_iff'.2 this] at h; cases h
theorem flow_okK {net : Net} {zs cs : List Int} {a : Int} (hf : flowB net zs = true) (hc : cs.length = net.pipes.length) : flowB net (addL zs cs a) = okK zs cs a net.pipes.length := by
  have hl := flowB_len hf
  rw [Bool.eq_iff_iff]
  constructor
  · intro h
    unfold okK
    refine List.all_eq_true.2 fun j hj => ?_
    have := flowB_all h j
    rw [addL_ig' (by omega), Int.mul_comm] at this
    rw [inB_iff'.2 this]; simp
  · intro h
    unfold flowB
    rw [addL_len]
    simp only [Bool.and_eq_true, decide_eq_true_eq]
    refine ⟨hl, allB_yes (k := zs.length) (by rw [addL_len]; omega) fun j hj => ?_⟩
    rw [addL_ig' (by omega), Int.mul_comm]
    by_cases h0 : ig cs j = 0
    · rw [h0]; have := flowB_all hf j; exact inB_iff'.2 (by omega)
    · exact inB_iff'.2 (okK_at h (by omega) h0)
def chT (net : Net) (zs cs : List Int) (a : Int) (j : Nat) : Int := if ig cs j = 0 then 0 else enr (pp net.pipes j).k (ig zs j + ig cs j * a) - enr (pp net.pipes j).k (ig zs j)
def chg (net : Net) (zs cs : List Int) (a : Int) (k : Nat) : Int := sumTo (chT net zs cs a) k
theorem chg_succ (net : Net) (zs cs : List Int) (a : Int) (k : Nat) : chg net zs cs a (k + 1) = chg net zs cs a k + chT net zs cs a k := rfl
theorem chg_eng {net : Net} {zs cs : List Int} {a : Int} (h : cs.length = zs.length) (k : Nat) : chg net zs cs a k = eng net.pipes (addL zs cs a) k - eng net.pipes zs k := by
  unfold eng chg
  rw [← sumTo_sub]
  refine sumTo_congr fun j _ => ?_
  unfold chT
  rw [addL_ig' h, Int.mul_comm a]
  by_cases h0 : ig cs j = 0
  · rw [if_pos h0, h0]; simp
  · rw [if_neg h0]
theorem chT_bnd {net : Net} {zs cs : List Int} {a : Int} (hv : netB net = true) (hf : flowB net zs = true) {m : Nat} (hm : m ≤ net.pipes.length) (h : okK zs cs a m = true) {j : Nat} (hj : j < m) : -54000000000000000 ≤ chT net zs cs a j ∧ chT net zs cs a j ≤ 54000000000000000 := by
  unfold chT
  by_cases h0 : ig cs j = 0
  · rw [if_pos h0]; omega
  · rw [if_neg h0]
    have h1 := okK_at h hj h0
    have h2 := flowB_all hf j
    have h3 := netB_pipe_at hv (j := j) (by omega)
    have h4 := enr_bnd (k := (pp net.pipes j).k) (q := ig zs j + ig cs j * a) (by omega) (by omega) h1.1 h1.2
    have h5 := enr_bnd (k := (pp net.pipes j).k) (q := ig zs j) (by omega) (by omega) h2.1 h2.2
    omega
theorem chg_bnd {net : Net} {zs cs : List Int} {a : Int} (hv : netB net = true) (hf : flowB net zs = true) {k : Nat} (hk : k ≤ net.pipes.length) (h : okK zs cs a k = true) : -2160000000000000000 ≤ chg net zs cs a k ∧ chg net zs cs a k ≤ 2160000000000000000 := by
  have h40 := (netB_sizes hv).2.2
  exact sumTo_le (f := chT net zs cs a) (k := k) (N := 40) (M := 54000000000000000) (by omega) (by omega) fun j hj => chT_bnd hv hf hk h hj
/-- does adding a multiple lower the energy -/
def lowB (net : Net) (zs cs : List Int) (a : Int) : Bool := okK zs cs a net.pipes.length && decide (chg net zs cs a net.pipes.length < 0)
theorem lowB_flow {net : Net} {zs cs : List Int} {a : Int} (hf : flowB net zs = true) (hc : cs.length = net.pipes.length) (h : lowB net zs cs a = true) : flowB net (addL zs cs a) = true ∧ eng net.pipes (addL zs cs a) net.pipes.length < eng net.pipes zs net.pipes.length := by
  unfold lowB at h
  simp only [Bool.and_eq_true, decide_eq_true_eq] at h
  rw [flow_okK hf hc]
  have e := chg_eng (net := net) (a := a) (show cs.length = zs.length by rw [hc, flowB_len hf]) net.pipes.length
  exact ⟨h.1, by omega⟩
theorem lowB_is {net : Net} {zs cs : List Int} {a : Int} (hf : flowB net zs = true) (hc : cs.length = net.pipes.length) : lowB net zs cs a = (flowB net (addL zs cs a) && decide (eng net.pipes (addL zs cs a) net.pipes.length < eng net.pipes zs net.pipes.length)) := by
  unfold lowB
  rw [flow_okK hf hc, chg_eng (show cs.length = zs.length by rw [hc, flowB_len hf])]
  congr 1
  rw [decide_eq_decide]; omega
theorem lowB_zero {net : Net} {zs cs : List Int} (hf : flowB net zs = true) (hc : cs.length = net.pipes.length) : lowB net zs cs 0 = false := by
  rw [lowB_is hf hc, addL_zero (by rw [hc, flowB_len hf])]
  simp
/-- what energyChange answers -/
def chgR (net : Net) (zs cs : List Int) (a : Int) : Int × Bool := if okK zs cs a net.pipes.length then (chg net zs cs a net.pipes.length, true) else (0, false)

/-! ### residuals -/
def res (net : Net) (zs cs : List Int) (k : Nat) : Int := sumTo (fun j => ig cs j * drF net zs j) k
theorem res_succ (net : Net) (zs cs : List Int) (k : Nat) : res net zs cs (k + 1) = res net zs cs k + ig cs k * drF net zs k := rfl
theorem resT_bnd {net : Net} {zs cs : List Int} (hv : netB net = true) (hf : flowB net zs = true) (hc : Cyc net cs) (j : Nat) : -900000000000 ≤ ig cs j * drF net zs j ∧ ig cs j * drF net zs j ≤ 900000000000 := by
  have h1 := drF_bnd hv hf j
  rcases hc.u j with h | h | h <;> rw [h] <;> omega
theorem res_bnd {net : Net} {zs cs : List Int} (hv : netB net = true) (hf : flowB net zs = true) (hc : Cyc net cs) (k : Nat) (hk : k ≤ 40) : -36000000000000 ≤ res net zs cs k ∧ res net zs cs k ≤ 36000000000000 :=
  sumTo_le (f := fun j => ig cs j * drF net zs j) (k := k) (N := 40) (M := 900000000000) (by omega) hk fun j _ => resT_bnd hv hf hc j
def rbT (net : Net) (zs cs : List Int) (j : Nat) : Int := if ig cs j = 0 then 0 else (pp net.pipes j).k * (3 * ab (ig zs j) + 1)
def rbd (net : Net) (zs cs : List Int) (k : Nat) : Int := sumTo (rbT net zs cs) k
theorem rbd_succ (net : Net) (zs cs : List Int) (k : Nat) : rbd net zs cs (k + 1) = rbd net zs cs k + rbT net zs cs k := rfl
theorem rbT_bnd {net : Net} {zs cs : List Int} (hv : netB net = true) (hf : flowB net zs = true) (j : Nat) : 0 ≤ (pp net.pipes j).k * (3 * ab (ig zs j) + 1) ∧ (pp net.pipes j).k * (3 * ab (ig zs j) + 1) ≤ 90001000 ∧ 0 ≤ rbT net zs cs j ∧ rbT net zs cs j ≤ 90001000 := by
  have h1 := ppk_bnd hv j
  have h2 := flowB_all hf j
  have h3 := ab_nn (ig zs j)
  have h4 := ab_le h2.1 h2.2
  have h5 : 0 ≤ (pp net.pipes j).k * (3 * ab (ig zs j) + 1) := Int.mul_nonneg h1.1 (by omega)
  have h6 : (pp net.pipes j).k * (3 * ab (ig zs j) + 1) ≤ 1000 * 90001 := Int.mul_le_mul h1.2 (by omega) (by omega) (by omega)
  unfold rbT
  split <;> omega
theorem rbd_bnd {net : Net} {zs cs : List Int} (hv : netB net = true) (hf : flowB net zs = true) (k : Nat) (hk : k ≤ 40) : -3600040000 ≤ rbd net zs cs k ∧ rbd net zs cs k ≤ 3600040000 :=
  sumTo_le (f := rbT net zs cs) (k := k) (N := 40) (M := 90001000) (by omega) hk fun j _ => by have := rbT_bnd (cs := cs) hv hf j; omega
theorem cub_pos (x : Int) : (x + 1) * (x + 1) * (x + 1) = x * x * x + 3 * (x * x) + 3 * x + 1 := by grind
/-- one step along a pipe of a cycle changes the energy by at most the drop's triple and the bound -/
theorem enr_step {k q s : Int} (hk : 0 ≤ k) (hs : s = 1 ∨ s = -1) : enr k (q + s) - enr k q ≤ 3 * (s * drp k q) + k * (3 * ab q + 1) := by
  have key : ab (q + s) * ab (q + s) * ab (q + s) - ab q * ab q * ab q ≤ 3 * (s * (q * ab q)) + (3 * ab q + 1) := by
    unfold ab
    rcases hs with rfl | rfl
    · by_cases h : q < 0
      · have h2 : -(q + 1) = -q - 1 := by omega
        by_cases h3 : q + 1 < 0
        · rw [if_pos h, if_pos h3]; grind
        · have : q = -1 := by omega
          subst this; decide
      · rw [if_neg h, if_neg (by omega)]; grind
    · by_cases h : q < 0
      · rw [if_pos h, if_pos (by omega)]; grind
      · by_cases h3 : q + -1 < 0
        · have : q = 0 := by omega
          subst this; decide
        · rw [if_neg h, if_neg h3]; grind
  have := Int.mul_le_mul_of_nonneg_left key hk
  unfold enr drp
  grind
/-- what a relaxed flow list says of a residual -/
theorem res_law {net : Net} {zs cs : List Int} (hv : netB net = true) (hc : Cyc net cs) (hfar : ∀ j, j < net.pipes.length → ab (ig zs j) < 30000)
    (h1 : lowB net zs cs 1 = false) (h2 : lowB net zs cs (-1) = false) : 3 * ab (res net zs cs net.pipes.length) ≤ rbd net zs cs net.pipes.length := by
  have hok : ∀ s : Int, s = 1 ∨ s = -1 → okK zs cs s net.pipes.length = true := fun s hs => by
    unfold okK
    refine List.all_eq_true.2 fun j hj => ?_
    have ha := hfar j (List.mem_range.1 hj)
    have hu := hc.u j
    have : -30000 ≤ ig zs j + ig cs j * s ∧ ig zs j + ig cs j * s ≤ 30000 := by
      unfold ab at ha
      rcases hs with rfl | rfl <;> rcases hu with h | h | h <;> rw [h] <;> split at ha <;> omega
    rw [inB_iff'.2 this]; simp
  have key : ∀ s : Int, s = 1 ∨ s = -1 → lowB net zs cs s = false → 0 ≤ 3 * (s * res net zs cs net.pipes.length) + rbd net zs cs net.pipes.length := by
    intro s hs hl
    unfold lowB at hl
    rw [hok s hs] at hl
    have hge : 0 ≤ chg net zs cs s net.pipes.length := by simpa using hl
    have hle : chg net zs cs s net.pipes.length ≤ 3 * (s * res net zs cs net.pipes.length) + rbd net zs cs net.pipes.length := by
      have gen : ∀ k, k ≤ net.pipes.length → chg net zs cs s k ≤ 3 * (s * res net zs cs k) + rbd net zs cs k := by
        intro k
        induction k with
        | zero => intro _; simp [chg, res, rbd, sumTo]
        | succ k ih =>
          intro hk
          have ih := ih (by omega)
          rw [chg_succ, res_succ, rbd_succ]
          have ht : chT net zs cs s k ≤ 3 * (s * (ig cs k * drF net zs k)) + rbT net zs cs k := by
            unfold chT rbT
            by_cases h0 : ig cs k = 0
            · rw [if_pos h0, if_pos h0, h0]; simp
            · rw [if_neg h0, if_neg h0]
              have hss : ig cs k * s = 1 ∨ ig cs k * s = -1 := by
                rcases hs with rfl | rfl <;> rcases hc.u k with h | h | h <;> rw [h] <;> omega
              have := enr_step (k := (pp net.pipes k).k) (q := ig zs k) (ppk_bnd hv k).1 hss
              unfold drF
              grind
          rw [Int.mul_add, Int.mul_add]
          omega
      exact gen _ (Nat.le_refl _)
    omega
  have k1 := key 1 (.inl rfl) h1
  have k2 := key (-1) (.inr rfl) h2
  unfold ab
  split <;> omega

end Go.Proofs.Ytllblmndoigdlaa

/- plain facts: the pipes of the forest as the program finds and sorts them -/
namespace Go.Proofs.Ytllblmndoigdlaa

theorem Gr.FS_new {g : Gr} (ok : g.ok) {k j p : Nat} (hk : k < g.n) (hkr : g.root k = k) (hj : j < g.n) (he : g.ent k j = p) : ¬ g.FS k j p := by
  have hjm := Gr.ent_mem ok hk he
  have hjr : g.root j = k := Gr.root_of_mem ok hk hkr hjm
  have hfj : g.fe j = p := by unfold Gr.fe; rw [hjr]; exact he
  have hjk : j ≠ k := by
    rintro rfl
    have : g.ent j j = -1 := (Gr.ord_inv ok hk).none j (.inr rfl)
    omega
  rintro (⟨r, v, hr, hv, hrr, e⟩ | ⟨v, hv, e⟩)
  · have hrn : r < g.n := by omega
    have hvr : g.root v = r := Gr.root_of_mem ok hrn hrr (Gr.ent_mem ok hrn e)
    have hfv : g.fe v = p := by unfold Gr.fe; rw [hvr]; exact e
    have := Gr.fe_inj ok hj hv (by omega) (by omega)
    subst this
    omega
  · have hvm := Gr.ent_mem ok hk e
    have hvr : g.root v = k := Gr.root_of_mem ok hk hkr hvm
    have hfv : g.fe v = p := by unfold Gr.fe; rw [hvr]; exact e
    have := Gr.fe_inj ok hj (Gr.ord_lt ok hk v hvm) (by omega) (by omega)
    omega
theorem Gr.FS_lt {g : Gr} (ok : g.ok) {k j p : Nat} (hk : k ≤ g.n) (hj : j = 0 ∨ k < g.n) (h : g.FS k j p) : p < g.m := by
  rcases h with ⟨r, v, hr, hv, hrr, e⟩ | ⟨v, hv, e⟩
  · exact Gr.ent_lt ok (by omega) e
  · exact Gr.ent_lt ok (by omega) e
/-- the pipes that have been laid down so far -/
structure Gr.Acc (g : Gr) (k j : Nat) (L : List Nat) : Prop where
  nd : L.Nodup
  mem : ∀ p, p ∈ L ↔ g.FS k j p
theorem Gr.Acc.len {g : Gr} (ok : g.ok) {k j : Nat} {L : List Nat} (h : g.Acc k j L) (hk : k ≤ g.n) (hj : j = 0 ∨ k < g.n) : L.length ≤ g.m :=
  nodup_len h.nd fun p hp => Gr.FS_lt ok hk hj ((h.mem p).1 hp)
theorem Gr.Acc.start (g : Gr) : g.Acc 0 0 [] := by
  refine ⟨List.nodup_nil, fun p => ⟨fun h => (by cases h), ?_⟩⟩
  rintro (⟨r, v, hr, _⟩ | ⟨v, hv, _⟩) <;> omega
theorem Gr.Acc.put {g : Gr} (ok : g.ok) {k j p : Nat} {L : List Nat} (h : g.Acc k j L) (hk : k < g.n) (hkr : g.root k = k) (hj : j < g.n) (he : g.ent k j = p) : g.Acc k (j + 1) (L ++ [p]) := by
  refine ⟨?_, fun q => ?_⟩
  · rw [List.nodup_append]
    refine ⟨h.nd, by simp, fun a ha b hb => ?_⟩
    rw [List.mem_singleton] at hb
    subst hb
    rintro rfl
    exact Gr.FS_new ok hk hkr hj he ((h.mem a).1 ha)
  · rw [Gr.FS_step, List.mem_append, List.mem_singleton, h.mem, he]
    constructor
    · rintro (h | h)
      · exact .inl h
      · exact .inr (by omega)
    · rintro (h | h)
      · exact .inl h
      · exact .inr (by omega)
theorem Gr.Acc.skip {g : Gr} {k j : Nat} {L : List Nat} (h : g.Acc k j L) (he : g.ent k j = -1) : g.Acc k (j + 1) L := by
  refine ⟨h.nd, fun q => ?_⟩
  rw [Gr.FS_step, h.mem, he]
  constructor
  · exact .inl
  · rintro (h | h)
    · exact h
    · omega
theorem Gr.Acc.next {g : Gr} {k : Nat} {L : List Nat} (h : g.Acc k g.n L) (hk : g.root k = k) : g.Acc (k + 1) 0 L := ⟨h.nd, fun p => by rw [Gr.FS_next hk, h.mem]⟩
theorem Gr.Acc.past {g : Gr} {k : Nat} {L : List Nat} (h : g.Acc k 0 L) (hk : g.root k ≠ k) : g.Acc (k + 1) 0 L := ⟨h.nd, fun p => by rw [Gr.FS_skip hk, h.mem]⟩
theorem nl_perm {L L' : List Nat} (h : L.Perm L') : (nl L).Perm (nl L') := h.map _
theorem nl_pairwise {L : List Nat} (h : L.Pairwise (· < ·)) : (nl L).Pairwise (· ≤ ·) := by
  unfold nl
  rw [List.pairwise_map]
  exact h.imp fun {a b} h => by show (a : Int) ≤ (b : Int); omega
theorem forest_pairwise (g : Gr) : g.forest.Pairwise (· < ·) := List.Pairwise.filter _ List.pairwise_lt_range
theorem chords_pairwise (g : Gr) : g.chords.Pairwise (· < ·) := List.Pairwise.filter _ List.pairwise_lt_range
theorem forest_sort {g : Gr} (ok : g.ok) {L : List Nat} (hn : L.Nodup) (hm : ∀ p, p ∈ L ↔ g.F p) : (nl L).mergeSort (fun x y => decide (x ≤ y)) = nl g.forest := by
  refine List.Perm.eq_of_pairwise (le := fun x y : Int => x ≤ y) (fun a b _ _ h1 h2 => Int.le_antisymm h1 h2) ?_ (nl_pairwise (forest_pairwise g)) ?_
  · refine (List.pairwise_mergeSort (le := fun x y : Int => decide (x ≤ y)) (fun a b c h1 h2 => ?_) (fun a b => ?_) (nl L)).imp fun {a b} h => of_decide_eq_true h
    · have h1 := of_decide_eq_true h1
      have h2 := of_decide_eq_true h2
      exact decide_eq_true (by omega)
    · simp only [Bool.or_eq_true, decide_eq_true_eq]; omega
  · refine (List.mergeSort_perm _ _).trans (nl_perm ((List.perm_ext_iff_of_nodup hn g.forest_nodup).2 fun p => ?_))
    rw [hm, Gr.mem_forest]
    refine ⟨fun h => ⟨?_, h⟩, fun h => h.2⟩
    obtain ⟨_, _, _, _, _, _, h, _⟩ := Gr.F_facts ok h
    exact h
theorem Gr.Acc.fin {g : Gr} (ok : g.ok) {L : List Nat} (h : g.Acc g.n 0 L) : (nl L).mergeSort (fun x y => decide (x ≤ y)) = nl g.forest ∧ L.length = g.forest.length := by
  have e := forest_sort ok h.nd fun p => by rw [h.mem, Gr.FS_end ok]
  refine ⟨e, ?_⟩
  have := congrArg List.length e
  rw [List.length_mergeSort, nl_len, nl_len] at this
  exact this

end Go.Proofs.Ytllblmndoigdlaa

/- plain facts: circulations and their flows through the chords; the worst residual -/
namespace Go.Proofs.Ytllblmndoigdlaa

/-! ### circulations from the flows through the chords -/
/-- the sum of the first k cycles, each times its amount -/
noncomputable def fcK (net : Net) (zs : List Int) : Nat → List Int
  | 0 => List.replicate net.pipes.length 0
  | k + 1 => match (netG net).chords[k]? with
    | some c => addL (fcK net zs k) (cycL net c) (ig zs k)
    | none => fcK net zs k
theorem fcK_succ {net : Net} {zs : List Int} {k c : Nat} (h : (netG net).chords[k]? = some c) : fcK net zs (k + 1) = addL (fcK net zs k) (cycL net c) (ig zs k) := by
  show (match (netG net).chords[k]? with | some c => addL (fcK net zs k) (cycL net c) (ig zs k) | none => fcK net zs k) = _
  rw [h]
theorem fcK_len (net : Net) (zs : List Int) (k : Nat) : (fcK net zs k).length = net.pipes.length := by
  induction k with
  | zero => simp [fcK]
  | succ k ih =>
    show (match (netG net).chords[k]? with | some c => addL (fcK net zs k) (cycL net c) (ig zs k) | none => fcK net zs k).length = _
    split
    · rw [addL_len]; exact ih
    · exact ih
theorem chord_mem {g : Gr} {k c : Nat} (h : g.chords[k]? = some c) : c ∈ g.chords := List.mem_of_getElem? h
theorem fcK_bnd {net : Net} {zs : List Int} (ok : NetOK net) (hz : ∀ j, -30000 ≤ ig zs j ∧ ig zs j ≤ 30000) (k j : Nat) : -(30000 * (k : Int)) ≤ ig (fcK net zs k) j ∧ ig (fcK net zs k) j ≤ 30000 * k := by
  induction k with
  | zero =>
    have : ig (fcK net zs 0) j = 0 := by
      unfold fcK ig
      rw [List.getD_eq_getElem?_getD]
      by_cases h : j < net.pipes.length
      · rw [List.getElem?_eq_getElem (by simpa using h)]; simp
      · rw [List.getElem?_eq_none (by simpa using h)]; rfl
    rw [this]; omega
  | succ k ih =>
    cases h : (netG net).chords[k]? with
    | none =>
      have e : fcK net zs (k + 1) = fcK net zs k := by
        show (match (netG net).chords[k]? with | some c => addL (fcK net zs k) (cycL net c) (ig zs k) | none => fcK net zs k) = _
        rw [h]
      rw [e]; omega
    | some c =>
      rw [fcK_succ h, addL_ig' (by rw [cycL_len, fcK_len])]
      have h1 := hz k
      rcases (cycL_cyc ok (chord_mem h)).u j with hu | hu | hu <;> rw [hu] <;> omega
theorem fcK_out {net : Net} {zs : List Int} (ok : NetOK net) (k v : Nat) : (netG net).out (ig (fcK net zs k)) v = 0 := by
  induction k with
  | zero =>
    rw [← Gr.out_nil (netG net) v]
    refine Gr.out_congr (fun i _ => ?_) v
    unfold fcK ig
    rw [List.getD_eq_getElem?_getD]
    by_cases h : i < net.pipes.length
    · rw [List.getElem?_eq_getElem (by simpa using h)]; simp
    · rw [List.getElem?_eq_none (by simpa using h)]; rfl
  | succ k ih =>
    cases h : (netG net).chords[k]? with
    | none =>
      have e : fcK net zs (k + 1) = fcK net zs k := by
        show (match (netG net).chords[k]? with | some c => addL (fcK net zs k) (cycL net c) (ig zs k) | none => fcK net zs k) = _
        rw [h]
      rw [e]; exact ih
    | some c =>
      rw [fcK_succ h, addL_out (by rw [cycL_len, fcK_len]), ih, cycL_out ok (chord_mem h)]; simp
/-- the flow through a chord -/
theorem fcK_chord {net : Net} {zs : List Int} (ok : NetOK net) {i c : Nat} (hi : (netG net).chords[i]? = some c) (k : Nat) : ig (fcK net zs k) c = if i < k then ig zs i else 0 := by
  induction k with
  | zero =>
    rw [if_neg (by omega)]
    unfold fcK ig
    rw [List.getD_eq_getElem?_getD]
    by_cases h : c < net.pipes.length
    · rw [List.getElem?_eq_getElem (by simpa using h)]; simp
    · rw [List.getElem?_eq_none (by simpa using h)]; rfl
  | succ k ih =>
    cases h : (netG net).chords[k]? with
    | none =>
      have e : fcK net zs (k + 1) = fcK net zs k := by
        show (match (netG net).chords[k]? with | some c => addL (fcK net zs k) (cycL net c) (ig zs k) | none => fcK net zs k) = _
        rw [h]
      have hik : i < k := by
        have h1 := (List.getElem?_eq_some_iff.1 hi).1
        have h2 := List.getElem?_eq_none_iff.1 h
        omega
      rw [e, ih, if_pos hik, if_pos (by omega)]
    | some c' =>
      rw [fcK_succ h, addL_ig' (by rw [cycL_len, fcK_len]), ih]
      by_cases e : c' = c
      · subst e
        have hik : i = k := by
          obtain ⟨h1, h1'⟩ := List.getElem?_eq_some_iff.1 hi
          obtain ⟨h2, h2'⟩ := List.getElem?_eq_some_iff.1 h
          exact nodup_inj (chords_nodup _) h1 h2 (by rw [h1', h2'])
        subst hik
        rw [cycL_self ok (chord_mem h), if_neg (by omega), if_pos (by omega)]; omega
      · have hik : i ≠ k := by
          rintro rfl
          rw [hi] at h
          injection h with h; exact e h.symm
        rw [cycL_other ok (chord_mem h) (chord_mem hi) (Ne.symm e)]
        by_cases h3 : i < k
        · rw [if_pos h3, if_pos (by omega)]; omega
        · rw [if_neg h3, if_neg (by omega)]; omega
def chF (net : Net) (zs : List Int) : List Int := (netG net).chords.map (ig zs)
theorem chF_len (net : Net) (zs : List Int) : (chF net zs).length = (netG net).chords.length := by unfold chF; simp
theorem chF_ig {net : Net} {zs : List Int} {k c : Nat} (h : (netG net).chords[k]? = some c) : ig (chF net zs) k = ig zs c := by
  unfold chF ig
  rw [List.getD_eq_getElem?_getD, List.getElem?_map, h]; rfl
theorem chF_bnd {net : Net} {zs : List Int} (hf : flowB net zs = true) : allB (chF net zs) (-30000) 30000 = true :=
  allB_yes (k := (netG net).chords.length) (by rw [chF_len]; omega) fun j hj => by
    rw [chF_ig (List.getElem?_eq_getElem hj)]
    exact inB_iff'.2 (flowB_all hf _)
/-- every circulation is recovered from its flows through the chords -/
theorem fcK_circ {net : Net} {zs : List Int} (ok : NetOK net) (hl : zs.length = net.pipes.length) (h : ∀ v, v < net.nodes.length → (netG net).out (ig zs) v = 0) : fcK net (chF net zs) (netG net).chords.length = zs := by
  refine ext_ig (by rw [fcK_len, hl]) fun j hj => ?_
  rw [fcK_len] at hj
  refine Gr.uniq2 ok.g (h := ig (fcK net (chF net zs) (netG net).chords.length)) (h' := ig zs) (fun i hi hn => ?_) (fun v hv _ => by rw [fcK_out ok, h v hv]) j hj
  obtain ⟨k, hk, e⟩ := List.getElem_of_mem (Gr.mem_chords.2 ⟨hi, hn⟩)
  have e' : (netG net).chords[k]? = some i := by rw [List.getElem?_eq_getElem hk, e]
  rw [fcK_chord ok e', if_pos hk, chF_ig e']
noncomputable def rFromChords (net : Net) (zs : List Int) : List Int × Int :=
  if netB net then (if zs.length = (netG net).chords.length then (if allB zs (-30000) 30000 then (if allB (fcK net zs (netG net).chords.length) (-30000) 30000 then (fcK net zs (netG net).chords.length, 0) else ([], 2)) else ([], 2)) else ([], 5)) else ([], 1)
theorem rFromChords_len (net : Net) (zs : List Int) (_h : zs.length ≤ 1048576) : (rFromChords net zs).1.length ≤ 1048576 := by
  unfold rFromChords
  cases hv : netB net
  · simp
  · have := (netB_sizes hv).2.2
    rw [if_pos rfl]
    split
    · split
      · split
        · show (fcK _ _ _).length ≤ _; rw [fcK_len]; omega
        · simp
      · simp
    · simp
def rChordFlows (net : Net) (zs : List Int) : List Int × Int := if codeF net zs = 0 then (chF net zs, 0) else ([], codeF net zs)
/-- the law FnCirculations -/
theorem circ_law {net : Net} {zs : List Int} (h : rIsCirc net zs = true) : rChordFlows net zs = (chF net zs, 0) ∧ rFromChords net (chF net zs) = (zs, 0) := by
  obtain ⟨h1, h2, h3⟩ := circ_out h
  have ok := NetOK.of h1
  have h4 : codeF net zs = 0 := by unfold codeF; rw [h1, h2]; rfl
  have h5 := fcK_circ ok (flowB_len h2) h3
  have h6 : allB zs (-30000) 30000 = true := by unfold flowB at h2; simp only [Bool.and_eq_true] at h2; exact h2.2
  refine ⟨by unfold rChordFlows; rw [if_pos h4], ?_⟩
  unfold rFromChords
  rw [h1, if_pos rfl, if_pos (chF_len _ _), chF_bnd h2, if_pos rfl, h5, h6, if_pos rfl]
/-- forest flows are 0 on all chords -/
theorem chF_forest {net : Net} (ok : NetOK net) (sup : List Int) : ∀ j, j < (netG net).chords.length → ig (chF net (ffL net sup)) j = 0 := by
  intro j hj
  rw [chF_ig (List.getElem?_eq_getElem hj)]
  have hm := Gr.mem_chords.1 (List.getElem_mem hj)
  have e : ig (ffL net sup) (netG net).chords[j] = (netG net).ffl (ig sup) (netG net).chords[j] := mapTo_ig hm.1
  rw [e]
  exact (Gr.ffl_ff ok.g).supp _ hm.1 hm.2

/-! ### the worst residual -/
def wb (L : List Int) : Nat → Nat
  | 0 => 0
  | k + 1 => if ab (ig L (wb L k)) < ab (ig L k) then k else wb L k
theorem wb_succ (L : List Int) (k : Nat) : wb L (k + 1) = if ab (ig L (wb L k)) < ab (ig L k) then k else wb L k := rfl
theorem wb_lt (L : List Int) {k : Nat} (h : 1 ≤ k) : wb L k < k := by
  induction k with
  | zero => omega
  | succ k ih =>
    rw [wb_succ]
    split
    · omega
    · by_cases h0 : k = 0
      · subst h0; simp [wb]
      · have := ih (by omega); omega
def mx (L : List Int) : Nat → Int
  | 0 => 0
  | k + 1 => if mx L k < ab (ig L k) then ab (ig L k) else mx L k
theorem mx_succ (L : List Int) (k : Nat) : mx L (k + 1) = if mx L k < ab (ig L k) then ab (ig L k) else mx L k := rfl
theorem wb_mx (L : List Int) {k : Nat} (h : 1 ≤ k) : ab (ig L (wb L k)) = mx L k := by
  induction k with
  | zero => omega
  | succ k ih =>
    rw [wb_succ, mx_succ]
    by_cases h0 : k = 0
    · subst h0
      have h2 := ab_nn (ig L 0)
      have h3 : wb L 0 = 0 := rfl
      have h4 : mx L 0 = 0 := rfl
      rw [h3, h4, if_neg (by omega)]
      split <;> omega
    · rw [← ih (by omega)]
      split
      · rfl
      · rfl
theorem mx_nn (L : List Int) (k : Nat) : 0 ≤ mx L k := by
  induction k with
  | zero => exact Int.le_refl _
  | succ k ih => rw [mx_succ]; have := ab_nn (ig L k); split <;> omega
theorem mx_le {L : List Int} {M : Int} (hM : 0 ≤ M) (h : ∀ j, ab (ig L j) ≤ M) (k : Nat) : mx L k ≤ M := by
  induction k with
  | zero => exact hM
  | succ k ih => rw [mx_succ]; have := h k; split <;> omega
noncomputable def resL (net : Net) (zs : List Int) : List Int := (netG net).chords.map fun c => res net zs (cycL net c) net.pipes.length
theorem resL_len (net : Net) (zs : List Int) : (resL net zs).length = (netG net).chords.length := by unfold resL; simp
theorem resL_ig {net : Net} {zs : List Int} {k c : Nat} (h : (netG net).chords[k]? = some c) : ig (resL net zs) k = res net zs (cycL net c) net.pipes.length := by
  unfold resL ig
  rw [List.getD_eq_getElem?_getD, List.getElem?_map, h]; rfl
theorem resL_bnd {net : Net} {zs : List Int} (hv : netB net = true) (hf : flowB net zs = true) (j : Nat) : -36000000000000 ≤ ig (resL net zs) j ∧ ig (resL net zs) j ≤ 36000000000000 := by
  cases h : (netG net).chords[j]? with
  | none =>
    rw [ig_ge (by rw [resL_len]; exact List.getElem?_eq_none_iff.1 h)]; omega
  | some c =>
    rw [resL_ig h]
    exact res_bnd hv hf (cycL_cyc (NetOK.of hv) (chord_mem h)) _ (netB_sizes hv).2.2
noncomputable def rResidualsOf (net : Net) (zs : List Int) : List Int × Int := if codeF net zs = 0 then (resL net zs, 0) else ([], codeF net zs)
theorem rResidualsOf_len (net : Net) (zs : List Int) (_h : zs.length ≤ 1048576) : (rResidualsOf net zs).1.length ≤ 1048576 := by
  unfold rResidualsOf
  by_cases h0 : codeF net zs = 0
  · rw [if_pos h0]
    have := (netB_sizes (codeF_zero h0).1).2.2
    have := chords_le net
    show (resL _ _).length ≤ _
    rw [resL_len]; omega
  · rw [if_neg h0]; simp
noncomputable def rWorstResidual (net : Net) (zs : List Int) : Int × Int := if codeF net zs = 0 then (if (netG net).chords.length = 0 then (0, 4) else (ig (nl (netG net).chords) (wb (resL net zs) (netG net).chords.length), 0)) else (0, codeF net zs)
noncomputable def rLoopError (net : Net) (zs : List Int) : Int × Int := if codeF net zs = 0 then (mx (resL net zs) (netG net).chords.length, 0) else (0, codeF net zs)
def codeC (net : Net) (zs : List Int) (x : Int) : Int := if codeF net zs = 0 then (if chdB net x then 0 else 4) else codeF net zs
theorem codeC_zero {net : Net} {zs : List Int} {x : Int} (h : codeC net zs x = 0) : netB net = true ∧ flowB net zs = true ∧ ∃ c : Nat, x = c ∧ c ∈ (netG net).chords ∧ c < net.pipes.length := by
  unfold codeC at h
  by_cases h0 : codeF net zs = 0
  · rw [if_pos h0] at h
    cases hc : chdB net x
    · rw [hc] at h; simp at h
    · exact ⟨(codeF_zero h0).1, (codeF_zero h0).2, chdB_nat hc⟩
  · rw [if_neg h0] at h; exact absurd h h0
theorem codeC_of {net : Net} {zs : List Int} {c : Nat} (h : codeF net zs = 0) (hc : c ∈ (netG net).chords) : codeC net zs c = 0 := by unfold codeC; rw [if_pos h, chdB_of hc]; rfl
noncomputable def rResidualOf (net : Net) (zs : List Int) (x : Int) : Int × Int := if codeC net zs x = 0 then (res net zs (cycL net x.toNat) net.pipes.length, 0) else (0, codeC net zs x)
noncomputable def rResidualBound (net : Net) (zs : List Int) (x : Int) : Int × Int := if codeC net zs x = 0 then (rbd net zs (cycL net x.toNat) net.pipes.length, 0) else (0, codeC net zs x)
noncomputable def rEnergyChange (net : Net) (zs : List Int) (x a : Int) : Int × Int :=
  if codeC net zs x = 0 then (if inB a (-30000) 30000 then (if okK zs (cycL net x.toNat) a net.pipes.length then (chg net zs (cycL net x.toNat) a net.pipes.length, 0) else (0, 5)) else (0, 2)) else (0, codeC net zs x)
noncomputable def rAddCycle (net : Net) (zs : List Int) (x a : Int) : List Int × Int :=
  if codeC net zs x = 0 then (if inB a (-30000) 30000 then (if allB (addL zs (cycL net x.toNat) a) (-30000) 30000 then (addL zs (cycL net x.toNat) a, 0) else ([], 2)) else ([], 2)) else ([], codeC net zs x)
theorem rAddCycle_len (net : Net) (zs : List Int) (x a : Int) (h : zs.length ≤ 1048576) : (rAddCycle net zs x a).1.length ≤ 1048576 := by
  unfold rAddCycle
  split
  · split
    · split
      · show (addL _ _ _).length ≤ _; rw [addL_len]; exact h
      · simp
    · simp
  · simp
noncomputable def rIsRelaxed (net : Net) (zs : List Int) : Bool := netB net && flowB net zs && (basL net).all fun cs => !lowB net zs cs 1 && !lowB net zs cs (-1)
theorem rIsRelaxed_iff {net : Net} {zs : List Int} : rIsRelaxed net zs = true ↔ netB net = true ∧ flowB net zs = true ∧ ∀ cs ∈ basL net, lowB net zs cs 1 = false ∧ lowB net zs cs (-1) = false := by
  unfold rIsRelaxed
  simp only [Bool.and_eq_true, List.all_eq_true, Bool.not_eq_true']
  exact ⟨fun h => ⟨h.1.1, h.1.2, h.2⟩, fun h => ⟨⟨h.1, h.2.1⟩, h.2.2⟩⟩

end Go.Proofs.Ytllblmndoigdlaa
