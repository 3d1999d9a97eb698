/- the network of the forest: the reference -/
import Derived.Test.YtioiebjgjimeiaaH8
namespace Go.Proofs.Ytioiebjgjimeiaa
open Go.RowKit

theorem pcells_app (ps qs : List Pipe) : pcells (ps ++ qs) = pcells ps ++ pcells qs := by simp [pcells]
/-- append(s, x), s a slice of pipes of the call's own -/
theorem law_appendP (w : World) {ops : Array Oper} {rest : List Oper} {o : Oper} {a : Act} {Q : Exit → Act → World → Prop}
    (hg : o.guard = none) (s x : Operand) (hop : o.op = Op.call { callee := Callee.builtin Builtin.append, args := #[s, x], argTypes := #[25, 25] })
    (A : Option Addr) (n c : Nat) (ps : List Pipe) (hs : a.eval s = .slice A n c) (hown : OwnP 64 w A n c ps)
    (g m' : Nat) (p : Pipe) (hp : p.ok) (hx : a.eval x = .slice (some ⟨g, 0, none⟩) 1 m') (hc : PipeAt w g 0 p) (hn : n ≤ 1000000)
    (hK : ∀ A' c' w', OwnP 64 w' A' (n + 1) c' (ps ++ [p]) → w.grownBy w' (A.map (·.block)) → (A'.map (·.block) = A.map (·.block) ∨ A'.map (·.block) = some w.heap.size) → wpList Try.prog ops Q rest (a.put o.dst (.slice A' (n + 1) c')) w') :
    wpList Try.prog ops Q (o :: rest) a w := by
  obtain ⟨i, hi, h1, h2, h3⟩ := info_parts info_pipe
  have hcells : ∀ j u, (pcells [p])[j]? = some u → w.cell? ((⟨g, 0, none⟩ : Addr).add j) = some u := by
    intro j u hu
    obtain ⟨c0, c1, c2, c3, c4⟩ := hc
    match j with
    | 0 => simp [pcells] at hu; subst hu; exact c0
    | 1 => simp [pcells] at hu; subst hu; exact c1
    | 2 => simp [pcells] at hu; subst hu; exact c2
    | 3 => simp [pcells] at hu; subst hu; exact c3
    | 4 => simp [pcells] at hu; subst hu; exact c4
    | j + 5 => simp [pcells] at hu
  obtain ⟨v', w', hrun, k2, k3, _, k5⟩ := run_append_own_at (P := Try.prog) w 0 25 o.type 64 i _ 5 40 Try.underlying25 hi h1 h2 h3 rfl (by omega) _ n _ hown.row ⟨g, 0, none⟩ 1 m' (pcells [p]) rfl hcells (by simp [pcells, Value.oneCell']) (by unfold maxLen; omega) (by omega) (Nat.zero_le _)
  have hv' : ∃ A' c', v' = .slice A' (n + 1) c' := by
    rcases k2.2 with ⟨h, h'⟩ | ⟨g', cap, cur, h, _⟩
    · omega
    · exact ⟨_, _, h⟩
  obtain ⟨A', c', rfl⟩ := hv'
  have hb : ∀ (X : Option Addr) (p q : Nat), (Value.slice X p q).ownBlock = X.map (·.block) := by intro X p q; cases X <;> rfl
  rw [hb] at k3
  rw [hb, hb] at k5
  refine wpList_plain hg fun K hK' => ?_
  unfold Oper.wp
  simp only [execOp, hop, resolve, invoke, builtin, Sem.run_bind, Sem.run_pure, Result.andThen_ok, List.map_toArray, List.map_cons, List.map_nil, hs, hx, hrun]
  refine hK' _ _ (hK A' c' w' ⟨by rw [pcells_app]; exact k2, fun y hy => ?_⟩ k3 k5)
  rcases List.mem_append.1 hy with hy | hy
  · exact hown.ok y hy
  · rw [List.mem_singleton.1 hy]; exact hp
theorem ownP_lit0 (w : World) : OwnP 64 (w.alloc (.cells #[] 64)) (some ⟨w.heap.size, 0, none⟩) 0 0 [] :=
  ⟨⟨by simp [pcells], .inr ⟨w.heap.size, 0, #[], rfl, Nat.zero_le _, heap_alloc_new w _, Nat.le_refl _, Nat.zero_le _, rfl, rfl⟩⟩, by simp⟩

/-- the network with the pipes of the forest alone -/
def treeK (net : Net) (k : Nat) : List Pipe := ((netG net).forest.take k).map (pp net.pipes)
def treeN (net : Net) : Net := ⟨net.nodes, (netG net).forest.map (pp net.pipes)⟩
theorem treeK_end (net : Net) {k : Nat} (h : (netG net).forest.length ≤ k) : treeK net k = (treeN net).pipes := by unfold treeK treeN; rw [List.take_of_length_le h]
theorem treeK_succ {net : Net} {k q : Nat} (h : (netG net).forest[k]? = some q) : treeK net (k + 1) = treeK net k ++ [pp net.pipes q] := by
  unfold treeK; rw [List.take_add_one, h]; simp
theorem treeK_len {net : Net} {k : Nat} (h : k ≤ (netG net).forest.length) : (treeK net k).length = k := by unfold treeK; simp; omega
theorem treeN_pp (net : Net) (k : Nat) : pp (treeN net).pipes k = pp net.pipes ((netG net).idx k) := by
  show pp ((netG net).forest.map (pp net.pipes)) k = _
  unfold Gr.idx
  rcases Nat.lt_or_ge k (netG net).forest.length with hk | hk
  · rw [pp_lt (by simpa using hk), List.getElem_map, List.getD_eq_getElem?_getD, List.getElem?_eq_getElem hk]; rfl
  · rw [List.getD_eq_getElem?_getD, List.getElem?_eq_none hk]
    show ((netG net).forest.map (pp net.pipes)).getD k pipe0 = net.pipes.getD net.pipes.length pipe0
    rw [List.getD_eq_getElem?_getD, List.getElem?_eq_none (by simpa using hk), List.getD_eq_getElem?_getD, List.getElem?_eq_none (Nat.le_refl _)]
theorem treeN_g (net : Net) : netG (treeN net) = (netG net).tree := by
  unfold netG Gr.tree
  simp only [treeN_pp]
  congr 1
  show ((netG net).forest.map (pp net.pipes)).length = _
  simp; rfl
theorem treeN_ok {net : Net} (ok : NetOK net) : NetOK (treeN net) := by
  have hlen : (treeN net).pipes.length = (netG net).forest.length := by show (List.map _ _).length = _; simp
  refine ⟨ok.n1, ok.n24, ?_, fun j hj => ?_⟩
  · rw [hlen]
    have h1 := Gr.forK_len (netG net) (netG net).m
    have h2 : (netG net).m = net.pipes.length := rfl
    have h3 := ok.m40
    unfold Gr.forest; omega
  · rw [treeN_pp]
    rw [hlen] at hj
    exact ok.pipe _ (Gr.idx_mem hj).1

/-- a row of one pipe -/
def isPRow (p : Pipe) : VP := fun v w => ∃ b, v = .slice (some ⟨b, 0, none⟩) 1 1 ∧ PipeAt w b 0 p ∧ b < w.heap.size
theorem stb_prow {p : Pipe} : Stb Grw (isPRow p) := by
  rintro v w w' h ⟨b, rfl, hp, hb⟩
  have := h.size
  exact ⟨b, rfl, hp.keep (h.block b hb), by omega⟩
theorem pipeAt_new (w : World) (p : Pipe) (T : TypeId) : PipeAt (w.alloc (.cells #[.int .i64 p.fr, .int .i64 p.to, .int .i64 p.k, .int .i64 p.vol, .int .i64 p.lim] T)) w.heap.size 0 p := by
  have g := heap_alloc_new w (.cells #[.int .i64 p.fr, .int .i64 p.to, .int .i64 p.k, .int .i64 p.vol, .int .i64 p.lim] T)
  exact ⟨by rw [cell_blk g]; rfl, by rw [cell_blk g]; rfl, by rw [cell_blk g]; rfl, by rw [cell_blk g]; rfl, by rw [cell_blk g]; rfl⟩

set_option maxRecDepth 100000 in
set_option maxHeartbeats 4000000 in
theorem l05Tree_any (A : Option Addr) (n c : Nat) (B : Option Addr) (m d : Nat) (net : Net) (w : World) (h : NetAt w A n c B m d net) (ok : NetOK net) :
    Calls Try.prog 165 #[.agg #[.slice A n c, .slice B m d]] w fun e w' => ∃ Ap cp Af cf, e = .returned (.tuple #[.agg #[.slice A n c, .slice Ap (netG net).forest.length cp], .slice Af (netG net).forest.length cf]) ∧ OwnP 64 w' Ap (netG net).forest.length cp (treeN net).pipes ∧ Own w' Af (netG net).forest.length cf (nl (netG net).forest) ∧ Fresh w.heap.size Ap ∧ Fresh w.heap.size Af ∧ Below w.heap.size w w' := by
  have hm40 : m ≤ 40 := by have := ok.m40; have := h.pipes.len; omega
  have HMm : Hid ((netG net).m = m) := Lib.hid h.pipes.len
  have hpl := h.pipes.len
  have hple := h.pipes.le
  have hpcap := h.pipes.cap
  have HPO := Lib.hid h.pipes.ok
  have HB := Lib.hid (bel2 w (.cells #[.slice A n c, .slice B m d] 27) (.cells #[.slice none 0 0, .slice none 0 0] 27))
  obtain ⟨W, hW⟩ : ∃ W, W = ((w.alloc (.cells #[.slice A n c, .slice B m d] 27)).alloc (.cells #[.slice none 0 0, .slice none 0 0] 27)) := ⟨_, rfl⟩
  have hWs : W.heap.size = w.heap.size + 2 := by rw [hW]; simp
  have bxW : BX W w.heap.size A n c B m d := ⟨by rw [hW]; exact (Below.heap_alloc _ _ _ (by simp)).trans (heap_alloc_new w _)⟩
  have box2 : W.heap[w.heap.size + 1]? = some (.cells #[.slice none 0 0, .slice none 0 0] 27 (0, 0)) := by
    rw [hW, ← size_alloc1 w (.cells #[.slice A n c, .slice B m d] 27)]; exact heap_alloc_new _ _
  go_enter Try.func165, Try.ntmps165
  go_wp2_with fail
  rw [← hW] at HB ⊢
  clear hW
  refine (l04Forest_any _ _ _ _ _ _ net _ (h.later HB.out) ok).mono ?_
  rintro e w1 ⟨Af, cf, rfl, of, ff, b1⟩
  obtain ⟨M, hMl⟩ : ∃ M, (netG net).forest.length = M := ⟨_, rfl⟩
  have hM40 : M ≤ 40 := by have := Gr.forK_len (netG net) (netG net).m; unfold Gr.forest at hMl; have := HMm.out; omega
  rw [hMl] at of ⊢
  have HML := Lib.hid hMl
  clear hMl
  have o0 := ownP_lit0 w1
  go_wp2_with fail
  go_loopw [5, 6] (fun o i wr => ∃ (k : Nat) (Ap : Option Addr) (cp : Nat), k ≤ M ∧ o = .slice Ap k cp ∧ i = .int .i64 k ∧ OwnP 64 wr Ap k cp (treeK net k) ∧ Fresh w1.heap.size Ap ∧ Below w1.heap.size w1 wr) (fun _ i _ => M - (intOf i).toNat)
  case atStart => exact ⟨0, some ⟨w1.heap.size, 0, none⟩, 0, by omega, rfl, rfl, o0, (fun a ha => by injection ha with ha; subst ha; exact Nat.le_refl _), bel1 _ _⟩
  case round =>
    obtain ⟨k, Ap, cp, hk, rfl, rfl, op, fp, hb⟩ := hrel
    clear o0
    by_cases hlt : k < M
    · have hlt' : k < (netG net).forest.length := by rw [HML.out]; exact hlt
      obtain ⟨q, hq⟩ : ∃ q, (netG net).forest[k]? = some q := ⟨_, List.getElem?_eq_getElem hlt'⟩
      have hqm : q < m := by
        have := (Gr.mem_forest.1 (List.mem_of_getElem? hq)).1
        rw [HMm.out] at this; exact this
      have HK := Lib.hid (treeK_succ hq)
      have hbW := below_step b1 hb
      have ofr := of.later hb
      obtain ⟨gf, rfl, hgf⟩ := ofr.pos (by omega)
      have cq := ofr.cell hlt
      rw [nl_ig hlt', show (netG net).forest[k] = q from (List.getElem?_eq_some_iff.1 hq).2] at cq
      have hbw := below_step HB.out hbW
      obtain ⟨bp, offp, rfl, hblp, hcp⟩ := (h.pipes.later hbw).cells (by omega)
      obtain ⟨c0, c1, c2, c3, c4⟩ := hcp q hqm
      have x0 := (bxW.step hbW).c1
      have hpk := pp_ok HPO.out q
      clear hcp hq
      go_wp2_with fail
      apply wp_region_track [16, 17, 18, 19, 20, 21, 22, 23, 24, 25] [eqv _, eqv _, eqv _, eqv _, eqv _, eqv _, eqv _, eqv _, eqv _, isPRow (pp net.pipes q)]
        (fun w' => Below wr.heap.size wr w') Grw (by kernel_rfl) (by kernel_rfl) rfl (by kernel_rfl)
      case hs =>
        refine ⟨?_, ?_, ?_, ?_, ?_, ?_, ?_, ?_, ?_, ?_, trivial⟩
        · intro ev wt ht hc hg hf hI hd
          have e5 : ev (.tmp 5) = .slice Ap k cp := ht 5 (by decide)
          exact opok_move _ rfl ⟨hI, Below.refl _ _, e5⟩
        · intro ev wt ht hc hg hf hI hd
          have e1 : ev (.tmp 1) = .pointer (some ⟨w.heap.size, 0, none⟩) := ht 1 (by decide)
          refine opok_gen fun N hN => ?_
          clear hd ht
          go_simp
          exact hN.out _ _ ⟨hI, Below.refl _ _, rfl⟩
        · intro ev wt ht hc hg hf hI hd
          have e17 : ev (.tmp 17) = _ := hd 1 17 rfl rfl
          have y0 := ((bxW.step hbW).step hI).c1
          have y1 := (hI.cell (p := ⟨gf, k, none⟩) hgf).trans cq
          have y2 := PipeAt.keep ⟨c0, c1, c2, c3, c4⟩ (hI.block bp hblp)
          obtain ⟨z0, z1, z2, z3, z4⟩ := y2
          refine opok_gen fun N hN => ?_
          clear hd ht
          go_simp
          exact hN.out _ _ ⟨hI, Below.refl _ _, rfl⟩
        · intro ev wt ht hc hg hf hI hd
          have e4 : ev (.tmp 4) = .slice (some ⟨gf, 0, none⟩) M cf := ht 4 (by decide)
          exact opok_move _ rfl ⟨hI, Below.refl _ _, e4⟩
        · intro ev wt ht hc hg hf hI hd
          have e6 : ev (.tmp 6) = .int .i64 k := ht 6 (by decide)
          exact opok_move _ rfl ⟨hI, Below.refl _ _, e6⟩
        · intro ev wt ht hc hg hf hI hd
          have e19 : ev (.tmp 19) = _ := hd 3 19 rfl rfl
          have e20 : ev (.tmp 20) = _ := hd 4 20 rfl rfl
          refine opok_gen fun N hN => ?_
          clear hd ht
          go_simp
          exact hN.out _ _ ⟨hI, Below.refl _ _, rfl⟩
        · intro ev wt ht hc hg hf hI hd
          have e21 : ev (.tmp 21) = _ := hd 5 21 rfl rfl
          have y0 := ((bxW.step hbW).step hI).c1
          have y1 := (hI.cell (p := ⟨gf, k, none⟩) hgf).trans cq
          have y2 := PipeAt.keep ⟨c0, c1, c2, c3, c4⟩ (hI.block bp hblp)
          obtain ⟨z0, z1, z2, z3, z4⟩ := y2
          refine opok_gen fun N hN => ?_
          clear hd ht
          go_simp
          exact hN.out _ _ ⟨hI, Below.refl _ _, rfl⟩
        · intro ev wt ht hc hg hf hI hd
          have e18 : ev (.tmp 18) = _ := hd 2 18 rfl rfl
          have e22 : ev (.tmp 22) = _ := hd 6 22 rfl rfl
          refine opok_gen fun N hN => ?_
          clear hd ht
          go_simp
          exact hN.out _ _ ⟨hI, Below.refl _ _, rfl⟩
        · intro ev wt ht hc hg hf hI hd
          have e23 : ev (.tmp 23) = _ := hd 7 23 rfl rfl
          have y0 := ((bxW.step hbW).step hI).c1
          have y1 := (hI.cell (p := ⟨gf, k, none⟩) hgf).trans cq
          have y2 := PipeAt.keep ⟨c0, c1, c2, c3, c4⟩ (hI.block bp hblp)
          obtain ⟨z0, z1, z2, z3, z4⟩ := y2
          refine opok_gen fun N hN => ?_
          clear hd ht
          go_simp
          exact hN.out _ _ ⟨hI, Below.refl _ _, rfl⟩
        · intro ev wt ht hc hg hf hI hd
          have e24 : ev (.tmp 24) = _ := hd 8 24 rfl rfl
          refine opok_gen fun N hN => ?_
          clear hd ht
          go_simp
          exact hN.out _ _ ⟨below_step hI (bel1 _ _), bel1 _ _, ⟨_, rfl, pipeAt_new _ _ _, by simp⟩⟩
      case hst =>
        refine fun j v w w' _ h1 h2 => StbL.nth (S := Grw) ?_ j v w w' h1 h2
        exact ⟨stb_eqv _, stb_eqv _, stb_eqv _, stb_eqv _, stb_eqv _, stb_eqv _, stb_eqv _, stb_eqv _, stb_eqv _, stb_prow, trivial⟩
      case hI => exact (Below.refl _ _).drew
      case hl =>
        rintro wt hI _ rfl _ rfl _ rfl _ rfl _ rfl _ rfl _ rfl _ rfl _ rfl _ ⟨bq, rfl, hbq, hbl⟩
        simp only [Lasts, List.length_cons, List.length_nil, Nat.reduceAdd, List.drop_succ_cons, List.drop_zero, Act.put, List.setIfInBounds_toArray, List.set_cons_succ, List.set_cons_zero]
        have opt := op.later hI
        have hbt := below_step hb hI
        go_wp2_with (at_builtin; refine law_appendP _ rfl _ _ rfl Ap _ cp _ rfl opt _ _ _ hpk rfl hbq (by omega) ?_; intro A3 c3 w3 ho3 hg3 hb3)
        go_roundw
        case rel => exact ⟨k + 1, A3, c3, by omega, rfl, by go_num, by rw [HK.out]; exact ho3, fresh_app' fp hbt.size hb3, below_app hbt fp hg3⟩
        case measure => simp [intOf]; omega
    · have hkM : M = k := by omega
      subst hkM
      have hbW := below_step b1 hb
      have x0 := (bxW.step hbW).c0
      have h4 := (hbW.block (w.heap.size + 1) (by omega)).trans box2
      have u0 := frozen_blk h4 0
      have u1 := frozen_blk h4 1
      have j0 : wr.cell? ⟨w.heap.size + 1, 0, none⟩ = some (.slice none 0 0) := by rw [cell_blk h4]; rfl
      have j1 : wr.cell? ⟨w.heap.size + 1, 1, none⟩ = some (.slice none 0 0) := by rw [cell_blk h4]; rfl
      rw [treeK_end net (by rw [HML.out]; omega)] at op
      have b1s := b1.size
      go_wp2_with fail
      have h5 := heap_set (heap_set h4 0 (.slice A n c)) 1 (.slice Ap M cp)
      have r0 := cell_blk h5 0
      have r1 := cell_blk h5 1
      have hne : ∀ (X : Option Addr), Fresh W.heap.size X → ∀ a : Addr, X = some a → a.block ≠ w.heap.size + 1 := fun X hX a ha => by have := hX a ha; omega
      have hbw := below_step HB.out hbW
      rw [HML.out]
      refine bodyPost_ret (v := .tuple #[.agg #[.slice A n c, .slice Ap M cp], .slice Af M cf]) (by simp at r0 r1; simp [results, Try.results165, go_sem, r0, r1]) rfl ⟨Ap, cp, Af, cf, rfl, ?_, ?_, fresh_up fp (by omega), fresh_up ff (by omega), ?_⟩
      · exact (op.keep fun a ha => (Below.heap_setCell _ _ _ _ (hne Ap (fresh_up fp b1s) a ha)).trans (Below.heap_setCell _ _ _ _ (hne Ap (fresh_up fp b1s) a ha)))
      · exact ((of.later hb).far (hne Af ff) _).far (hne Af ff) _
      · exact (hbw.setCell (by show w.heap.size ≤ w.heap.size + 1; omega) _).setCell (by show w.heap.size ≤ w.heap.size + 1; omega) _

end Go.Proofs.Ytioiebjgjimeiaa
