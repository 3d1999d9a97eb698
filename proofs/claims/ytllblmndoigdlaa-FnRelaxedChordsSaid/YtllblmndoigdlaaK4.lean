/- draws: chords, loops -/
import Derived.Test.YtllblmndoigdlaaK2
import Derived.Test.YtllblmndoigdlaaW
namespace Go.Proofs.Ytllblmndoigdlaa
open Go.RowKit

set_option maxRecDepth 100000 in
set_option maxHeartbeats 1000000 in
theorem specChordsOf_any (A : Option Addr) (n c : Nat) (B : Option Addr) (m d : Nat) (net : Net) (w : World) (h : NetAt w A n c B m d net) :
    Calls Try.prog 99 #[.agg #[.slice A n c, .slice B m d]] w fun e w' => ∃ Af L cf zs code, e = .returned (.tuple #[.slice Af L cf, .int .i64 code]) ∧ Own w' Af L cf zs ∧ Fresh w.heap.size Af ∧ L ≤ 40 ∧ Below w.heap.size w w' := by
  have HB := Lib.hid (bel1 w (.cells #[.slice A n c, .slice B m d] 27))
  obtain ⟨W, hW⟩ : ∃ W, W = (w.alloc (.cells #[.slice A n c, .slice B m d] 27)) := ⟨_, rfl⟩
  have bxW : BX W w.heap.size A n c B m d := ⟨by rw [hW]; exact heap_alloc_new w _⟩
  go_enter Try.func99, Try.ntmps99
  go_wp2_with fail
  rw [← hW] at HB ⊢
  clear hW
  refine (specIsNetwork_any _ _ _ _ _ _ net _ (h.later HB.out)).mono ?_
  rintro e w1 ⟨rfl, b1⟩
  have t1 := below_step HB.out b1
  have x0 := (bxW.step b1).c0
  have x1 := (bxW.step b1).c1
  cases hv : netB net
  · go_wp2_with fail
    go_ret2
    exact ⟨none, 0, 0, [], 1, rfl, Own.nil, (by intro a ha; cases ha), by omega, t1⟩
  · have ok := NetOK.of hv
    go_wp2_with fail
    refine (l05Chords_any _ _ _ _ _ _ net _ (h.later t1) ok).mono ?_
    rintro e w2 ⟨Af, cf, rfl, of, ff, b2⟩
    have hL : (netG net).chords.length ≤ 40 := by
      have h1 := Gr.choK_len (netG net) (netG net).m
      have h2 : (netG net).m = net.pipes.length := rfl
      have h3 := ok.m40
      unfold Gr.chords; omega
    have t2 := below_step t1 b2
    go_wp2_with fail
    go_ret2
    exact ⟨Af, _, cf, _, 0, rfl, of, fun a ha => by have := ff a ha; have := t1.size; omega, hL, t2⟩

/-- append(s, x...), slices of pipes of the call's own -/
theorem law_appendPs (w : World) {ops : Array Oper} {rest : List Oper} {o : Oper} {a : Act} {Q : Exit → Act → World → Prop}
    (hg : o.guard = none) (s x : Operand) (hop : o.op = Op.call { callee := Callee.builtin Builtin.append, args := #[s, x], argTypes := #[25, 25] })
    (A : Option Addr) (n c : Nat) (zs : List Pipe) (hs : a.eval s = .slice A n c) (hown : OwnP 76 w A n c zs) (hA : A ≠ none)
    (p : Nat) (m m' : Nat) (xs : List Pipe) (hx : a.eval x = .slice (some ⟨p, 0, none⟩) m m') (hxs : OwnP 76 w (some ⟨p, 0, none⟩) m m' xs) (hn : n + m ≤ 1000000)
    (hK : ∀ A' c' w', A' ≠ none → OwnP 76 w' A' (n + m) c' (zs ++ xs) → (A'.map (·.block) = A.map (·.block) ∨ A'.map (·.block) = some w.heap.size) → w.grownBy w' (A.map (·.block)) → wpList Try.prog ops Q rest (a.put o.dst (.slice A' (n + m) c')) w') :
    wpList Try.prog ops Q (o :: rest) a w := by
  obtain ⟨i, hi, h1, h2, h3⟩ := info_parts info_pipe
  have hcells : ∀ j u, (pcells xs)[j]? = some u → w.cell? ((⟨p, 0, none⟩ : Addr).add j) = some u := by
    intro j u hu
    have hjl := (List.getElem?_eq_some_iff.1 hu).1
    rw [pcells_len, hxs.len] at hjl
    have := hxs.row.cellAt j (by omega)
    rw [hu] at this
    unfold Addr.add
    split
    · rename_i h0; rw [h0] at this; exact this
    · simpa using this
  obtain ⟨v', w', hrun, k2, k3, _, k5⟩ := run_append_own_at (P := Try.prog) w 0 25 o.type 76 i _ 5 40 Try.underlying25 hi h1 h2 h3 rfl (by omega) _ n _ hown.row ⟨p, 0, none⟩ m m' (pcells xs) (by rw [pcells_len, hxs.len]) hcells (by
    intro u hu
    obtain ⟨z, _, hz⟩ := List.mem_flatMap.1 hu
    simp at hz
    rcases hz with rfl | rfl | rfl | rfl | rfl <;> rfl) (by unfold maxLen; omega) (by omega) (Nat.zero_le _)
  have hb : ∀ (X : Option Addr) (p q : Nat), (Value.slice X p q).ownBlock = X.map (·.block) := by intro X p q; cases X <;> rfl
  rw [hb] at k3
  have hr : ∀ y ∈ zs ++ xs, y.ok := fun y hy => by
    rcases List.mem_append.1 hy with hy | hy
    · exact hown.ok y hy
    · exact hxs.ok y hy
  have hv' : ∃ A' c', A' ≠ none ∧ v' = .slice A' (n + m) c' ∧ OwnP 76 w' A' (n + m) c' (zs ++ xs) ∧ (A'.map (·.block) = A.map (·.block) ∨ A'.map (·.block) = some w.heap.size) := by
    rcases k2.2 with ⟨h, h'⟩ | ⟨g', cap, cur, h, rest⟩
    · subst h
      rw [hb, hb] at k5
      rcases k5 with k5 | k5
      · cases A with
        | none => exact absurd rfl hA
        | some x => cases k5
      · cases k5
    · subst h
      rw [hb, hb] at k5
      exact ⟨_, _, by simp, rfl, ⟨by rw [pcells_app]; exact k2, hr⟩, k5⟩
  obtain ⟨A', c', hA', rfl, ho', hb'⟩ := hv'
  refine wpList_plain hg fun K hK' => ?_
  unfold Oper.wp
  simp only [execOp, hop, resolve, invoke, builtin, Sem.run_bind, Sem.run_pure, Result.andThen_ok, List.map_toArray, List.map_cons, List.map_nil, hs, hx, hrun]
  exact hK' _ _ (hK A' c' w' hA' ho' hb' k3)

end Go.Proofs.Ytllblmndoigdlaa

/- draws: networks that need not be valid -/
namespace Go.Proofs.Ytllblmndoigdlaa
open Go.RowKit

/-! ### one field of a node or a pipe -/
theorem ncells_name (ns : List Node) (j : Nat) (s : ByteArray) : (ncells ns).set (j * 3) (.string s) = ncells (ns.set j { nd ns j with name := s }) := by
  induction ns generalizing j with
  | nil => simp [ncells]
  | cons x ns ih =>
    cases j with
    | zero => simp [ncells_cons, nd]
    | succ j =>
      have e : (j + 1) * 3 = j * 3 + 1 + 1 + 1 := by omega
      rw [e, ncells_cons, List.set_cons_succ, List.set_cons_succ, List.set_cons_succ, ih, List.set_cons_succ, ncells_cons]; rfl
theorem ncells_high (ns : List Node) (j : Nat) (z : Int) : (ncells ns).set (j * 3 + 2) (.int .i64 z) = ncells (ns.set j { nd ns j with high := z }) := by
  induction ns generalizing j with
  | nil => simp [ncells]
  | cons x ns ih =>
    cases j with
    | zero => simp [ncells_cons, nd]
    | succ j =>
      have e : (j + 1) * 3 + 2 = j * 3 + 2 + 1 + 1 + 1 := by omega
      rw [e, ncells_cons, List.set_cons_succ, List.set_cons_succ, List.set_cons_succ, ih, List.set_cons_succ, ncells_cons]; rfl
theorem pcells_k (ns : List Pipe) (j : Nat) (z : Int) : (pcells ns).set (j * 5 + 2) (.int .i64 z) = pcells (ns.set j { pp ns j with k := z }) := by
  induction ns generalizing j with
  | nil => simp [pcells]
  | cons x ns ih =>
    cases j with
    | zero => simp [pcells_cons, pp]
    | succ j =>
      have e : (j + 1) * 5 + 2 = j * 5 + 2 + 1 + 1 + 1 + 1 + 1 := by omega
      rw [e, pcells_cons, List.set_cons_succ, List.set_cons_succ, List.set_cons_succ, List.set_cons_succ, List.set_cons_succ, ih, List.set_cons_succ, pcells_cons]; rfl
theorem pcells_lim (ns : List Pipe) (j : Nat) (z : Int) : (pcells ns).set (j * 5 + 4) (.int .i64 z) = pcells (ns.set j { pp ns j with lim := z }) := by
  induction ns generalizing j with
  | nil => simp [pcells]
  | cons x ns ih =>
    cases j with
    | zero => simp [pcells_cons, pp]
    | succ j =>
      have e : (j + 1) * 5 + 4 = j * 5 + 4 + 1 + 1 + 1 + 1 + 1 := by omega
      rw [e, pcells_cons, List.set_cons_succ, List.set_cons_succ, List.set_cons_succ, List.set_cons_succ, List.set_cons_succ, ih, List.set_cons_succ, pcells_cons]; rfl
theorem OwnN.putName {T : TypeId} {w : World} {g n c : Nat} {ns : List Node} (h : OwnN T w (some ⟨g, 0, none⟩) n c ns) (j : Nat) {s : ByteArray} (hs : s.size ≤ 9223372036854775807) : OwnN T (w.setCell ⟨g, j * 3, none⟩ (.string s)) (some ⟨g, 0, none⟩) n c (ns.set j { nd ns j with name := s }) := by
  refine ⟨by rw [← ncells_name]; exact (h.row.stored _ _).1, fun x hx => ?_⟩
  rcases List.mem_or_eq_of_mem_set hx with hx | rfl
  · exact h.ok x hx
  · have := nd_ok h.ok j
    exact ⟨this.1, this.2.1, hs⟩
theorem OwnN.putHigh {T : TypeId} {w : World} {g n c : Nat} {ns : List Node} (h : OwnN T w (some ⟨g, 0, none⟩) n c ns) (j : Nat) {z : Int} (hz : I64 z) : OwnN T (w.setCell ⟨g, j * 3 + 2, none⟩ (.int .i64 z)) (some ⟨g, 0, none⟩) n c (ns.set j { nd ns j with high := z }) := by
  refine ⟨by rw [← ncells_high]; exact (h.row.stored _ _).1, fun x hx => ?_⟩
  rcases List.mem_or_eq_of_mem_set hx with hx | rfl
  · exact h.ok x hx
  · have := nd_ok h.ok j
    exact ⟨this.1, hz, this.2.2⟩
theorem OwnP.putK {T : TypeId} {w : World} {g n c : Nat} {ns : List Pipe} (h : OwnP T w (some ⟨g, 0, none⟩) n c ns) (j : Nat) {z : Int} (hz : I64 z) : OwnP T (w.setCell ⟨g, j * 5 + 2, none⟩ (.int .i64 z)) (some ⟨g, 0, none⟩) n c (ns.set j { pp ns j with k := z }) := by
  refine ⟨by rw [← pcells_k]; exact (h.row.stored _ _).1, fun x hx => ?_⟩
  rcases List.mem_or_eq_of_mem_set hx with hx | rfl
  · exact h.ok x hx
  · have := pp_ok h.ok j
    exact ⟨this.1, this.2.1, hz, this.2.2.2⟩
theorem OwnP.putLim {T : TypeId} {w : World} {g n c : Nat} {ns : List Pipe} (h : OwnP T w (some ⟨g, 0, none⟩) n c ns) (j : Nat) {z : Int} (hz : I64 z) : OwnP T (w.setCell ⟨g, j * 5 + 4, none⟩ (.int .i64 z)) (some ⟨g, 0, none⟩) n c (ns.set j { pp ns j with lim := z }) := by
  refine ⟨by rw [← pcells_lim]; exact (h.row.stored _ _).1, fun x hx => ?_⟩
  rcases List.mem_or_eq_of_mem_set hx with hx | rfl
  · exact h.ok x hx
  · have := pp_ok h.ok j
    exact ⟨this.1, this.2.1, this.2.2.1, this.2.2.2.1, hz⟩
theorem OwnN.keepOther {T : TypeId} {w : World} {A : Option Addr} {n c : Nat} {ns : List Node} (h : OwnN T w A n c ns) {p : Addr} (hp : ∀ a, A = some a → a.block ≠ p.block) (u : Value) : OwnN T (w.setCell p u) A n c ns := h.keep fun a ha => Below.heap_setCell w p u _ (hp a ha)
theorem OwnP.keepOther {T : TypeId} {w : World} {A : Option Addr} {n c : Nat} {ns : List Pipe} (h : OwnP T w A n c ns) {p : Addr} (hp : ∀ a, A = some a → a.block ≠ p.block) (u : Value) : OwnP T (w.setCell p u) A n c ns := h.keep fun a ha => Below.heap_setCell w p u _ (hp a ha)

/-! ### what lies while a network is drawn and spoilt -/
structure DA (w : World) (g : Nat) (A : Option Addr) (n c : Nat) (bs : List Int) (b2 b3 : Nat) (An : Option Addr) (k cn : Nat) (Ap : Option Addr) (m cp : Nat) (ns : List Node) (ps : List Pipe) (W : World) : Prop where
  on : OwnN 92 W An k cn ns
  op : OwnP 76 W Ap m cp ps
  xb : W.heap[b3]? = some (.cells #[.slice An k cn, .slice Ap m cp] 27 (0, 0))
  x2 : W.heap[b2]? = some (.cells #[.slice none 0 0, .slice none 0 0] 27 (0, 0))
  ne : ∀ a b, An = some a → Ap = some b → a.block ≠ b.block
  n3 : ∀ a, An = some a → a.block ≠ b3 ∧ b2 < a.block
  p3 : ∀ a, Ap = some a → a.block ≠ b3 ∧ b2 < a.block
  np : Ap ≠ none
  src : Src W g A n c bs
  gr : w.grownBy W (some g)
  hg : g < w.heap.size
  hA : 0 < n → ∀ a, A = some a → a.block < w.heap.size
  h2 : w.heap.size = b2
  h3 : b2 < b3

section
variable {w W W' : World} {g : Nat} {A : Option Addr} {n c : Nat} {bs : List Int} {b2 b3 : Nat} {An : Option Addr} {k cn : Nat} {Ap : Option Addr} {m cp : Nat} {ns : List Node} {ps : List Pipe}
theorem DA.lt (h : DA w g A n c bs b2 b3 An k cn Ap m cp ns ps W) : b3 < W.heap.size := (Array.getElem?_eq_some_iff.1 h.xb).1
theorem DA.next (h : DA w g A n c bs b2 b3 An k cn Ap m cp ns ps W) (hg : W.grownBy W' (some g)) (hs : Src W' g A n c bs) : DA w g A n c bs b2 b3 An k cn Ap m cp ns ps W' := by
  have hl := h.lt
  have e1 := h.hg; have e2 := h.h2; have e3 := h.h3
  refine ⟨h.on.keep fun a ha => hg.block _ (h.on.lt a ha) (fun e => ?_), h.op.keep fun a ha => hg.block _ (h.op.lt a ha) (fun e => ?_), (hg.block _ hl (fun e => ?_)).trans h.xb, (hg.block _ (by omega) (fun e => ?_)).trans h.x2, h.ne, h.n3, h.p3, h.np, hs, only_trans h.gr hg, h.hg, h.hA, h.h2, h.h3⟩
  · injection e with e; have := h.n3 a ha; omega
  · injection e with e; have := h.p3 a ha; omega
  · injection e with e; omega
  · injection e with e; omega
theorem DA.later (h : DA w g A n c bs b2 b3 An k cn Ap m cp ns ps W) (hb : Below W.heap.size W W') : DA w g A n c bs b2 b3 An k cn Ap m cp ns ps W' := h.next (only_below hb) (h.src.keep hb)
/-- a store into a block of the call's own leaves the source -/
theorem DA.srcPut (h : DA w g A n c bs b2 b3 An k cn Ap m cp ns ps W) {b : Nat} (hb : b2 ≤ b) (i : Nat) (u : Value) : Src (W.setCell ⟨b, i, none⟩ u) g A n c bs ∧ w.grownBy (W.setCell ⟨b, i, none⟩ u) (some g) := by
  have e1 := h.hg; have e2 := h.h2
  exact ⟨h.src.put (by omega) (fun hn a ha => by have := h.hA hn a ha; omega) i u, only_put h.gr (by omega) i u⟩
theorem DA.putN {gn j : Nat} {u : Value} {ns' : List Node} (h : DA w g A n c bs b2 b3 (some ⟨gn, 0, none⟩) k cn Ap m cp ns ps W) (ho : OwnN 92 (W.setCell ⟨gn, j, none⟩ u) (some ⟨gn, 0, none⟩) k cn ns') : DA w g A n c bs b2 b3 (some ⟨gn, 0, none⟩) k cn Ap m cp ns' ps (W.setCell ⟨gn, j, none⟩ u) := by
  have hn := h.n3 _ rfl
  simp only at hn
  have hs := h.srcPut (b := gn) (by omega) j u
  exact ⟨ho, h.op.keepOther (p := ⟨gn, j, none⟩) (fun a ha => show a.block ≠ gn from Ne.symm (h.ne ⟨gn, 0, none⟩ a rfl ha)) _, (Below.heap_setCell W _ _ _ (Ne.symm hn.1)).trans h.xb, (Below.heap_setCell W _ _ _ (by show b2 ≠ gn; omega)).trans h.x2, h.ne, h.n3, h.p3, h.np, hs.1, hs.2, h.hg, h.hA, h.h2, h.h3⟩
theorem DA.putP {gn j : Nat} {u : Value} {ps' : List Pipe} (h : DA w g A n c bs b2 b3 An k cn (some ⟨gn, 0, none⟩) m cp ns ps W) (ho : OwnP 76 (W.setCell ⟨gn, j, none⟩ u) (some ⟨gn, 0, none⟩) m cp ps') : DA w g A n c bs b2 b3 An k cn (some ⟨gn, 0, none⟩) m cp ns ps' (W.setCell ⟨gn, j, none⟩ u) := by
  have hn := h.p3 _ rfl
  simp only at hn
  have hs := h.srcPut (b := gn) (by omega) j u
  exact ⟨h.on.keepOther (p := ⟨gn, j, none⟩) (fun a ha => show a.block ≠ gn from h.ne a ⟨gn, 0, none⟩ ha rfl) _, ho, (Below.heap_setCell W _ _ _ (Ne.symm hn.1)).trans h.xb, (Below.heap_setCell W _ _ _ (by show b2 ≠ gn; omega)).trans h.x2, h.ne, h.n3, h.p3, h.np, hs.1, hs.2, h.hg, h.hA, h.h2, h.h3⟩
/-- append to the pipes, stored -/
theorem DA.app (h : DA w g A n c bs b2 b3 An k cn Ap m cp ns ps W) {A3 : Option Addr} {m3 c3 : Nat} {ps' : List Pipe} (ho : OwnP 76 W' A3 m3 c3 ps') (hg : W.grownBy W' (Ap.map (·.block))) (hb : A3.map (·.block) = Ap.map (·.block) ∨ A3.map (·.block) = some W.heap.size) :
    DA w g A n c bs b2 b3 An k cn A3 m3 c3 ns ps' (W'.setCell ⟨b3, 1, none⟩ (.slice A3 m3 c3)) := by
  have hl := h.lt
  have e1 := h.hg; have e2 := h.h2; have e3 := h.h3
  obtain ⟨a0, hA0⟩ : ∃ a0, Ap = some a0 := by cases hA : Ap with | none => exact absurd hA h.np | some x => exact ⟨x, rfl⟩
  have hp0 := h.p3 a0 hA0
  have hpl := h.op.lt a0 hA0
  have h3' : ∃ a3, A3 = some a3 ∧ (a3.block = a0.block ∨ a3.block = W.heap.size) := by
    rw [hA0] at hb
    cases A3 with
    | none => rcases hb with hb | hb <;> cases hb
    | some x => exact ⟨x, rfl, by simpa using hb⟩
  obtain ⟨a3, hA3, hb3⟩ := h3'
  have hblk : ∀ q, q < W.heap.size → q ≠ a0.block → W'.heap[q]? = W.heap[q]? := fun q hq hne => hg.block q hq (by rw [hA0]; simp; exact hne)
  have hsr : Src W' g A n c bs ∧ w.grownBy W' (some g) := by
    refine ⟨h.src.other hg (by rw [hA0]; simp; omega) (fun hn a ha => by rw [hA0]; simp; have := h.hA hn a ha; omega), only_new h.gr hg (fun i hi => by rw [hA0] at hi; simp at hi; omega)⟩
  refine ⟨(h.on.keep fun a ha => hblk _ (h.on.lt a ha) (h.ne a a0 ha hA0)).keepOther (fun a ha => (h.n3 a ha).1) _, ho.keepOther (fun a ha => ?_) _, ?_, (Below.heap_setCell W' _ _ _ (by show b2 ≠ b3; omega)).trans ((hblk b2 (by omega) (by omega)).trans h.x2), fun a b ha hb' => ?_, h.n3, fun a ha => ?_, by rw [hA3]; simp, ?_, ?_, h.hg, h.hA, h.h2, h.h3⟩
  · rw [hA3] at ha; injection ha with ha; subst ha; show a3.block ≠ b3; rcases hb3 with e | e <;> omega
  · rw [heap_set ((hblk b3 hl (by omega)).trans h.xb)]; rfl
  · rw [hA3] at hb'; injection hb' with hb'; subst hb'
    have h4 := h.ne a a0 ha hA0
    have h5 := h.on.lt a ha
    rcases hb3 with e | e <;> omega
  · rw [hA3] at ha; injection ha with ha; subst ha
    rcases hb3 with e | e <;> constructor <;> omega
  · exact hsr.1.put (by omega) (fun hn a ha => by have := h.hA hn a ha; omega) _ _
  · exact only_put hsr.2 (by omega) _ _
theorem DA.mid (h : DA w g A n c bs b2 b3 An k cn Ap m cp ns ps W) (hg : W.grownBy W' (Ap.map (·.block))) : W'.heap[b3]? = some (.cells #[.slice An k cn, .slice Ap m cp] 27 (0, 0)) ∧ W'.heap[b2]? = some (.cells #[.slice none 0 0, .slice none 0 0] 27 (0, 0)) := by
  have hl := h.lt
  have e3 := h.h3
  have hne : ∀ q, (∀ a, Ap = some a → a.block ≠ q) → some q ≠ Ap.map (·.block) := fun q hq e => by
    cases hA : Ap with
    | none => rw [hA] at e; cases e
    | some x => rw [hA] at e; injection e with e; exact hq x hA e.symm
  exact ⟨(hg.block b3 hl (hne b3 fun a ha => (h.p3 a ha).1)).trans h.xb, (hg.block b2 (by omega) (hne b2 fun a ha => by have := (h.p3 a ha).2; omega)).trans h.x2⟩
theorem DA.nil (h : DA w g A n c bs b2 b3 An k cn Ap m cp ns ps W) : DA w g A n c bs b2 b3 none 0 0 Ap m cp [] ps (W.setCell ⟨b3, 0, none⟩ (.slice none 0 0)) := by
  have e2 := h.h2; have e3 := h.h3
  have hs := h.srcPut (b := b3) (by omega) 0 (.slice none 0 0)
  refine ⟨⟨⟨by simp [ncells], .inl ⟨rfl, rfl⟩⟩, by simp⟩, h.op.keepOther (fun a ha => (h.p3 a ha).1) _, by rw [heap_set h.xb]; rfl, (Below.heap_setCell W _ _ _ (by show b2 ≠ b3; omega)).trans h.x2, fun a b ha => (by cases ha), fun a ha => (by cases ha), h.p3, h.np, hs.1, hs.2, h.hg, h.hA, h.h2, h.h3⟩
theorem DA.fin (h : DA w g A n c bs b2 b3 An k cn Ap m cp ns ps W) (hk : k ≤ 7) (hm : m ≤ 11) : Drawn w g A n c bs 0 11 (.returned (.agg #[.slice An k cn, .slice Ap m cp])) ((W.setCell ⟨b2, 0, none⟩ (.slice An k cn)).setCell ⟨b2, 1, none⟩ (.slice Ap m cp)) := by
  have e1 := h.hg; have e2 := h.h2
  have hs := h.srcPut (b := b2) (Nat.le_refl _) 0 (.slice An k cn)
  refine ⟨An, k, cn, Ap, m, cp, ns, ps, rfl, ⟨?_, ?_, fun a ha => by have := h.n3 a ha; omega, fun a ha => by have := h.p3 a ha; omega, h.ne, h.np⟩, Nat.zero_le _, hk, hm, ?_, ?_⟩
  · exact (h.on.keepOther (fun a ha => by have := h.n3 a ha; show a.block ≠ b2; omega) _).keepOther (fun a ha => by have := h.n3 a ha; show a.block ≠ b2; omega) _
  · exact (h.op.keepOther (fun a ha => by have := h.p3 a ha; show a.block ≠ b2; omega) _).keepOther (fun a ha => by have := h.p3 a ha; show a.block ≠ b2; omega) _
  · exact hs.1.put (by omega) (fun hn a ha => by have := h.hA hn a ha; omega) _ _
  · exact only_put hs.2 (by omega) _ _
theorem DA.c20 (h : DA w g A n c bs b2 b3 An k cn Ap m cp ns ps W) : W.cell? ⟨b2, 0, none⟩ = some (.slice none 0 0) := by rw [cell_blk h.x2]; rfl
theorem DA.c21 (h : DA w g A n c bs b2 b3 An k cn Ap m cp ns ps W) : W.cell? ⟨b2, 1, none⟩ = some (.slice none 0 0) := by rw [cell_blk h.x2]; rfl
theorem DA.c30 (h : DA w g A n c bs b2 b3 An k cn Ap m cp ns ps W) : W.cell? ⟨b3, 0, none⟩ = some (.slice An k cn) := by rw [cell_blk h.xb]; rfl
theorem DA.c31 (h : DA w g A n c bs b2 b3 An k cn Ap m cp ns ps W) : W.cell? ⟨b3, 1, none⟩ = some (.slice Ap m cp) := by rw [cell_blk h.xb]; rfl
theorem DA.f2 (h : DA w g A n c bs b2 b3 An k cn Ap m cp ns ps W) (i : Nat) : W.frozen? ⟨b2, i, none⟩ = false := frozen_blk h.x2 i
theorem DA.f3 (h : DA w g A n c bs b2 b3 An k cn Ap m cp ns ps W) (i : Nat) : W.frozen? ⟨b3, i, none⟩ = false := frozen_blk h.xb i

end

theorem wrapK_i64 (x : Int) : I64 (IntKind.i64.wrap x) := by
  unfold I64; simp [IntKind.wrap, IntKind.signed, IntKind.bits]; omega

/-! ### values in a region that draws -/
def Gw (g : Nat) (w w' : World) : Prop := w.grownBy w' (some g)
def boxRow (g : Nat) (cs : Array Value) (T : TypeId) (k : Nat) : VP := fun v w => ∃ b, v = .slice (some ⟨b, 0, none⟩) k k ∧ w.heap[b]? = some (.cells cs T (0, 0)) ∧ g < b
def natBelow (k : Nat) : VP := fun v _ => ∃ x : Nat, v = .int .i64 x ∧ x < k
def ptrIn (g : Nat) (cs : Array Value) (T : TypeId) (k : Nat) : VP := fun v w => ∃ b j, v = .pointer (some ⟨b, j, none⟩) ∧ w.heap[b]? = some (.cells cs T (0, 0)) ∧ g < b ∧ j < k
def isStr : VP := fun v _ => ∃ s : ByteArray, v = .string s ∧ s.size ≤ 100
def isI64 : VP := fun v _ => ∃ x : Int, v = .int .i64 x ∧ I64 x
theorem stb_boxRow {g : Nat} {cs : Array Value} {T : TypeId} {k : Nat} : Stb (Gw g) (boxRow g cs T k) := by
  rintro v w w' h ⟨b, rfl, hh, hb⟩
  exact ⟨b, rfl, (World.grownBy.block h b (Array.getElem?_eq_some_iff.1 hh).1 (fun e => by injection e; omega)).trans hh, hb⟩
theorem stb_ptrIn {g : Nat} {cs : Array Value} {T : TypeId} {k : Nat} : Stb (Gw g) (ptrIn g cs T k) := by
  rintro v w w' h ⟨b, j, rfl, hh, hb, hj⟩
  exact ⟨b, j, rfl, (World.grownBy.block h b (Array.getElem?_eq_some_iff.1 hh).1 (fun e => by injection e; omega)).trans hh, hb, hj⟩

set_option maxRecDepth 100000 in
set_option maxHeartbeats 4000000 in
theorem l02DrawAny_any (g : Nat) (A : Option Addr) (n c : Nat) (bs : List Int) (w : World) (h : Src w g A n c bs) :
    Calls Try.prog 98 #[.pointer (some ⟨g, 0, none⟩)] w (Drawn w g A n c bs 0 11) := by
  have hlt := h.lt
  have hA := Lib.hid h.blk
  go_enter Try.func98, Try.ntmps98
  go_wp2_with fail
  refine (l02Draw_any _ _ _ _ _ _ (h.alloc _)).mono ?_
  rintro e w1 ⟨An, k, cn, Ap, m, cp, ns, ps, rfl, hd, hk1, hk7, hm, hs1, hg1⟩
  have hsz1 := hg1.size
  simp only [World.size_alloc] at hsz1
  have st0 : DA w g A n c bs w.heap.size w1.heap.size An k cn Ap m cp ns ps (w1.alloc (.cells #[.slice An k cn, .slice Ap m cp] 27)) := by
    have hfn := hd.fn
    have hfp := hd.fp
    simp only [World.size_alloc] at hfn hfp
    have d2 := hd.alloc (.cells #[.slice An k cn, .slice Ap m cp] 27)
    exact ⟨d2.on, d2.op, heap_alloc_new _ _, (Below.heap_alloc _ _ _ (by omega)).trans ((hg1.block w.heap.size (by simp) (by intro e; injection e; omega)).trans (heap_alloc_new w _)), hd.ne, fun a ha => ⟨by have := hd.on.lt a ha; omega, hfn a ha⟩, fun a ha => ⟨by have := hd.op.lt a ha; omega, hfp a ha⟩, hd.np, hs1.alloc _, only_alloc (only_trans (only_alloc (World.grownBy.refl _ _) _) hg1) _, hlt, hA.out, rfl, by omega⟩
  obtain ⟨w2, hw2⟩ : ∃ w2, w2 = w1.alloc (.cells #[.slice An k cn, .slice Ap m cp] 27) := ⟨_, rfl⟩
  rw [← hw2] at st0
  have HW2 := Lib.hid hw2
  have k0 := st0.c30
  rw [hw2] at k0
  clear hd hs1 hg1 hw2
  go_wp2_with fail
  rw [← HW2.out]
  refine (l01Next_any _ _ _ _ _ _ _ st0.src).mono ?_
  rintro e w3 ⟨r, rfl, r0, r1, r2, hs3, hg3⟩
  have hr : r < (k : Int) := by
    by_cases h1 : 1 < (k : Int)
    · exact r1 h1
    · have := r2 (by omega); omega
  clear r1 r2 k0
  have st3 := st0.next hg3 hs3
  obtain ⟨R, rfl⟩ := Int.eq_ofNat_of_zero_le r0
  have hRk : R < k := by omega
  clear st0 hs3 hg3 hr r0
  go_wp2_with fail
  refine (l01Next_any _ _ _ _ _ _ _ st3.src).mono ?_
  rintro e w4 ⟨q, rfl, q0, q1, _, hs4, hg4⟩
  clear q1
  have st := st3.next hg4 hs4
  clear st3 hs4 hg4 HW2
  obtain ⟨b3, hb3⟩ : ∃ b3, w1.heap.size = b3 := ⟨_, rfl⟩
  rw [hb3] at st ⊢
  clear hb3
  have hl3 := st.lt
  have hh3 := st.h3
  have hq : q = 0 ∨ q = 1 ∨ q = 2 ∨ q = 3 ∨ q = 4 ∨ q = 5 ∨ q = 6 ∨ 7 ≤ q := by omega
  obtain ⟨gn, rfl, hgn⟩ := st.on.pos (by omega)
  have hn3 := st.n3 _ rfl
  simp only at hn3
  have FIN : ∀ {W : World} {An' : Option Addr} {k' cn' : Nat} {Ap' : Option Addr} {m' cp' : Nat} {ns' : List Node} {ps' : List Pipe}, DA w g A n c bs w.heap.size b3 An' k' cn' Ap' m' cp' ns' ps' W → k' ≤ 7 → m' ≤ 11 → Hid (Drawn w g A n c bs 0 11 (.returned (.agg #[.slice An' k' cn', .slice Ap' m' cp'])) ((W.setCell ⟨w.heap.size, 0, none⟩ (.slice An' k' cn')).setCell ⟨w.heap.size, 1, none⟩ (.slice Ap' m' cp'))) := fun h h1 h2 => Lib.hid (h.fin h1 h2)
  rcases hq with rfl | rfl | rfl | rfl | rfl | rfl | rfl | hq7
  · have ST := Lib.hid st
    have k0 := st.c30
    clear st
    go_wp2_with fail
    apply wp_region_track [16, 17, 18, 19, 20, 21, 22, 23, 24, 25] [eqv _, eqv _, eqv _, boxRow g _ _ 5, eqv _, natBelow 5, ptrIn g _ _ 5, isStr, eqv _, eqv _]
      (fun wx => Src wx g A n c bs ∧ w4.grownBy wx (some g)) (Gw g) (by kernel_rfl) (by kernel_rfl) rfl (by kernel_rfl)
    case hs =>
      refine ⟨?_, ?_, ?_, ?_, ?_, ?_, ?_, ?_, ?_, ?_, trivial⟩
      · intro ev wt ht hc hg hf hI hd
        have e3 : ev (.tmp 3) = .pointer (some ⟨b3, 0, none⟩) := ht 3 (by decide)
        refine opok_gen fun N hN => ?_
        clear hd ht
        go_simp
        exact hN.out _ _ ⟨hI, World.grownBy.refl _ _, rfl⟩
      · intro ev wt ht hc hg hf hI hd
        have e16 : ev (.tmp 16) = _ := hd 0 16 rfl rfl
        have stt := ST.out.next hI.2 hI.1
        have j0 := stt.c30
        clear stt
        refine opok_gen fun N hN => ?_
        clear hd ht
        go_simp
        exact hN.out _ _ ⟨hI, World.grownBy.refl _ _, rfl⟩
      · intro ev wt ht hc hg hf hI hd
        have e4 : ev (.tmp 4) = .int .i64 (R : Int) := ht 4 (by decide)
        exact opok_move _ rfl ⟨hI, World.grownBy.refl _ _, e4⟩
      · intro ev wt ht hc hg hf hI hd
        have hgt := hI.1.lt
        refine opok_gen fun N hN => ?_
        clear hd ht
        go_simp
        exact hN.out _ _ ⟨⟨hI.1.alloc _, only_alloc hI.2 _⟩, only_alloc (World.grownBy.refl _ _) _, ⟨_, rfl, heap_alloc_new _ _, hgt⟩⟩
      · intro ev wt ht hc hg hf hI hd
        have e0 : ev (.tmp 0) = .pointer (some ⟨g, 0, none⟩) := ht 0 (by decide)
        exact opok_move _ rfl ⟨hI, World.grownBy.refl _ _, e0⟩
      · intro ev wt ht hc hg hf hI hd
        have e20 : ev (.tmp 20) = _ := hd 4 20 rfl rfl
        refine opok_gen fun N hN => ?_
        clear hd ht
        go_simp
        refine (l01Next_any _ _ _ _ _ _ _ hI.1).mono ?_
        rintro e wz ⟨x, rfl, x0, x1, _, hsz, hgz⟩
        have x1' := x1 (by omega)
        obtain ⟨X, rfl⟩ := Int.eq_ofNat_of_zero_le x0
        exact ⟨_, rfl, hN.out _ _ ⟨⟨hsz, only_trans hI.2 hgz⟩, hgz, ⟨X, rfl, by omega⟩⟩⟩
      · intro ev wt ht hc hg hf hI hd
        obtain ⟨b, e19, hbb, hgb⟩ : boxRow g _ _ 5 (ev (.tmp 19)) wt := hd 3 19 rfl rfl
        obtain ⟨X, e21, hX⟩ : natBelow 5 (ev (.tmp 21)) wt := hd 5 21 rfl rfl
        have hXi : (X : Int) < 5 := by omega
        refine opok_gen fun N hN => ?_
        clear hd ht
        go_simp
        exact hN.out _ _ ⟨hI, World.grownBy.refl _ _, ⟨b, X, rfl, hbb, hgb, hX⟩⟩
      · intro ev wt ht hc hg hf hI hd
        obtain ⟨b, j, e22, hbb, hgb, hj⟩ : ptrIn g _ _ 5 (ev (.tmp 22)) wt := hd 6 22 rfl rfl
        have cc := cell_blk hbb j
        have hjj : j = 0 ∨ j = 1 ∨ j = 2 ∨ j = 3 ∨ j = 4 := by omega
        clear hbb hj
        rcases hjj with rfl | rfl | rfl | rfl | rfl <;> (simp at cc; refine opok_gen fun N hN => ?_; clear hd ht; go_simp; exact hN.out _ _ ⟨hI, World.grownBy.refl _ _, ⟨_, rfl, by decide⟩⟩)
      · intro ev wt ht hc hg hf hI hd
        have e17 : ev (.tmp 17) = _ := hd 1 17 rfl rfl
        have e18 : ev (.tmp 18) = _ := hd 2 18 rfl rfl
        refine opok_gen fun N hN => ?_
        clear hd ht
        go_simp
        exact hN.out _ _ ⟨hI, World.grownBy.refl _ _, rfl⟩
      · intro ev wt ht hc hg hf hI hd
        have e24 : ev (.tmp 24) = _ := hd 8 24 rfl rfl
        refine opok_gen fun N hN => ?_
        clear hd ht
        go_simp
        exact hN.out _ _ ⟨hI, World.grownBy.refl _ _, rfl⟩
    case hst =>
      refine fun j v w w' _ h1 h2 => StbL.nth (S := Gw g) ?_ j v w w' h1 h2
      exact ⟨stb_eqv _, stb_eqv _, stb_eqv _, stb_boxRow, stb_eqv _, (fun _ _ _ _ h => h), stb_ptrIn, (fun _ _ _ _ h => h), stb_eqv _, stb_eqv _, trivial⟩
    case hI => exact ⟨ST.out.src.keep (Below.refl _ _).drew, only_drewN (World.grownBy.refl _ _) 1⟩
    case hl =>
      rintro wt hI _ rfl _ rfl _ rfl _ ⟨bx, rfl, _, _⟩ _ rfl _ ⟨X, rfl, _⟩ _ ⟨by_, jy, rfl, _, _, _⟩ _ ⟨s, rfl, hsv⟩ _ rfl _ rfl
      simp only [Lasts, List.length_cons, List.length_nil, Nat.reduceAdd, List.drop_succ_cons, List.drop_zero, Act.put, List.setIfInBounds_toArray, List.set_cons_succ, List.set_cons_zero]
      have stt := ST.out.next hI.2 hI.1
      have cN := stt.on.cell hRk
      obtain ⟨c0, _, _⟩ := cN
      have uN : wt.frozen? ⟨gn, R * 3, none⟩ = false := stt.on.row.frozenAt (R * 3)
      have st5 := stt.putN (stt.on.putName R (s := s) (by omega))
      have FI := FIN st5 (by omega) (by omega)
      have z0 := stt.c30
      have z1 := stt.c31
      have y0 := stt.c20
      have y1 := stt.c21
      have v0 := stt.f2 0
      have v1 := stt.f2 1
      clear stt st5 k0
      have hnb3 : gn ≠ b3 := hn3.1
      have hnb2 : gn ≠ w.heap.size := by omega
      go_wp2_with fail
      exact bodyPost_ret (v := .agg #[.slice (some ⟨gn, 0, none⟩) k cn, .slice Ap m cp]) (by simp [results, Try.results98, go_sem, y0, y1]) rfl FI.out
  · have ST := Lib.hid st
    have k0 := st.c30
    clear st
    go_wp2_with fail
    apply wp_region_track [28, 29, 30, 31, 32, 33, 34, 35, 36, 37, 38, 39, 40, 41, 42, 43, 44, 45, 46, 47, 48, 49, 50] [eqv _, eqv _, eqv _, eqv _, eqv _, eqv _, eqv _, eqv _, eqv _, eqv _, eqv _, eqv _, eqv _, eqv _, eqv _, eqv _, boxRow g _ _ 4, eqv _, natBelow 4, ptrIn g _ _ 4, isI64, eqv _, eqv _]
      (fun wx => Src wx g A n c bs ∧ w4.grownBy wx (some g)) (Gw g) (by kernel_rfl) (by kernel_rfl) rfl (by kernel_rfl)
    case hs =>
      have hlow := (nd_ok ST.out.on.ok R).1
      refine ⟨?_, ?_, ?_, ?_, ?_, ?_, ?_, ?_, ?_, ?_, ?_, ?_, ?_, ?_, ?_, ?_, ?_, ?_, ?_, ?_, ?_, ?_, ?_, trivial⟩
      · intro ev wt ht hc hg hf hI hd
        have e3 : ev (.tmp 3) = .pointer (some ⟨b3, 0, none⟩) := ht 3 (by decide)
        refine opok_gen fun N hN => ?_
        clear hd ht
        go_simp
        exact hN.out _ _ ⟨hI, World.grownBy.refl _ _, rfl⟩
      · intro ev wt ht hc hg hf hI hd
        have e28 : ev (.tmp 28) = _ := hd 0 28 rfl rfl
        have stt := ST.out.next hI.2 hI.1
        have j0 := stt.c30
        obtain ⟨_, d1, _⟩ := stt.on.cell hRk
        clear stt
        refine opok_gen fun N hN => ?_
        clear hd ht
        go_simp
        exact hN.out _ _ ⟨hI, World.grownBy.refl _ _, rfl⟩
      · intro ev wt ht hc hg hf hI hd
        have e4 : ev (.tmp 4) = .int .i64 (R : Int) := ht 4 (by decide)
        exact opok_move _ rfl ⟨hI, World.grownBy.refl _ _, e4⟩
      · intro ev wt ht hc hg hf hI hd
        have e3 : ev (.tmp 3) = .pointer (some ⟨b3, 0, none⟩) := ht 3 (by decide)
        refine opok_gen fun N hN => ?_
        clear hd ht
        go_simp
        exact hN.out _ _ ⟨hI, World.grownBy.refl _ _, rfl⟩
      · intro ev wt ht hc hg hf hI hd
        have e31 : ev (.tmp 31) = _ := hd 3 31 rfl rfl
        have stt := ST.out.next hI.2 hI.1
        have j0 := stt.c30
        obtain ⟨_, d1, _⟩ := stt.on.cell hRk
        clear stt
        refine opok_gen fun N hN => ?_
        clear hd ht
        go_simp
        exact hN.out _ _ ⟨hI, World.grownBy.refl _ _, rfl⟩
      · intro ev wt ht hc hg hf hI hd
        have e4 : ev (.tmp 4) = .int .i64 (R : Int) := ht 4 (by decide)
        exact opok_move _ rfl ⟨hI, World.grownBy.refl _ _, e4⟩
      · intro ev wt ht hc hg hf hI hd
        have e32 : ev (.tmp 32) = _ := hd 4 32 rfl rfl
        have e33 : ev (.tmp 33) = _ := hd 5 33 rfl rfl
        refine opok_gen fun N hN => ?_
        clear hd ht
        go_simp
        exact hN.out _ _ ⟨hI, World.grownBy.refl _ _, rfl⟩
      · intro ev wt ht hc hg hf hI hd
        have e34 : ev (.tmp 34) = _ := hd 6 34 rfl rfl
        refine opok_gen fun N hN => ?_
        clear hd ht
        go_simp
        exact hN.out _ _ ⟨hI, World.grownBy.refl _ _, rfl⟩
      · intro ev wt ht hc hg hf hI hd
        have e35 : ev (.tmp 35) = _ := hd 7 35 rfl rfl
        have stt := ST.out.next hI.2 hI.1
        have j0 := stt.c30
        obtain ⟨_, d1, _⟩ := stt.on.cell hRk
        clear stt
        refine opok_gen fun N hN => ?_
        clear hd ht
        go_simp
        exact hN.out _ _ ⟨hI, World.grownBy.refl _ _, rfl⟩
      · intro ev wt ht hc hg hf hI hd
        have e36 : ev (.tmp 36) = _ := hd 8 36 rfl rfl
        refine opok_gen fun N hN => ?_
        clear hd ht
        go_simp
        exact hN.out _ _ ⟨hI, World.grownBy.refl _ _, rfl⟩
      · intro ev wt ht hc hg hf hI hd
        have e3 : ev (.tmp 3) = .pointer (some ⟨b3, 0, none⟩) := ht 3 (by decide)
        refine opok_gen fun N hN => ?_
        clear hd ht
        go_simp
        exact hN.out _ _ ⟨hI, World.grownBy.refl _ _, rfl⟩
      · intro ev wt ht hc hg hf hI hd
        have e38 : ev (.tmp 38) = _ := hd 10 38 rfl rfl
        have stt := ST.out.next hI.2 hI.1
        have j0 := stt.c30
        obtain ⟨_, d1, _⟩ := stt.on.cell hRk
        clear stt
        refine opok_gen fun N hN => ?_
        clear hd ht
        go_simp
        exact hN.out _ _ ⟨hI, World.grownBy.refl _ _, rfl⟩
      · intro ev wt ht hc hg hf hI hd
        have e4 : ev (.tmp 4) = .int .i64 (R : Int) := ht 4 (by decide)
        exact opok_move _ rfl ⟨hI, World.grownBy.refl _ _, e4⟩
      · intro ev wt ht hc hg hf hI hd
        have e39 : ev (.tmp 39) = _ := hd 11 39 rfl rfl
        have e40 : ev (.tmp 40) = _ := hd 12 40 rfl rfl
        refine opok_gen fun N hN => ?_
        clear hd ht
        go_simp
        exact hN.out _ _ ⟨hI, World.grownBy.refl _ _, rfl⟩
      · intro ev wt ht hc hg hf hI hd
        have e41 : ev (.tmp 41) = _ := hd 13 41 rfl rfl
        refine opok_gen fun N hN => ?_
        clear hd ht
        go_simp
        exact hN.out _ _ ⟨hI, World.grownBy.refl _ _, rfl⟩
      · intro ev wt ht hc hg hf hI hd
        have e42 : ev (.tmp 42) = _ := hd 14 42 rfl rfl
        have stt := ST.out.next hI.2 hI.1
        have j0 := stt.c30
        obtain ⟨_, d1, _⟩ := stt.on.cell hRk
        clear stt
        refine opok_gen fun N hN => ?_
        clear hd ht
        go_simp
        exact hN.out _ _ ⟨hI, World.grownBy.refl _ _, rfl⟩
      · intro ev wt ht hc hg hf hI hd
        have e37 : ev (.tmp 37) = _ := hd 9 37 rfl rfl
        have e43 : ev (.tmp 43) = _ := hd 15 43 rfl rfl
        have hgt := hI.1.lt
        refine opok_gen fun N hN => ?_
        clear hd ht
        go_simp
        exact hN.out _ _ ⟨⟨hI.1.alloc _, only_alloc hI.2 _⟩, only_alloc (World.grownBy.refl _ _) _, ⟨_, rfl, heap_alloc_new _ _, hgt⟩⟩
      · intro ev wt ht hc hg hf hI hd
        have e0 : ev (.tmp 0) = .pointer (some ⟨g, 0, none⟩) := ht 0 (by decide)
        exact opok_move _ rfl ⟨hI, World.grownBy.refl _ _, e0⟩
      · intro ev wt ht hc hg hf hI hd
        have e45 : ev (.tmp 45) = _ := hd 17 45 rfl rfl
        refine opok_gen fun N hN => ?_
        clear hd ht
        go_simp
        refine (l01Next_any _ _ _ _ _ _ _ hI.1).mono ?_
        rintro e wz ⟨x, rfl, x0, x1, _, hsz, hgz⟩
        have x1' := x1 (by omega)
        obtain ⟨X, rfl⟩ := Int.eq_ofNat_of_zero_le x0
        exact ⟨_, rfl, hN.out _ _ ⟨⟨hsz, only_trans hI.2 hgz⟩, hgz, ⟨X, rfl, by omega⟩⟩⟩
      · intro ev wt ht hc hg hf hI hd
        obtain ⟨b, e44, hbb, hgb⟩ : boxRow g _ _ 4 (ev (.tmp 44)) wt := hd 16 44 rfl rfl
        obtain ⟨X, e46, hX⟩ : natBelow 4 (ev (.tmp 46)) wt := hd 18 46 rfl rfl
        have hXi : (X : Int) < 4 := by omega
        refine opok_gen fun N hN => ?_
        clear hd ht
        go_simp
        exact hN.out _ _ ⟨hI, World.grownBy.refl _ _, ⟨b, X, rfl, hbb, hgb, hX⟩⟩
      · intro ev wt ht hc hg hf hI hd
        obtain ⟨b, j, e47, hbb, hgb, hj⟩ : ptrIn g _ _ 4 (ev (.tmp 47)) wt := hd 19 47 rfl rfl
        have cc := cell_blk hbb j
        have hjj : j = 0 ∨ j = 1 ∨ j = 2 ∨ j = 3 := by omega
        clear hbb hj
        rcases hjj with rfl | rfl | rfl | rfl <;> (simp at cc; refine opok_gen fun N hN => ?_; clear hd ht; go_simp; exact hN.out _ _ ⟨hI, World.grownBy.refl _ _, ⟨_, rfl, by first | exact ⟨by omega, by omega⟩ | exact wrapK_i64 _ | exact hlow⟩⟩)
      · intro ev wt ht hc hg hf hI hd
        have e29 : ev (.tmp 29) = _ := hd 1 29 rfl rfl
        have e30 : ev (.tmp 30) = _ := hd 2 30 rfl rfl
        refine opok_gen fun N hN => ?_
        clear hd ht
        go_simp
        exact hN.out _ _ ⟨hI, World.grownBy.refl _ _, rfl⟩
      · intro ev wt ht hc hg hf hI hd
        have e49 : ev (.tmp 49) = _ := hd 21 49 rfl rfl
        refine opok_gen fun N hN => ?_
        clear hd ht
        go_simp
        exact hN.out _ _ ⟨hI, World.grownBy.refl _ _, rfl⟩
    case hst =>
      refine fun j v w w' _ h1 h2 => StbL.nth (S := Gw g) ?_ j v w w' h1 h2
      exact ⟨stb_eqv _, stb_eqv _, stb_eqv _, stb_eqv _, stb_eqv _, stb_eqv _, stb_eqv _, stb_eqv _, stb_eqv _, stb_eqv _, stb_eqv _, stb_eqv _, stb_eqv _, stb_eqv _, stb_eqv _, stb_eqv _, stb_boxRow, stb_eqv _, (fun _ _ _ _ h => h), stb_ptrIn, (fun _ _ _ _ h => h), stb_eqv _, stb_eqv _, trivial⟩
    case hI => exact ⟨ST.out.src.keep (Below.refl _ _).drew, only_drewN (World.grownBy.refl _ _) 1⟩
    case hl =>
      rintro wt hI _ rfl _ rfl _ rfl _ rfl _ rfl _ rfl _ rfl _ rfl _ rfl _ rfl _ rfl _ rfl _ rfl _ rfl _ rfl _ rfl _ ⟨bx, rfl, _, _⟩ _ rfl _ ⟨X, rfl, _⟩ _ ⟨by_, jy, rfl, _, _, _⟩ _ ⟨s, rfl, hsv⟩ _ rfl _ rfl
      simp only [Lasts, List.length_cons, List.length_nil, Nat.reduceAdd, List.drop_succ_cons, List.drop_zero, Act.put, List.setIfInBounds_toArray, List.set_cons_succ, List.set_cons_zero]
      have stt := ST.out.next hI.2 hI.1
      have cN := stt.on.cell hRk
      obtain ⟨_, _, c2⟩ := cN
      have uN : wt.frozen? ⟨gn, R * 3 + 2, none⟩ = false := stt.on.row.frozenAt (R * 3 + 2)
      have st5 := stt.putN (stt.on.putHigh R hsv)
      have FI := FIN st5 (by omega) (by omega)
      have z0 := stt.c30
      have z1 := stt.c31
      have y0 := stt.c20
      have y1 := stt.c21
      have v0 := stt.f2 0
      have v1 := stt.f2 1
      clear stt st5 k0
      have hnb3 : gn ≠ b3 := hn3.1
      have hnb2 : gn ≠ w.heap.size := by omega
      go_wp2_with fail
      exact bodyPost_ret (v := .agg #[.slice (some ⟨gn, 0, none⟩) k cn, .slice Ap m cp]) (by simp [results, Try.results98, go_sem, y0, y1]) rfl FI.out
  · have stA := st.later (bel1 w4 (.cells #[.int .i64 (R : Int), .int .i64 (R : Int), .int .i64 1, .int .i64 0, .int .i64 1] 76))
    have STA := Lib.hid stA
    have opA := stA.op
    have pnA := pipeAt_new w4 ⟨(R : Int), (R : Int), 1, 0, 1⟩ 76
    have hok : Pipe.ok ⟨(R : Int), (R : Int), 1, 0, 1⟩ := by simp only [Pipe.ok, I64]; omega
    have k0 := st.c30
    have k1 := st.c31
    clear st stA
    go_wp2_with (at_builtin; refine law_appendP _ rfl _ _ rfl Ap m cp ps rfl opA _ _ (⟨(R : Int), (R : Int), 1, 0, 1⟩ : Pipe) hok rfl pnA (by omega) ?_; intro A3 c3 w5 ho3 hg3 hb3; have st5 := STA.out.app ho3 hg3 hb3; obtain ⟨m3, m2⟩ := STA.out.mid hg3; have z0 := cell_blk m3 0; have z1 := cell_blk m3 1; have z2 := cell_blk m2 0; have z3 := cell_blk m2 1; simp at z0 z1 z2 z3; have f0 := frozen_blk m3 1; have f1 := frozen_blk m2 0; have f2 := frozen_blk m2 1; have FI := FIN st5 (by omega) (by omega); have hnb : b3 ≠ w.heap.size := (by omega); clear m3 m2 st5 k0 k1)
    exact bodyPost_ret (v := .agg #[.slice (some ⟨gn, 0, none⟩) k cn, .slice A3 (m + 1) c3]) (by simp [results, Try.results98, go_sem, z2, z3]) rfl FI.out
  · have stA := st.later (bel1 w4 (.cells #[.int .i64 (R : Int), .int .i64 (k : Int), .int .i64 1, .int .i64 0, .int .i64 1] 76))
    have STA := Lib.hid stA
    have opA := stA.op
    have pnA := pipeAt_new w4 ⟨(R : Int), (k : Int), 1, 0, 1⟩ 76
    have hok : Pipe.ok ⟨(R : Int), (k : Int), 1, 0, 1⟩ := by simp only [Pipe.ok, I64]; omega
    have k0 := st.c30
    have k1 := st.c31
    clear st stA
    go_wp2_with (at_builtin; refine law_appendP _ rfl _ _ rfl Ap m cp ps rfl opA _ _ (⟨(R : Int), (k : Int), 1, 0, 1⟩ : Pipe) hok rfl pnA (by omega) ?_; intro A3 c3 w5 ho3 hg3 hb3; have st5 := STA.out.app ho3 hg3 hb3; obtain ⟨m3, m2⟩ := STA.out.mid hg3; have z0 := cell_blk m3 0; have z1 := cell_blk m3 1; have z2 := cell_blk m2 0; have z3 := cell_blk m2 1; simp at z0 z1 z2 z3; have f0 := frozen_blk m3 1; have f1 := frozen_blk m2 0; have f2 := frozen_blk m2 1; have FI := FIN st5 (by omega) (by omega); have hnb : b3 ≠ w.heap.size := (by omega); clear m3 m2 st5 k0 k1)
    exact bodyPost_ret (v := .agg #[.slice (some ⟨gn, 0, none⟩) k cn, .slice A3 (m + 1) c3]) (by simp [results, Try.results98, go_sem, z2, z3]) rfl FI.out
  · by_cases hm0 : 0 < m
    · obtain ⟨gp, rfl, hgp⟩ := st.op.pos hm0
      have hmi : (0 : Int) < (m : Int) := by omega
      have hp3 := st.p3 _ rfl
      simp only at hp3
      have ST := Lib.hid st
      have k0 := st.c30
      have k1 := st.c31
      clear st
      go_wp2_with fail
      apply wp_region_track [79, 80, 81, 82, 83, 84, 85, 86, 87] [eqv _, eqv _, boxRow g _ _ 3, eqv _, natBelow 3, ptrIn g _ _ 3, isI64, eqv _, eqv _]
        (fun wx => Src wx g A n c bs ∧ w4.grownBy wx (some g)) (Gw g) (by kernel_rfl) (by kernel_rfl) rfl (by kernel_rfl)
      case hs =>
        refine ⟨?_, ?_, ?_, ?_, ?_, ?_, ?_, ?_, ?_, trivial⟩
        · intro ev wt ht hc hg hf hI hd
          have e3 : ev (.tmp 3) = .pointer (some ⟨b3, 0, none⟩) := ht 3 (by decide)
          refine opok_gen fun N hN => ?_
          clear hd ht
          go_simp
          exact hN.out _ _ ⟨hI, World.grownBy.refl _ _, rfl⟩
        · intro ev wt ht hc hg hf hI hd
          have e79 : ev (.tmp 79) = _ := hd 0 79 rfl rfl
          have stt := ST.out.next hI.2 hI.1
          have j0 := stt.c31
          clear stt
          refine opok_gen fun N hN => ?_
          clear hd ht
          go_simp
          exact hN.out _ _ ⟨hI, World.grownBy.refl _ _, rfl⟩
        · intro ev wt ht hc hg hf hI hd
          have hgt := hI.1.lt
          refine opok_gen fun N hN => ?_
          clear hd ht
          go_simp
          exact hN.out _ _ ⟨⟨hI.1.alloc _, only_alloc hI.2 _⟩, only_alloc (World.grownBy.refl _ _) _, ⟨_, rfl, heap_alloc_new _ _, hgt⟩⟩
        · intro ev wt ht hc hg hf hI hd
          have e0 : ev (.tmp 0) = .pointer (some ⟨g, 0, none⟩) := ht 0 (by decide)
          exact opok_move _ rfl ⟨hI, World.grownBy.refl _ _, e0⟩
        · intro ev wt ht hc hg hf hI hd
          have e82 : ev (.tmp 82) = _ := hd 3 82 rfl rfl
          refine opok_gen fun N hN => ?_
          clear hd ht
          go_simp
          refine (l01Next_any _ _ _ _ _ _ _ hI.1).mono ?_
          rintro e wz ⟨x, rfl, x0, x1, _, hsz, hgz⟩
          have x1' := x1 (by omega)
          obtain ⟨X, rfl⟩ := Int.eq_ofNat_of_zero_le x0
          exact ⟨_, rfl, hN.out _ _ ⟨⟨hsz, only_trans hI.2 hgz⟩, hgz, ⟨X, rfl, by omega⟩⟩⟩
        · intro ev wt ht hc hg hf hI hd
          obtain ⟨b, e81, hbb, hgb⟩ : boxRow g _ _ 3 (ev (.tmp 81)) wt := hd 2 81 rfl rfl
          obtain ⟨X, e83, hX⟩ : natBelow 3 (ev (.tmp 83)) wt := hd 4 83 rfl rfl
          have hXi : (X : Int) < 3 := by omega
          refine opok_gen fun N hN => ?_
          clear hd ht
          go_simp
          exact hN.out _ _ ⟨hI, World.grownBy.refl _ _, ⟨b, X, rfl, hbb, hgb, hX⟩⟩
        · intro ev wt ht hc hg hf hI hd
          obtain ⟨b, j, e84, hbb, hgb, hj⟩ : ptrIn g _ _ 3 (ev (.tmp 84)) wt := hd 5 84 rfl rfl
          have cc := cell_blk hbb j
          have hjj : j = 0 ∨ j = 1 ∨ j = 2 := by omega
          clear hbb hj
          rcases hjj with rfl | rfl | rfl <;> (simp at cc; refine opok_gen fun N hN => ?_; clear hd ht; go_simp; exact hN.out _ _ ⟨hI, World.grownBy.refl _ _, ⟨_, rfl, by exact ⟨by omega, by omega⟩⟩⟩)
        · intro ev wt ht hc hg hf hI hd
          have e80 : ev (.tmp 80) = _ := hd 1 80 rfl rfl
          refine opok_gen fun N hN => ?_
          clear hd ht
          go_simp
          exact hN.out _ _ ⟨hI, World.grownBy.refl _ _, rfl⟩
        · intro ev wt ht hc hg hf hI hd
          have e86 : ev (.tmp 86) = _ := hd 7 86 rfl rfl
          refine opok_gen fun N hN => ?_
          clear hd ht
          go_simp
          exact hN.out _ _ ⟨hI, World.grownBy.refl _ _, rfl⟩
      case hst =>
        refine fun j v w w' _ h1 h2 => StbL.nth (S := Gw g) ?_ j v w w' h1 h2
        exact ⟨stb_eqv _, stb_eqv _, stb_boxRow, stb_eqv _, (fun _ _ _ _ h => h), stb_ptrIn, (fun _ _ _ _ h => h), stb_eqv _, stb_eqv _, trivial⟩
      case hI => exact ⟨ST.out.src.keep (Below.refl _ _).drew, only_drewN (World.grownBy.refl _ _) 1⟩
      case hl =>
        rintro wt hI _ rfl _ rfl _ ⟨bx, rfl, _, _⟩ _ rfl _ ⟨X, rfl, _⟩ _ ⟨by_, jy, rfl, _, _, _⟩ _ ⟨s, rfl, hsv⟩ _ rfl _ rfl
        simp only [Lasts, List.length_cons, List.length_nil, Nat.reduceAdd, List.drop_succ_cons, List.drop_zero, Act.put, List.setIfInBounds_toArray, List.set_cons_succ, List.set_cons_zero]
        have stt := ST.out.next hI.2 hI.1
        have cN := stt.op.cell hm0
        obtain ⟨_, _, c2, _, c4⟩ := cN
        simp at c2 c4
        have uN : wt.frozen? ⟨gp, 2, none⟩ = false := stt.op.row.frozenAt 2
        have st5 := stt.putP (j := 2) (stt.op.putK 0 hsv)
        have FI := FIN st5 (by omega) (by omega)
        have z0 := stt.c30
        have z1 := stt.c31
        have y0 := stt.c20
        have y1 := stt.c21
        have v0 := stt.f2 0
        have v1 := stt.f2 1
        clear stt st5 k0 k1
        have hnb3 : gp ≠ b3 := hp3.1
        have hnb2 : gp ≠ w.heap.size := by omega
        go_wp2_with fail
        exact bodyPost_ret (v := .agg #[.slice (some ⟨gn, 0, none⟩) k cn, .slice (some ⟨gp, 0, none⟩) m cp]) (by simp [results, Try.results98, go_sem, y0, y1]) rfl FI.out
    · have hmi : ¬ (0 : Int) < (m : Int) := by omega
      have FI := FIN st (by omega) (by omega)
      have z0 := st.c30
      have z1 := st.c31
      have y0 := st.c20
      have y1 := st.c21
      have v0 := st.f2 0
      have v1 := st.f2 1
      clear st
      go_wp2_with fail
      exact bodyPost_ret (v := .agg #[.slice (some ⟨gn, 0, none⟩) k cn, .slice Ap m cp]) (by simp [results, Try.results98, go_sem, y0, y1]) rfl FI.out
  · by_cases hm0 : 0 < m
    · obtain ⟨gp, rfl, hgp⟩ := st.op.pos hm0
      have hmi : (0 : Int) < (m : Int) := by omega
      have hp3 := st.p3 _ rfl
      simp only at hp3
      have ST := Lib.hid st
      have k0 := st.c30
      have k1 := st.c31
      clear st
      go_wp2_with fail
      apply wp_region_track [94, 95, 96, 97, 98, 99, 100, 101, 102] [eqv _, eqv _, boxRow g _ _ 3, eqv _, natBelow 3, ptrIn g _ _ 3, isI64, eqv _, eqv _]
        (fun wx => Src wx g A n c bs ∧ w4.grownBy wx (some g)) (Gw g) (by kernel_rfl) (by kernel_rfl) rfl (by kernel_rfl)
      case hs =>
        refine ⟨?_, ?_, ?_, ?_, ?_, ?_, ?_, ?_, ?_, trivial⟩
        · intro ev wt ht hc hg hf hI hd
          have e3 : ev (.tmp 3) = .pointer (some ⟨b3, 0, none⟩) := ht 3 (by decide)
          refine opok_gen fun N hN => ?_
          clear hd ht
          go_simp
          exact hN.out _ _ ⟨hI, World.grownBy.refl _ _, rfl⟩
        · intro ev wt ht hc hg hf hI hd
          have e94 : ev (.tmp 94) = _ := hd 0 94 rfl rfl
          have stt := ST.out.next hI.2 hI.1
          have j0 := stt.c31
          clear stt
          refine opok_gen fun N hN => ?_
          clear hd ht
          go_simp
          exact hN.out _ _ ⟨hI, World.grownBy.refl _ _, rfl⟩
        · intro ev wt ht hc hg hf hI hd
          have hgt := hI.1.lt
          refine opok_gen fun N hN => ?_
          clear hd ht
          go_simp
          exact hN.out _ _ ⟨⟨hI.1.alloc _, only_alloc hI.2 _⟩, only_alloc (World.grownBy.refl _ _) _, ⟨_, rfl, heap_alloc_new _ _, hgt⟩⟩
        · intro ev wt ht hc hg hf hI hd
          have e0 : ev (.tmp 0) = .pointer (some ⟨g, 0, none⟩) := ht 0 (by decide)
          exact opok_move _ rfl ⟨hI, World.grownBy.refl _ _, e0⟩
        · intro ev wt ht hc hg hf hI hd
          have e97 : ev (.tmp 97) = _ := hd 3 97 rfl rfl
          refine opok_gen fun N hN => ?_
          clear hd ht
          go_simp
          refine (l01Next_any _ _ _ _ _ _ _ hI.1).mono ?_
          rintro e wz ⟨x, rfl, x0, x1, _, hsz, hgz⟩
          have x1' := x1 (by omega)
          obtain ⟨X, rfl⟩ := Int.eq_ofNat_of_zero_le x0
          exact ⟨_, rfl, hN.out _ _ ⟨⟨hsz, only_trans hI.2 hgz⟩, hgz, ⟨X, rfl, by omega⟩⟩⟩
        · intro ev wt ht hc hg hf hI hd
          obtain ⟨b, e96, hbb, hgb⟩ : boxRow g _ _ 3 (ev (.tmp 96)) wt := hd 2 96 rfl rfl
          obtain ⟨X, e98, hX⟩ : natBelow 3 (ev (.tmp 98)) wt := hd 4 98 rfl rfl
          have hXi : (X : Int) < 3 := by omega
          refine opok_gen fun N hN => ?_
          clear hd ht
          go_simp
          exact hN.out _ _ ⟨hI, World.grownBy.refl _ _, ⟨b, X, rfl, hbb, hgb, hX⟩⟩
        · intro ev wt ht hc hg hf hI hd
          obtain ⟨b, j, e99, hbb, hgb, hj⟩ : ptrIn g _ _ 3 (ev (.tmp 99)) wt := hd 5 99 rfl rfl
          have cc := cell_blk hbb j
          have hjj : j = 0 ∨ j = 1 ∨ j = 2 := by omega
          clear hbb hj
          rcases hjj with rfl | rfl | rfl <;> (simp at cc; refine opok_gen fun N hN => ?_; clear hd ht; go_simp; exact hN.out _ _ ⟨hI, World.grownBy.refl _ _, ⟨_, rfl, by exact ⟨by omega, by omega⟩⟩⟩)
        · intro ev wt ht hc hg hf hI hd
          have e95 : ev (.tmp 95) = _ := hd 1 95 rfl rfl
          refine opok_gen fun N hN => ?_
          clear hd ht
          go_simp
          exact hN.out _ _ ⟨hI, World.grownBy.refl _ _, rfl⟩
        · intro ev wt ht hc hg hf hI hd
          have e101 : ev (.tmp 101) = _ := hd 7 101 rfl rfl
          refine opok_gen fun N hN => ?_
          clear hd ht
          go_simp
          exact hN.out _ _ ⟨hI, World.grownBy.refl _ _, rfl⟩
      case hst =>
        refine fun j v w w' _ h1 h2 => StbL.nth (S := Gw g) ?_ j v w w' h1 h2
        exact ⟨stb_eqv _, stb_eqv _, stb_boxRow, stb_eqv _, (fun _ _ _ _ h => h), stb_ptrIn, (fun _ _ _ _ h => h), stb_eqv _, stb_eqv _, trivial⟩
      case hI => exact ⟨ST.out.src.keep (Below.refl _ _).drew, only_drewN (World.grownBy.refl _ _) 1⟩
      case hl =>
        rintro wt hI _ rfl _ rfl _ ⟨bx, rfl, _, _⟩ _ rfl _ ⟨X, rfl, _⟩ _ ⟨by_, jy, rfl, _, _, _⟩ _ ⟨s, rfl, hsv⟩ _ rfl _ rfl
        simp only [Lasts, List.length_cons, List.length_nil, Nat.reduceAdd, List.drop_succ_cons, List.drop_zero, Act.put, List.setIfInBounds_toArray, List.set_cons_succ, List.set_cons_zero]
        have stt := ST.out.next hI.2 hI.1
        have cN := stt.op.cell hm0
        obtain ⟨_, _, c2, _, c4⟩ := cN
        simp at c2 c4
        have uN : wt.frozen? ⟨gp, 4, none⟩ = false := stt.op.row.frozenAt 4
        have st5 := stt.putP (j := 4) (stt.op.putLim 0 hsv)
        have FI := FIN st5 (by omega) (by omega)
        have z0 := stt.c30
        have z1 := stt.c31
        have y0 := stt.c20
        have y1 := stt.c21
        have v0 := stt.f2 0
        have v1 := stt.f2 1
        clear stt st5 k0 k1
        have hnb3 : gp ≠ b3 := hp3.1
        have hnb2 : gp ≠ w.heap.size := by omega
        go_wp2_with fail
        exact bodyPost_ret (v := .agg #[.slice (some ⟨gn, 0, none⟩) k cn, .slice (some ⟨gp, 0, none⟩) m cp]) (by simp [results, Try.results98, go_sem, y0, y1]) rfl FI.out
    · have hmi : ¬ (0 : Int) < (m : Int) := by omega
      have FI := FIN st (by omega) (by omega)
      have z0 := st.c30
      have z1 := st.c31
      have y0 := st.c20
      have y1 := st.c21
      have v0 := st.f2 0
      have v1 := st.f2 1
      clear st
      go_wp2_with fail
      exact bodyPost_ret (v := .agg #[.slice (some ⟨gn, 0, none⟩) k cn, .slice Ap m cp]) (by simp [results, Try.results98, go_sem, y0, y1]) rfl FI.out
  · have st5 := st.nil
    have u0 := st.f3 0
    have hnb : b3 ≠ w.heap.size := by omega
    have FI := FIN st5 (by omega) (by omega)
    have z0 := st.c30
    have z1 := st.c31
    have y0 := st.c20
    have y1 := st.c21
    have v0 := st.f2 0
    have v1 := st.f2 1
    clear st st5
    go_wp2_with fail
    exact bodyPost_ret (v := .agg #[.slice none 0 0, .slice Ap m cp]) (by simp [results, Try.results98, go_sem, y0, y1]) rfl FI.out
  · have g0 : (q == 0) = false := by simp; omega
    have g1 : (q == 1) = false := by simp; omega
    have g2 : (q == 2) = false := by simp; omega
    have g3 : (q == 3) = false := by simp; omega
    have g4 : (q == 4) = false := by simp; omega
    have g5 : (q == 5) = false := by simp; omega
    have g6 : (q == 6) = false := by simp; omega
    have FI := FIN st (by omega) (by omega)
    have z0 := st.c30
    have z1 := st.c31
    have y0 := st.c20
    have y1 := st.c21
    have v0 := st.f2 0
    have v1 := st.f2 1
    clear st
    go_wp2_with fail
    exact bodyPost_ret (v := .agg #[.slice (some ⟨gn, 0, none⟩) k cn, .slice Ap m cp]) (by simp [results, Try.results98, go_sem, y0, y1]) rfl FI.out

end Go.Proofs.Ytllblmndoigdlaa
