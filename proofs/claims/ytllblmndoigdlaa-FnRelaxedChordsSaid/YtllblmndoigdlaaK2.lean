/- draws: networks -/
import Derived.Test.YtllblmndoigdlaaDr9
import Derived.Test.YtllblmndoigdlaaH9
import Derived.Test.YtllblmndoigdlaaMk
namespace Go.Proofs.Ytllblmndoigdlaa
open Go.RowKit

theorem only_put {a w : World} {g b : Nat} (h : a.grownBy w (some g)) (hb : a.heap.size ≤ b) (i : Nat) (v : Value) : a.grownBy (w.setCell ⟨b, i, none⟩ v) (some g) :=
  only_new h (row := some b) (only_set (World.grownBy.refl _ _) i _) (fun k hk => by injection hk; omega)
theorem Src.put {w : World} {g : Nat} {A : Option Addr} {n c : Nat} {bs : List Int} (h : Src w g A n c bs) {b : Nat} (hb : g < b) (hA : 0 < n → ∀ a, A = some a → a.block < b) (i : Nat) (v : Value) : Src (w.setCell ⟨b, i, none⟩ v) g A n c bs :=
  h.other (row := some b) (only_set (World.grownBy.refl _ _) i _) (fun e => by injection e; omega) (fun hn a ha e => by have := hA hn a ha; injection e; omega)

set_option maxRecDepth 100000 in
set_option maxHeartbeats 1000000 in
theorem l01Dec_any (i : Int) (w : World) (h0 : 0 ≤ i) (h9 : i < 10) :
    Calls Try.prog 148 #[.int .i64 i] w fun e w' => ∃ s : ByteArray, e = .returned (.string s) ∧ s.size = 1 ∧ Below w.heap.size w w' := by
  have hconv := run_convert_bytes_arg (P := Try.prog) (w.alloc (.cells #[.int .u8 (48 + i)] 5)) 22 5 Try.underlying22 Try.underlying5 w.heap.size 0 1 1 [48 + i] rfl
    (fun i hi => by
      have : i = 0 := by omega
      subst this
      exact cell_new1 _ _ _) 9 Try.underlying9
  have hsz := strOfNums_size [48 + i]
  generalize strOfNums [48 + i] = sn at hconv hsz
  simp only [List.length_cons, List.length_nil] at hsz
  go_enter Try.func148, Try.ntmps148
  go_wp2_with fail
  go_ret
  exact ⟨_, rfl, hsz, bel1 _ _⟩

set_option maxRecDepth 100000 in
set_option maxHeartbeats 1000000 in
theorem l02DrawNode_any (g : Nat) (A : Option Addr) (n c : Nat) (bs : List Int) (i : Int) (w : World) (h : Src w g A n c bs) (h0 : 0 ≤ i) (h9 : i < 10) :
    Calls Try.prog 143 #[.pointer (some ⟨g, 0, none⟩), .int .i64 i] w fun e w' => ∃ x : Node, e = .returned (.agg #[.string x.name, .int .i64 x.low, .int .i64 x.high]) ∧ x.ok ∧ Src w' g A n c bs ∧ w.grownBy w' (some g) := by
  have hlt := h.lt
  have hA := Lib.hid h.blk
  go_enter Try.func143, Try.ntmps143
  go_wp2_with fail
  refine (l01Next_any _ _ _ _ _ _ _ (h.alloc _)).mono ?_
  rintro e w1 ⟨r, rfl, r0, r1, _, hs1, hg1⟩
  have r1' := r1 (by omega)
  clear r1
  go_wp2_with fail
  refine (l01Dec_any _ _ h0 h9).mono ?_
  rintro e w2 ⟨s, rfl, hs, b2⟩
  have hs2 := hs1.keep b2
  go_wp2_with fail
  refine (l01Next_any _ _ _ _ _ _ _ hs2).mono ?_
  rintro e w3 ⟨q, rfl, q0, q1, _, hs3, hg3⟩
  have q1' := q1 (by omega)
  clear q1
  have gr := only_trans (only_trans hg1 (only_below b2)) hg3
  have bx := (gr.block w.heap.size (by simp) (by intro e; injection e; omega)).trans (heap_alloc_new w _)
  have c0 := cell_blk bx 0
  have c1 := cell_blk bx 1
  have c2 := cell_blk bx 2
  simp at c0 c1 c2
  have f0 := frozen_blk bx 0
  have f1 := frozen_blk bx 1
  have f2 := frozen_blk bx 2
  clear bx
  go_wp2_with fail
  refine bodyPost_ret (v := .agg #[.string (⟨#[110]⟩ ++ s), .int .i64 r, .int .i64 (r + 2000 + q)]) (by simp [results, Try.results143, go_sem, c0, c1, c2]) rfl ⟨⟨⟨#[110]⟩ ++ s, r, r + 2000 + q⟩, rfl, ⟨⟨by show _ ≤ r; omega, by show r ≤ _; omega⟩, ⟨by show _ ≤ r + 2000 + q; omega, by show r + 2000 + q ≤ _; omega⟩, ?_⟩, ?_, ?_⟩
  · show (⟨#[110]⟩ ++ s).size ≤ _
    rw [ByteArray.size_append]; show 1 + s.size ≤ _; omega
  · exact ((hs3.put hlt hA.out _ _).put hlt hA.out _ _).put hlt hA.out _ _
  · exact only_put (only_put (only_put (only_trans (only_alloc (World.grownBy.refl _ _) _) gr) (Nat.le_refl _) _ _) (Nat.le_refl _) _ _) (Nat.le_refl _) _ _

set_option maxRecDepth 100000 in
set_option maxHeartbeats 4000000 in
theorem l02DrawPipe_any (g : Nat) (A : Option Addr) (n c : Nat) (bs : List Int) (i j : Int) (w : World) (h : Src w g A n c bs) (hi : I64 i) (hj : I64 j) :
    Calls Try.prog 130 #[.pointer (some ⟨g, 0, none⟩), .int .i64 i, .int .i64 j] w fun e w' => ∃ x : Pipe, e = .returned (.agg #[.int .i64 x.fr, .int .i64 x.to, .int .i64 x.k, .int .i64 x.vol, .int .i64 x.lim]) ∧ x.ok ∧ Src w' g A n c bs ∧ w.grownBy w' (some g) := by
  have hlt := h.lt
  have hA := Lib.hid h.blk
  go_enter Try.func130, Try.ntmps130
  go_wp2_with fail
  refine (l01Next_any _ _ _ _ _ _ _ (h.alloc _)).mono ?_
  rintro e w1 ⟨r, rfl, r0, r1, _, hs1, hg1⟩
  clear r1
  have key : ∀ (a b : Int), I64 a → I64 b → ∀ (w3 : World) (k v l : Int), I64 k → I64 v → I64 l → Src w3 g A n c bs → (w.alloc (.cells #[.int .i64 0, .int .i64 0, .int .i64 0, .int .i64 0, .int .i64 0] 76)).grownBy w3 (some g) →
      ∃ x : Pipe, (Ending.returned (.agg #[.int .i64 a, .int .i64 b, .int .i64 k, .int .i64 v, .int .i64 l])) = .returned (.agg #[.int .i64 x.fr, .int .i64 x.to, .int .i64 x.k, .int .i64 x.vol, .int .i64 x.lim]) ∧ x.ok ∧
        Src (((((w3.setCell ⟨w.heap.size, 0, none⟩ (.int .i64 a)).setCell ⟨w.heap.size, 1, none⟩ (.int .i64 b)).setCell ⟨w.heap.size, 2, none⟩ (.int .i64 k)).setCell ⟨w.heap.size, 3, none⟩ (.int .i64 v)).setCell ⟨w.heap.size, 4, none⟩ (.int .i64 l)) g A n c bs ∧
        w.grownBy (((((w3.setCell ⟨w.heap.size, 0, none⟩ (.int .i64 a)).setCell ⟨w.heap.size, 1, none⟩ (.int .i64 b)).setCell ⟨w.heap.size, 2, none⟩ (.int .i64 k)).setCell ⟨w.heap.size, 3, none⟩ (.int .i64 v)).setCell ⟨w.heap.size, 4, none⟩ (.int .i64 l)) (some g) := by
    intro a b ha hb w3 k v l hk hv hl hs gr
    exact ⟨⟨a, b, k, v, l⟩, rfl, ⟨ha, hb, hk, hv, hl⟩, ((((hs.put hlt hA.out _ _).put hlt hA.out _ _).put hlt hA.out _ _).put hlt hA.out _ _).put hlt hA.out _ _,
      only_put (only_put (only_put (only_put (only_put (only_trans (only_alloc (World.grownBy.refl _ _) _) gr) (Nat.le_refl _) _ _) (Nat.le_refl _) _ _) (Nat.le_refl _) _ _) (Nat.le_refl _) _ _) (Nat.le_refl _) _ _⟩
  have KEY := Lib.hid key
  clear key
  by_cases hr : r = 0
  · subst hr
    go_wp2_with fail
    refine (l01Next_any _ _ _ _ _ _ _ hs1).mono ?_
    rintro e w2 ⟨q, rfl, q0, q1, _, hs2, hg2⟩
    have q1' := q1 (by omega)
    clear q1
    go_wp2_with fail
    refine (l01Next_any _ _ _ _ _ _ _ hs2).mono ?_
    rintro e w3 ⟨v, rfl, v0, v1, _, hs3, hg3⟩
    have v1' := v1 (by omega)
    clear v1
    go_wp2_with fail
    refine (l01Next_any _ _ _ _ _ _ _ hs3).mono ?_
    rintro e w4 ⟨l, rfl, l0, l1, _, hs4, hg4⟩
    have l1' := l1 (by omega)
    clear l1
    have gr := only_trans (only_trans hg1 hg2) (only_trans hg3 hg4)
    have bx := (gr.block w.heap.size (by simp) (by intro e; injection e; omega)).trans (heap_alloc_new w _)
    have c0 := cell_blk bx 0
    have c1 := cell_blk bx 1
    have c2 := cell_blk bx 2
    have c3 := cell_blk bx 3
    have c4 := cell_blk bx 4
    simp at c0 c1 c2 c3 c4
    have f0 := frozen_blk bx 0
    have f1 := frozen_blk bx 1
    have f2 := frozen_blk bx 2
    have f3 := frozen_blk bx 3
    have f4 := frozen_blk bx 4
    clear bx
    go_wp2_with fail
    exact bodyPost_ret (v := .agg #[.int .i64 j, .int .i64 i, .int .i64 (1 + q), .int .i64 v, .int .i64 (1 + l)]) (by simp [results, Try.results130, go_sem, c0, c1, c2, c3, c4]) rfl
      (KEY.out _ _ hj hi _ _ _ _ ⟨by omega, by omega⟩ ⟨by omega, by omega⟩ ⟨by omega, by omega⟩ hs4 gr)
  · have hrr : (r == 0) = false := by simp [hr]
    clear hr
    go_wp2_with fail
    refine (l01Next_any _ _ _ _ _ _ _ hs1).mono ?_
    rintro e w2 ⟨q, rfl, q0, q1, _, hs2, hg2⟩
    have q1' := q1 (by omega)
    clear q1
    go_wp2_with fail
    refine (l01Next_any _ _ _ _ _ _ _ hs2).mono ?_
    rintro e w3 ⟨v, rfl, v0, v1, _, hs3, hg3⟩
    have v1' := v1 (by omega)
    clear v1
    go_wp2_with fail
    refine (l01Next_any _ _ _ _ _ _ _ hs3).mono ?_
    rintro e w4 ⟨l, rfl, l0, l1, _, hs4, hg4⟩
    have l1' := l1 (by omega)
    clear l1
    have gr := only_trans (only_trans hg1 hg2) (only_trans hg3 hg4)
    have bx := (gr.block w.heap.size (by simp) (by intro e; injection e; omega)).trans (heap_alloc_new w _)
    have c0 := cell_blk bx 0
    have c1 := cell_blk bx 1
    have c2 := cell_blk bx 2
    have c3 := cell_blk bx 3
    have c4 := cell_blk bx 4
    simp at c0 c1 c2 c3 c4
    have f0 := frozen_blk bx 0
    have f1 := frozen_blk bx 1
    have f2 := frozen_blk bx 2
    have f3 := frozen_blk bx 3
    have f4 := frozen_blk bx 4
    clear bx
    go_wp2_with fail
    exact bodyPost_ret (v := .agg #[.int .i64 i, .int .i64 j, .int .i64 (1 + q), .int .i64 v, .int .i64 (1 + l)]) (by simp [results, Try.results130, go_sem, c0, c1, c2, c3, c4]) rfl
      (KEY.out _ _ hi hj _ _ _ _ ⟨by omega, by omega⟩ ⟨by omega, by omega⟩ ⟨by omega, by omega⟩ hs4 gr)

theorem ncells_app (ps qs : List Node) : ncells (ps ++ qs) = ncells ps ++ ncells qs := by simp [ncells]
theorem nodeAt_new (w : World) (p : Node) (T : TypeId) : NodeAt (w.alloc (.cells #[.string p.name, .int .i64 p.low, .int .i64 p.high] T)) w.heap.size 0 p := by
  have g := heap_alloc_new w (.cells #[.string p.name, .int .i64 p.low, .int .i64 p.high] T)
  exact ⟨by rw [cell_blk g]; rfl, by rw [cell_blk g]; rfl, by rw [cell_blk g]; rfl⟩

/-- append(s, x), s a slice of nodes of the call's own -/
theorem law_appendN (w : World) {ops : Array Oper} {rest : List Oper} {o : Oper} {a : Act} {Q : Exit → Act → World → Prop}
    (hg : o.guard = none) (s x : Operand) (hop : o.op = Op.call { callee := Callee.builtin Builtin.append, args := #[s, x], argTypes := #[24, 24] })
    (A : Option Addr) (n c : Nat) (ps : List Node) (hs : a.eval s = .slice A n c) (hown : OwnN 92 w A n c ps)
    (g m' : Nat) (p : Node) (hp : p.ok) (hx : a.eval x = .slice (some ⟨g, 0, none⟩) 1 m') (hc : NodeAt w g 0 p) (hn : n ≤ 1000000)
    (hK : ∀ A' c' w', OwnN 92 w' A' (n + 1) c' (ps ++ [p]) → w.grownBy w' (A.map (·.block)) → (A'.map (·.block) = A.map (·.block) ∨ A'.map (·.block) = some w.heap.size) → wpList Try.prog ops Q rest (a.put o.dst (.slice A' (n + 1) c')) w') :
    wpList Try.prog ops Q (o :: rest) a w := by
  obtain ⟨i, hi, h1, h2, h3⟩ := info_parts info_node
  have hcells : ∀ j u, (ncells [p])[j]? = some u → w.cell? ((⟨g, 0, none⟩ : Addr).add j) = some u := by
    intro j u hu
    obtain ⟨c0, c1, c2⟩ := hc
    match j with
    | 0 => simp [ncells] at hu; subst hu; exact c0
    | 1 => simp [ncells] at hu; subst hu; exact c1
    | 2 => simp [ncells] at hu; subst hu; exact c2
    | j + 3 => simp [ncells] at hu
  obtain ⟨v', w', hrun, k2, k3, _, k5⟩ := run_append_own_at (P := Try.prog) w 0 24 o.type 92 i _ 3 32 Try.underlying24 hi h1 h2 h3 rfl (by omega) _ n _ hown.row ⟨g, 0, none⟩ 1 m' (ncells [p]) rfl hcells (by simp [ncells, Value.oneCell']) (by unfold maxLen; omega) (by omega) (Nat.zero_le _)
  have hv' : ∃ A' c', v' = .slice A' (n + 1) c' := by
    rcases k2.2 with ⟨h, h'⟩ | ⟨g', cap, cur, h, _⟩
    · omega
    · exact ⟨_, _, h⟩
  obtain ⟨A', c', rfl⟩ := hv'
  have hb : ∀ (X : Option Addr) (p q : Nat), (Value.slice X p q).ownBlock = X.map (·.block) := by intro X p q; cases X <;> rfl
  rw [hb] at k3
  rw [hb, hb] at k5
  refine wpList_plain hg fun K hK' => ?_
  unfold Oper.wp
  simp only [execOp, hop, resolve, invoke, builtin, Sem.run_bind, Sem.run_pure, Result.andThen_ok, List.map_toArray, List.map_cons, List.map_nil, hs, hx, hrun]
  refine hK' _ _ (hK A' c' w' ⟨by rw [ncells_app]; exact k2, fun y hy => ?_⟩ k3 k5)
  rcases List.mem_append.1 hy with hy | hy
  · exact hown.ok y hy
  · rw [List.mem_singleton.1 hy]; exact hp
theorem ownN_lit0 (w : World) : OwnN 92 (w.alloc (.cells #[] 92)) (some ⟨w.heap.size, 0, none⟩) 0 0 [] :=
  ⟨⟨by simp [ncells], .inr ⟨w.heap.size, 0, #[], rfl, Nat.zero_le _, heap_alloc_new w _, Nat.le_refl _, Nat.zero_le _, rfl, rfl⟩⟩, by simp⟩

/-- a network of the call's own, its rows from block b0 on -/
structure DN (b0 : Nat) (w : World) (A : Option Addr) (n c : Nat) (B : Option Addr) (m d : Nat) (ns : List Node) (ps : List Pipe) : Prop where
  on : OwnN 92 w A n c ns
  op : OwnP 76 w B m d ps
  fn : Fresh b0 A
  fp : Fresh b0 B
  ne : ∀ a b, A = some a → B = some b → a.block ≠ b.block
  np : B ≠ none

section
variable {b0 : Nat} {w w' : World} {A B : Option Addr} {n c m d : Nat} {ns : List Node} {ps : List Pipe}
theorem DN.keep (h : DN b0 w A n c B m d ns ps) {row : Option Nat} (hg : w.grownBy w' row) (hr : ∀ i, row = some i → i < b0) : DN b0 w' A n c B m d ns ps :=
  ⟨h.on.keep fun a ha => hg.block _ (h.on.lt a ha) (fun e => by have := hr _ e.symm; have := h.fn a ha; omega), h.op.keep fun a ha => hg.block _ (h.op.lt a ha) (fun e => by have := hr _ e.symm; have := h.fp a ha; omega), h.fn, h.fp, h.ne, h.np⟩
theorem DN.lone {g : Nat} (h : DN b0 w A n c B m d ns ps) (hg : w.grownBy w' (some g)) (hgb : g < b0) : DN b0 w' A n c B m d ns ps := h.keep hg (fun i hi => by injection hi; omega)
theorem DN.later (h : DN b0 w A n c B m d ns ps) (hb : Below w.heap.size w w') : DN b0 w' A n c B m d ns ps := ⟨h.on.later hb, h.op.later hb, h.fn, h.fp, h.ne, h.np⟩
theorem DN.alloc (h : DN b0 w A n c B m d ns ps) (o : Obj) : DN b0 (w.alloc o) A n c B m d ns ps := h.later (bel1 _ _)
theorem DN.net (h : DN b0 w A n c B m d ns ps) : NetAt w A n c B m d ⟨ns, ps⟩ := ⟨h.on.nodes, h.op.pipes⟩
theorem DN.appN (h : DN b0 w A n c B m d ns ps) {A' : Option Addr} {n' c' : Nat} {ns' : List Node} (ho : OwnN 92 w' A' n' c' ns') (hg : w.grownBy w' (A.map (·.block))) (hb : A'.map (·.block) = A.map (·.block) ∨ A'.map (·.block) = some w.heap.size) (hs : b0 ≤ w.heap.size) : DN b0 w' A' n' c' B m d ns' ps := by
  refine ⟨ho, h.op.keep fun a ha => hg.block _ (h.op.lt a ha) (fun e => ?_), fresh_app h.fn hs hb, h.fp, fun a b ha hb' => ?_, h.np⟩
  · cases hA : A with
    | none => rw [hA] at e; cases e
    | some x => rw [hA] at e; injection e with e; exact h.ne x a hA ha e.symm
  · subst ha
    have hl := h.op.lt b hb'
    rcases hb with hb | hb
    · cases hA : A with
      | none => rw [hA] at hb; cases hb
      | some x => rw [hA] at hb; injection hb with hb; have hb : a.block = x.block := hb; rw [hb]; exact h.ne x b hA hb'
    · injection hb with hb; have hb : a.block = _ := hb; omega
theorem DN.appP (h : DN b0 w A n c B m d ns ps) {B' : Option Addr} {m' d' : Nat} {ps' : List Pipe} (ho : OwnP 76 w' B' m' d' ps') (hg : w.grownBy w' (B.map (·.block))) (hb : B'.map (·.block) = B.map (·.block) ∨ B'.map (·.block) = some w.heap.size) (hs : b0 ≤ w.heap.size) : DN b0 w' A n c B' m' d' ns ps' := by
  refine ⟨h.on.keep fun a ha => hg.block _ (h.on.lt a ha) (fun e => ?_), ho, h.fn, fresh_app h.fp hs hb, fun a b ha hb' => ?_, fun e => ?_⟩
  · cases hB : B with
    | none => rw [hB] at e; cases e
    | some x => rw [hB] at e; injection e with e; exact h.ne a x ha hB e
  · subst hb'
    have hl := h.on.lt a ha
    rcases hb with hb | hb
    · cases hB : B with
      | none => rw [hB] at hb; cases hb
      | some x => rw [hB] at hb; injection hb with hb; have hb : b.block = x.block := hb; rw [hb]; exact h.ne a x ha hB
    · injection hb with hb; have hb : b.block = _ := hb; omega
  · subst e
    rcases hb with hb | hb
    · cases hB : B with
      | none => exact h.np hB
      | some x => rw [hB] at hb; cases hb
    · cases hb

end

/-- what a draw of a network gives -/
def Drawn (w : World) (g : Nat) (A : Option Addr) (n c : Nat) (bs : List Int) (k0 k1 : Nat) (e : Ending) (w' : World) : Prop :=
  ∃ An k cn Ap m cp ns ps, e = .returned (.agg #[.slice An k cn, .slice Ap m cp]) ∧ DN w.heap.size w' An k cn Ap m cp ns ps ∧ k0 ≤ k ∧ k ≤ 7 ∧ m ≤ k1 ∧ Src w' g A n c bs ∧ w.grownBy w' (some g)

set_option maxRecDepth 100000 in
set_option maxHeartbeats 4000000 in
theorem l02Draw_any (g : Nat) (A : Option Addr) (n c : Nat) (bs : List Int) (w : World) (h : Src w g A n c bs) :
    Calls Try.prog 129 #[.pointer (some ⟨g, 0, none⟩)] w (Drawn w g A n c bs 1 10) := by
  have hlt := h.lt
  have hA := Lib.hid h.blk
  have hA1 : Hid (0 < n → ∀ a, A = some a → a.block < w.heap.size + 1) := Lib.hid fun hn a ha => by have := hA.out hn a ha; omega
  go_enter Try.func129, Try.ntmps129
  go_wp2_with fail
  refine (l01Next_any _ _ _ _ _ _ _ (h.alloc _)).mono ?_
  rintro e w1 ⟨r, rfl, r0, r1, _, hs1, hg1⟩
  have r1' := r1 (by omega)
  clear r1
  have hsz1 := hg1.size
  simp only [World.size_alloc] at hsz1
  have HG1 : Hid ((w.alloc (.cells #[.slice none 0 0, .slice none 0 0] 27)).grownBy ((w1.alloc (.cells #[] 92)).alloc (.cells #[] 76)) (some g)) := Lib.hid (only_alloc (only_alloc hg1 _) _)
  have HS1 : Hid (Src ((w1.alloc (.cells #[] 92)).alloc (.cells #[] 76)) g A n c bs) := Lib.hid ((hs1.alloc _).alloc _)
  have HD1 : Hid (DN (w.heap.size + 1) ((w1.alloc (.cells #[] 92)).alloc (.cells #[] 76)) (some ⟨w1.heap.size, 0, none⟩) 0 0 (some ⟨w1.heap.size + 1, 0, none⟩) 0 0 [] []) := Lib.hid ⟨(ownN_lit0 w1).later (bel1 _ _), by have := ownP_lit0 (w1.alloc (.cells #[] 92)); simpa using this,
    (fun a ha => by injection ha with ha; subst ha; exact hsz1), (fun a ha => by injection ha with ha; subst ha; show _ ≤ w1.heap.size + 1; omega), (fun a b ha hb => by injection ha with ha; injection hb with hb; subst ha; subst hb; show w1.heap.size ≠ w1.heap.size + 1; omega), (by simp)⟩
  clear hs1 hg1
  obtain ⟨R, rfl⟩ := Int.eq_ofNat_of_zero_le r0
  go_wp2_with fail
  go_loopw [4, 5, 6] (fun o p i wr => ∃ (k m cn cp : Nat) (An Ap : Option Addr) (ns : List Node) (ps : List Pipe), o = .slice An k cn ∧ p = .slice Ap m cp ∧ i = .int .i64 (k : Int) ∧ k ≤ 1 + R ∧ m ≤ k ∧ DN (w.heap.size + 1) wr An k cn Ap m cp ns ps ∧ Src wr g A n c bs ∧ (w.alloc (.cells #[.slice none 0 0, .slice none 0 0] 27)).grownBy wr (some g)) (fun _ _ i _ => 1 + R - (intOf i).toNat)
  case atStart => exact ⟨0, 0, 0, 0, _, _, _, _, rfl, rfl, rfl, by omega, by omega, by simpa using HD1.out, HS1.out, HG1.out⟩
  case round =>
    obtain ⟨k, m, cn, cp, An, Ap, ns, ps, rfl, rfl, rfl, hk, hm, hd, hs, hgr⟩ := hrel
    clear HD1 HS1 HG1
    have hsz := hgr.size
    simp only [World.size_alloc] at hsz
    by_cases hkR : k < 1 + R
    · have hki : (k : Int) < 1 + (R : Int) := by omega
      go_wp2_with fail
      refine (l02DrawNode_any _ _ _ _ _ _ _ hs (by omega) (by omega)).mono ?_
      rintro e w2 ⟨x, rfl, hx, hs2, hg2⟩
      have hsz2 := hg2.size
      have hd2 := (hd.lone hg2 (by omega)).alloc (.cells #[.string x.name, .int .i64 x.low, .int .i64 x.high] 92)
      have hn2 := nodeAt_new w2 x 92
      by_cases hk0 : 0 < k
      · have hk0i : (0 : Int) < (k : Int) := by omega
        go_wp2_with (at_builtin; refine law_appendN _ rfl _ _ rfl An k cn ns rfl hd2.on _ _ x hx rfl hn2 (by omega) ?_; intro A3 c3 w3 ho3 hg3 hb3)
        have hd3 := hd2.appN ho3 hg3 hb3 (by simp; omega)
        have hs3 : Src w3 g A n c bs := (hs2.alloc _).new hg3 hd.fn (by omega) hA1.out
        have hgr3 := only_new (only_alloc (only_trans hgr hg2) _) hg3 (fun i hi => by have := fresh_row hd.fn i hi; simpa using this)
        have hsz3 := hgr3.size
        simp only [World.size_alloc] at hsz3
        clear hd2 hn2 ho3 hg3 hb3 hs2 hg2 hgr hs hd
        refine (l01Next_any _ _ _ _ _ _ _ hs3).mono ?_
        rintro e w4 ⟨q, rfl, q0, q1, _, hs4, hg4⟩
        clear q1
        have hd4 := hd3.lone hg4 (by omega)
        have hgr4 := only_trans hgr3 hg4
        by_cases hq : 0 < q
        · go_wp2_with fail
          refine (l01Next_any _ _ _ _ _ _ _ hs4).mono ?_
          rintro e w5 ⟨t, rfl, t0, t1, t2, hs5, hg5⟩
          have t1' : t ≤ 10 := by
            by_cases h1 : 1 < (k : Int)
            · have := t1 h1; omega
            · have := t2 (by omega); omega
          clear t1 t2
          go_wp2_with fail
          refine (l02DrawPipe_any _ _ _ _ _ _ _ _ hs5 ⟨by omega, by omega⟩ ⟨by omega, by omega⟩).mono ?_
          rintro e w6 ⟨y, rfl, hy, hs6, hg6⟩
          have hd6 := ((hd4.lone hg5 (by omega)).lone hg6 (by omega)).alloc (.cells #[.int .i64 y.fr, .int .i64 y.to, .int .i64 y.k, .int .i64 y.vol, .int .i64 y.lim] 76)
          have hgr6 := only_alloc (only_trans hgr4 (only_trans hg5 hg6)) (.cells #[.int .i64 y.fr, .int .i64 y.to, .int .i64 y.k, .int .i64 y.vol, .int .i64 y.lim] 76)
          have hsz6 := hgr6.size
          simp only [World.size_alloc] at hsz6
          have hp6 := pipeAt_new w6 y 76
          go_wp2_with (at_builtin; refine law_appendP _ rfl _ _ rfl Ap m cp ps rfl hd6.op _ _ y hy rfl hp6 (by omega) ?_; intro A7 c7 w7 ho7 hg7 hb7)
          have hd7 := hd6.appP ho7 hg7 hb7 (by simp; omega)
          have hs7 : Src w7 g A n c bs := (hs6.alloc _).new hg7 hd6.fp (by omega) hA1.out
          have hgr7 := only_new hgr6 hg7 (fun i hi => by have := fresh_row hd6.fp i hi; simpa using this)
          clear hd6 hgr6 ho7 hg7 hb7 hp6
          go_roundw
          case rel => exact ⟨k + 1, m + 1, c3, c7, A3, A7, _, _, rfl, rfl, by go_num, by omega, by omega, hd7, hs7, hgr7⟩
          case measure => simp [intOf]; omega
        · go_wp2_with fail
          go_roundw
          case rel => exact ⟨k + 1, m, c3, cp, A3, Ap, _, _, rfl, rfl, by go_num, by omega, by omega, hd4, hs4, hgr4⟩
          case measure => simp [intOf]; omega
      · have hk0i : ¬ (0 : Int) < (k : Int) := by omega
        go_wp2_with (at_builtin; refine law_appendN _ rfl _ _ rfl An k cn ns rfl hd2.on _ _ x hx rfl hn2 (by omega) ?_; intro A3 c3 w3 ho3 hg3 hb3)
        have hd3 := hd2.appN ho3 hg3 hb3 (by simp; omega)
        have hs3 : Src w3 g A n c bs := (hs2.alloc _).new hg3 hd.fn (by omega) hA1.out
        have hgr3 := only_new (only_alloc (only_trans hgr hg2) _) hg3 (fun i hi => by have := fresh_row hd.fn i hi; simpa using this)
        have hsz3 := hgr3.size
        simp only [World.size_alloc] at hsz3
        clear hd2 hn2 ho3 hg3 hb3 hs2 hg2 hgr hs hd
        go_roundw
        case rel => exact ⟨k + 1, m, c3, cp, A3, Ap, _, _, rfl, rfl, by go_num, by omega, by omega, hd3, hs3, hgr3⟩
        case measure => simp [intOf]; omega
    · have hki : ¬ (k : Int) < 1 + (R : Int) := by omega
      go_wp2_with fail
      refine (l01Next_any _ _ _ _ _ _ _ hs).mono ?_
      rintro e w2 ⟨q, rfl, q0, q1, _, hs2, hg2⟩
      have q1' := q1 (by omega)
      clear q1
      have hd2 := hd.lone hg2 (by omega)
      have hgr2 := only_trans hgr hg2
      clear hd hgr hs hg2
      obtain ⟨Q, rfl⟩ := Int.eq_ofNat_of_zero_le q0
      go_wp2_with fail
      go_loopw [5, 7] (fun p i wr => ∃ (j m cp : Nat) (Ap : Option Addr) (ps : List Pipe), p = .slice Ap m cp ∧ i = .int .i64 (j : Int) ∧ m + j ≤ 9 ∧ DN (w.heap.size + 1) wr An k cn Ap m cp ns ps ∧ Src wr g A n c bs ∧ (w.alloc (.cells #[.slice none 0 0, .slice none 0 0] 27)).grownBy wr (some g)) (fun _ i _ => (intOf i).toNat)
      case atStart => exact ⟨Q, m, cp, Ap, ps, rfl, rfl, by omega, hd2, hs2, hgr2⟩
      case round =>
        clear hd2 hs2 hgr2
        obtain ⟨j, m, cp, Ap, ps, rfl, rfl, hj, hd, hs, hgr⟩ := hrel
        have hsz := hgr.size
        simp only [World.size_alloc] at hsz
        by_cases hj0 : 0 < j ∧ 1 < 1 + R
        · have hj1 : (0 : Int) < (j : Int) := by omega
          have hR1 : (1 : Int) < 1 + (R : Int) := by omega
          go_wp2_with fail
          refine (l01Next_any _ _ _ _ _ _ _ hs).mono ?_
          rintro e w3 ⟨a, rfl, a0, a1, _, hs3, hg3⟩
          have a1' := a1 hR1
          clear a1
          go_wp2_with fail
          refine (l01Next_any _ _ _ _ _ _ _ hs3).mono ?_
          rintro e w4 ⟨b, rfl, b0, b1, b2, hs4, hg4⟩
          have b1' : b ≤ 10 := by
            by_cases h1 : 1 < 1 + (R : Int) - 1
            · have := b1 h1; omega
            · have := b2 (by omega); omega
          clear b1 b2
          have hm0 : 0 ≤ (a + 1 + b) % (1 + (R : Int)) := Int.emod_nonneg _ (by omega)
          have hm1 : (a + 1 + b) % (1 + (R : Int)) < 1 + (R : Int) := Int.emod_lt_of_pos _ (by omega)
          have hne : (1 + (R : Int) == 0) = false := by simp; omega
          go_wp2_with fail
          refine (l02DrawPipe_any _ _ _ _ _ _ _ _ hs4 ⟨by omega, by omega⟩ ⟨by omega, by omega⟩).mono ?_
          rintro e w6 ⟨y, rfl, hy, hs6, hg6⟩
          have hd6 := (((hd.lone hg3 (by omega)).lone hg4 (by omega)).lone hg6 (by omega)).alloc (.cells #[.int .i64 y.fr, .int .i64 y.to, .int .i64 y.k, .int .i64 y.vol, .int .i64 y.lim] 76)
          have hgr6 := only_alloc (only_trans hgr (only_trans hg3 (only_trans hg4 hg6))) (.cells #[.int .i64 y.fr, .int .i64 y.to, .int .i64 y.k, .int .i64 y.vol, .int .i64 y.lim] 76)
          have hsz6 := hgr6.size
          simp only [World.size_alloc] at hsz6
          have hp6 := pipeAt_new w6 y 76
          go_wp2_with (at_builtin; refine law_appendP _ rfl _ _ rfl Ap m cp ps rfl hd6.op _ _ y hy rfl hp6 (by omega) ?_; intro A7 c7 w7 ho7 hg7 hb7)
          have hd7 := hd6.appP ho7 hg7 hb7 (by simp; omega)
          have hs7 : Src w7 g A n c bs := (hs6.alloc _).new hg7 hd6.fp (by omega) hA1.out
          have hgr7 := only_new hgr6 hg7 (fun i hi => by have := fresh_row hd6.fp i hi; simpa using this)
          clear hd6 hgr6 ho7 hg7 hb7 hp6
          go_roundw
          case rel => exact ⟨j - 1, m + 1, c7, A7, _, rfl, by go_num, by omega, hd7, hs7, hgr7⟩
          case measure => simp [intOf]; omega
        · have bx := (hgr.block w.heap.size (by simp) (by intro e; injection e; omega)).trans (heap_alloc_new w _)
          have c0 := cell_blk bx 0
          have c1 := cell_blk bx 1
          simp at c0 c1
          have f0 := frozen_blk bx 0
          have f1 := frozen_blk bx 1
          clear bx
          have fin : Drawn w g A n c bs 1 10 (.returned (.agg #[.slice An k cn, .slice Ap m cp])) ((wr.setCell ⟨w.heap.size, 0, none⟩ (.slice An k cn)).setCell ⟨w.heap.size, 1, none⟩ (.slice Ap m cp)) := by
            refine ⟨An, k, cn, Ap, m, cp, ns, ps, rfl, ?_, by omega, by omega, by omega, (hs.put hlt hA.out _ _).put hlt hA.out _ _, only_put (only_put (only_trans (only_alloc (World.grownBy.refl _ _) _) hgr) (Nat.le_refl _) _ _) (Nat.le_refl _) _ _⟩
            have d1 := hd.lone (only_set (World.grownBy.refl wr (some w.heap.size)) 0 (.slice An k cn)) (by omega)
            have d2 := d1.lone (only_set (World.grownBy.refl _ (some w.heap.size)) 1 (.slice Ap m cp)) (by omega)
            exact ⟨d2.on, d2.op, fun a ha => by have := d2.fn a ha; omega, fun a ha => by have := d2.fp a ha; omega, d2.ne, d2.np⟩
          have FIN := Lib.hid fin
          clear fin hd hs hgr
          by_cases hj1 : 0 < j
          · have hj1' : (0 : Int) < (j : Int) := by omega
            have hR1 : ¬ (1 : Int) < 1 + (R : Int) := by omega
            go_wp2_with fail
            exact bodyPost_ret (v := .agg #[.slice An k cn, .slice Ap m cp]) (by simp [results, Try.results129, go_sem, c0, c1]) rfl FIN.out
          · have hj1' : ¬ (0 : Int) < (j : Int) := by omega
            go_wp2_with fail
            exact bodyPost_ret (v := .agg #[.slice An k cn, .slice Ap m cp]) (by simp [results, Try.results129, go_sem, c0, c1]) rfl FIN.out

end Go.Proofs.Ytllblmndoigdlaa

/- draws: indices, flows -/
namespace Go.Proofs.Ytllblmndoigdlaa
open Go.RowKit

set_option maxRecDepth 100000 in
set_option maxHeartbeats 1000000 in
theorem l02DrawIndex_any (g : Nat) (A : Option Addr) (n c : Nat) (bs : List Int) (m : Nat) (w : World) (h : Src w g A n c bs) (hm : m ≤ 1000) :
    Calls Try.prog 100 #[.pointer (some ⟨g, 0, none⟩), .int .i64 (m : Int)] w fun e w' => ∃ r : Int, e = .returned (.int .i64 r) ∧ I64 r ∧ Src w' g A n c bs ∧ w.grownBy w' (some g) := by
  go_enter Try.func100, Try.ntmps100
  go_wp2_with fail
  refine (l01Next_any _ _ _ _ _ _ _ h).mono ?_
  rintro e w1 ⟨r, rfl, r0, r1, r2, hs1, hg1⟩
  have r1' : r ≤ 1000 := by
    by_cases h1 : 1 < (m : Int)
    · have := r1 h1; omega
    · have := r2 (by omega); omega
  clear r1 r2
  go_wp2_with fail
  refine (l01Next_any _ _ _ _ _ _ _ hs1).mono ?_
  rintro e w2 ⟨q, rfl, q0, q1, _, hs2, hg2⟩
  have q1' := q1 (by omega)
  clear q1
  have hq : q / 15 = 0 ∨ q / 15 = 1 := by omega
  go_wp2_with fail
  refine (l01Next_any _ _ _ _ _ _ _ hs2).mono ?_
  rintro e w3 ⟨t, rfl, t0, t1, _, hs3, hg3⟩
  have t1' := t1 (by omega)
  clear t1
  go_wp2_with fail
  go_ret
  exact ⟨_, rfl, wrap64_i64 _, hs3, only_trans hg1 (only_trans hg2 hg3)⟩

set_option maxRecDepth 100000 in
set_option maxHeartbeats 1000000 in
theorem l02Has_any (A : Option Addr) (n c : Nat) (zs : List Int) (x : Int) (w : World) (h : Ints w A n c zs) :
    Calls Try.prog 104 #[.slice A n c, .int .i64 x] w fun e w' => e = .returned (.bool (decide (x ∈ zs))) ∧ w = w' := by
  have hlen := h.len
  have hle := h.le
  have hcap := h.cap
  go_enter Try.func104, Try.ntmps104
  go_wp2_with fail
  go_loopw [5] (fun i wr => ∃ k : Nat, k ≤ n ∧ i = .int .i64 k ∧ Hid (∀ j, j < k → ig zs j ≠ x) ∧ w = wr) (fun i _ => n - (intOf i).toNat)
  case atStart => exact ⟨0, by omega, rfl, Lib.hid fun j hj => absurd hj (by omega), rfl⟩
  case round =>
    obtain ⟨k, hk, rfl, hno, rfl⟩ := hrel
    by_cases hlt : k < n
    · obtain ⟨b, off, rfl, hbl, hc⟩ := h.cells (by omega)
      have hck := hc k hlt
      clear hc
      have hki : (k : Int) < (n : Int) := by omega
      by_cases he : ig zs k = x
      · have hb : (ig zs k == x) = true := by simp [he]
        have hin : x ∈ zs := by rw [← he, ig_lt (by omega)]; exact List.getElem_mem _
        have HD : Hid (decide (x ∈ zs) = true) := Lib.hid (by simp [hin])
        clear he
        go_wp2_with fail
        go_ret
        exact ⟨by rw [HD.out]; rfl, rfl⟩
      · have hb : (ig zs k == x) = false := by simp [he]
        have HN : Hid (∀ j, j < k + 1 → ig zs j ≠ x) := Lib.hid fun j hj => by
          rcases Nat.lt_or_ge j k with h | h
          · exact hno.out j h
          · have : j = k := by omega
            subst this; exact he
        clear he
        go_wp2_with fail
        go_roundw
        case rel => exact ⟨k + 1, by omega, by go_num, HN, by trivial⟩
        case measure => simp [intOf]; omega
    · have HD : Hid (decide (x ∈ zs) = false) := Lib.hid (by
        simp only [decide_eq_false_iff_not]
        intro hin
        obtain ⟨j, hj, rfl⟩ := List.mem_iff_getElem.1 hin
        exact hno.out j (by omega) (ig_lt hj))
      have hki : ¬ (k : Int) < (n : Int) := by omega
      go_wp2_with fail
      go_ret
      exact ⟨by rw [HD.out]; rfl, rfl⟩

theorem Gr.choK_succ (g : Gr) (k : Nat) : g.choK (k + 1) = if g.Fb k then g.choK k else g.choK k ++ [k] := by
  unfold Gr.choK
  rw [List.range_succ, List.filter_append]
  cases h : g.Fb k <;> simp [h]
theorem Gr.choK_len (g : Gr) (k : Nat) : (g.choK k).length ≤ k := by
  have := List.length_filter_le (fun i => !g.Fb i) (List.range k)
  simpa [Gr.choK] using this
theorem mem_nl {l : List Nat} {k : Nat} : (k : Int) ∈ nl l ↔ k ∈ l := by
  unfold nl
  rw [List.mem_map]
  constructor
  · rintro ⟨a, ha, e⟩
    have : a = k := by have e' : (a : Int) = k := e; omega
    subst this; exact ha
  · intro h; exact ⟨k, h, rfl⟩

set_option maxRecDepth 100000 in
set_option maxHeartbeats 2000000 in
theorem l05Chords_any (A : Option Addr) (n c : Nat) (B : Option Addr) (m d : Nat) (net : Net) (w : World) (h : NetAt w A n c B m d net) (ok : NetOK net) :
    Calls Try.prog 48 #[.agg #[.slice A n c, .slice B m d]] w fun e w' => ∃ Af cf, e = .returned (.slice Af (netG net).chords.length cf) ∧ Own w' Af (netG net).chords.length cf (nl (netG net).chords) ∧ Fresh w.heap.size Af ∧ Below w.heap.size w w' := by
  have hm40 : m ≤ 40 := by have := ok.m40; have := h.pipes.len; omega
  have HMm : Hid ((netG net).m = m) := Lib.hid h.pipes.len
  have hple := h.pipes.le
  have hpcap := h.pipes.cap
  have HB := Lib.hid (bel1 w (.cells #[.slice A n c, .slice B m d] 27))
  obtain ⟨W, hW⟩ : ∃ W, W = (w.alloc (.cells #[.slice A n c, .slice B m d] 27)) := ⟨_, rfl⟩
  have bxW : BX W w.heap.size A n c B m d := ⟨by rw [hW]; exact heap_alloc_new w _⟩
  go_enter Try.func48, Try.ntmps48
  go_wp2_with fail
  rw [← hW] at HB ⊢
  clear hW
  refine (l04Forest_any _ _ _ _ _ _ net _ (h.later HB.out) ok).mono ?_
  rintro e w1 ⟨Af, cf, rfl, of, ff, b1⟩
  have o0 := own_lit0 w1
  go_wp2_with fail
  go_loopw [4, 5] (fun o i wr => ∃ (k : Nat) (Ac : Option Addr) (cc L : Nat), k ≤ m ∧ o = .slice Ac L cc ∧ i = .int .i64 k ∧ L = ((netG net).choK k).length ∧ Own wr Ac L cc (nl ((netG net).choK k)) ∧ Fresh w1.heap.size Ac ∧ Below w1.heap.size w1 wr) (fun _ i _ => m - (intOf i).toNat)
  case atStart => exact ⟨0, some ⟨w1.heap.size, 0, none⟩, 0, 0, by omega, rfl, rfl, rfl, o0, (fun a ha => by injection ha with ha; subst ha; exact Nat.le_refl _), bel1 _ _⟩
  case round =>
    obtain ⟨k, Ac, cc, L, hk, rfl, rfl, hL, oc, fc, hb⟩ := hrel
    clear o0
    have hbW := below_step b1 hb
    have x1 := (bxW.step hbW).c1
    have hL40 : L ≤ 40 := by have := Gr.choK_len (netG net) k; omega
    have HLK := Lib.hid hL
    have HS := Lib.hid (Gr.choK_succ (netG net) k)
    clear hL
    by_cases hlt : k < m
    · have hki : (k : Int) < (m : Int) := by omega
      have HF : Hid (decide ((k : Int) ∈ nl (netG net).forest) = (netG net).Fb k) := Lib.hid (by
        rw [Bool.eq_iff_iff, decide_eq_true_eq, mem_nl, Gr.mem_forest, Gr.Fb_iff, HMm.out]
        exact ⟨fun h => h.2, fun h => ⟨hlt, h⟩⟩)
      go_wp2_with fail
      refine (l02Has_any _ _ _ _ _ _ (of.later hb).ints).mono ?_
      rintro e w2 ⟨rfl, rfl⟩
      rw [HF.out]
      cases hfb : (netG net).Fb k
      · rw [hfb] at HS
        have oc2 := oc.later (bel1 _ (.cells #[.int .i64 (k : Int)] 2))
        go_wp2_with (at_builtin; refine law_append _ rfl _ _ rfl Ac L cc _ rfl oc2 _ _ (k : Int) ⟨by omega, by omega⟩ rfl (cell_new1 _ _ _) (by omega) ?_; intro A3 c3 w3 ho3 hg3 hb3)
        go_roundw
        case rel => exact ⟨k + 1, A3, c3, L + 1, by omega, rfl, by go_num, by rw [HS.out, HLK.out]; simp, by rw [HS.out]; simpa [nl_snoc] using ho3, fresh_app' fc (by have := hb.size; simpa using Nat.le_succ_of_le this) hb3, below_app (hb.alloc hb.size _) fc hg3⟩
        case measure => simp [intOf]; omega
      · rw [hfb] at HS
        go_wp2_with fail
        go_roundw
        case rel => exact ⟨k + 1, Ac, cc, L, by omega, rfl, by go_num, by rw [HS.out, HLK.out]; simp, by rw [HS.out]; simpa using oc, fc, hb⟩
        case measure => simp [intOf]; omega
    · have hki : ¬ (k : Int) < (m : Int) := by omega
      have hkm : k = m := by omega
      have HC : Hid ((netG net).chords = (netG net).choK k) := Lib.hid (by unfold Gr.chords; rw [HMm.out, hkm])
      clear hkm
      go_wp2_with fail
      go_ret
      rw [HC.out, ← HLK.out]
      exact ⟨Ac, cc, rfl, oc, fun a ha => by have := fc a ha; have := b1.size; have := HB.out.size; omega, below_step HB.out hbW⟩

end Go.Proofs.Ytllblmndoigdlaa
