/- slices of bool of the call's own -/
import Derived.Test.YtllblmndoigdlaaH1
import Derived.Test.YtllblmndoigdlaaTrk
namespace Go.Proofs.Ytllblmndoigdlaa
open Go.RowKit

def bg (bs : List Bool) (j : Nat) : Bool := bs.getD j false
theorem bg_get {bs : List Bool} {j : Nat} (h : j < bs.length) : bs[j]? = some (bg bs j) := by
  unfold bg; rw [List.getD_eq_getElem?_getD, List.getElem?_eq_getElem h]; rfl
structure OwnB (w : World) (A : Option Addr) (n c : Nat) (bs : List Bool) : Prop where
  row : w.ownsRow 0 4 1 (.slice A n c) n (bs.map Value.bool)

section
variable {w w' : World} {A : Option Addr} {n c : Nat} {bs : List Bool}
theorem OwnB.len (h : OwnB w A n c bs) : bs.length = n := by have := h.row.1; simpa using this
theorem OwnB.lt (h : OwnB w A n c bs) : ∀ a, A = some a → a.block < w.heap.size := row_lt h.row
theorem OwnB.keep (h : OwnB w A n c bs) (hk : ∀ a, A = some a → w'.heap[a.block]? = w.heap[a.block]?) : OwnB w' A n c bs := ⟨row_keep h.row hk⟩
theorem OwnB.later (h : OwnB w A n c bs) (hb : Below w.heap.size w w') : OwnB w' A n c bs := h.keep fun a ha => hb.block _ (h.lt a ha)
theorem OwnB.far (h : OwnB w A n c bs) {p : Addr} (hp : ∀ a, A = some a → a.block ≠ p.block) (u : Value) : OwnB (w.setCell p u) A n c bs :=
  h.keep fun a ha => Below.heap_setCell w p u _ (hp a ha)
theorem OwnB.store {g : Nat} (h : OwnB w (some ⟨g, 0, none⟩) n c bs) (j : Nat) (z : Bool) : OwnB (w.setCell ⟨g, j, none⟩ (.bool z)) (some ⟨g, 0, none⟩) n c (bs.set j z) := by
  refine ⟨?_⟩
  rw [List.map_set]; exact (h.row.stored j _).1
theorem OwnB.cell {g : Nat} (h : OwnB w (some ⟨g, 0, none⟩) n c bs) {j : Nat} (hj : j < n) : w.cell? ⟨g, j, none⟩ = some (.bool (bg bs j)) := by
  have hl := h.len
  rw [h.row.cellAt j (by omega), List.getElem?_map, bg_get (by omega)]; rfl
theorem OwnB.unfrozen {g : Nat} (h : OwnB w (some ⟨g, 0, none⟩) n c bs) (j : Nat) : w.frozen? ⟨g, j, none⟩ = false := h.row.frozenAt j
theorem OwnB.aside {A E : Option Addr} (h : OwnB w E n c bs) (hp : Apart A E) (hg : w.grownBy w' (A.map (·.block))) : OwnB w' E n c bs :=
  h.keep fun a ha => hg.block _ (h.lt a ha) (fun e => by
    cases A with
    | none => cases e
    | some x => simp at e; exact hp x a rfl ha e.symm)

end

theorem info_bool : (Try.prog.info? 4).map (fun i => (i.zero, i.size, i.bytes)) = some (some (.bool false), 1, 1) := by kernel_rfl

/-- make([]bool, n) -/
theorem law_makeB (w : World) {ops : Array Oper} {rest : List Oper} {o : Oper} {a : Act} {Q : Exit → Act → World → Prop}
    (hg : o.guard = none) (l c : Operand) (hop : o.op = Op.makeSlice 117 l c) (n : Nat) (L C : Int) (hl : a.eval l = .int .i64 L) (hc : a.eval c = .int .i64 C) (hL : L = (n : Int)) (hC : C = (n : Int))
    (hn : n ≤ 17592186044416) (hK : ∀ w', OwnB w' (some ⟨w.heap.size, 0, none⟩) n n (List.replicate n false) → Below w.heap.size w w' → w.heap.size < w'.heap.size → wpList Try.prog ops Q rest (a.put o.dst (.slice (some ⟨w.heap.size, 0, none⟩) n n)) w') :
    wpList Try.prog ops Q (o :: rest) a w := by
  obtain ⟨i, hi, h1, h2, h3⟩ := info_parts info_bool
  refine wpList_make_full w hg l c _ hop 0 4 i (.bool false) 1 Try.underlying117 hi h1 h2 .i64 .i64 L C n hl hc hL hC (by rw [h3]; omega) (by unfold maxLen; omega) (Nat.zero_le _) fun w' ho hgr => ?_
  have ho' : OwnB w' (some ⟨w.heap.size, 0, none⟩) n n (List.replicate n false) := by
    refine ⟨?_⟩
    have e : (madeCells (Value.bool false).cells (n * 1)).toList = (List.replicate n false).map Value.bool := by
      rw [Nat.mul_one, List.map_replicate]; exact toList_madeCells_one _ _
    rw [← e]; exact ho
  exact hK w' ho' ((Below.refl _ _).grown hgr (Nat.le_refl _) (by simp)) (ho'.lt _ rfl)

/-- which of the first n numbers are in a list -/
def memL (n : Nat) (l : List Nat) : List Bool := (List.range n).map fun v => decide (v ∈ l)
theorem memL_len (n : Nat) (l : List Nat) : (memL n l).length = n := by simp [memL]
theorem memL_bg {n v : Nat} {l : List Nat} (h : v < n) : bg (memL n l) v = decide (v ∈ l) := by
  have := bg_get (bs := memL n l) (j := v) (by rw [memL_len]; exact h)
  rw [show (memL n l)[v]? = some (decide (v ∈ l)) by simp [memL, h]] at this
  injection this with this; exact this.symm
theorem memL_set {n q : Nat} {l : List Nat} : (memL n l).set q true = memL n (l ++ [q]) := by
  refine List.ext_getElem? fun v => ?_
  rw [List.getElem?_set]
  by_cases hv : v < n
  · by_cases e : q = v
    · subst e
      simp [memL, hv]
    · have : (v ∈ l ++ [q]) ↔ v ∈ l := by simp; exact fun h => absurd h.symm e
      simp [memL, hv, e, Ne.symm e]
  · simp [memL, hv]
    intro h; omega
theorem memL_nil (n : Nat) : List.replicate n false = memL n [] := by
  simp [memL, List.map_const']

end Go.Proofs.Ytllblmndoigdlaa

/- the search from a node: memory -/
namespace Go.Proofs.Ytllblmndoigdlaa
open Go.RowKit

/-- what the search has in memory: a box with three rows -/
structure SSt (B : Nat) (w : World) (g5 : Nat) (Ao : Option Addr) (lo co bd be n : Nat) (os ds es : List Int) : Prop where
  box : w.heap[g5]? = some (.cells #[.slice Ao lo co, .slice (some ⟨bd, 0, none⟩) n n, .slice (some ⟨be, 0, none⟩) n n] 101 (0, 0))
  o : Own w Ao lo co os
  d : Own w (some ⟨bd, 0, none⟩) n n ds
  e : Own w (some ⟨be, 0, none⟩) n n es
  n1 : bd ≠ be
  n2 : g5 ≠ bd
  n3 : g5 ≠ be
  n4 : ∀ a, Ao = some a → a.block ≠ g5 ∧ a.block ≠ bd ∧ a.block ≠ be
  f5 : B ≤ g5
  fd : B ≤ bd
  fe : B ≤ be
  fo : Fresh B Ao

section
variable {B g5 lo co bd be n : Nat} {w w' : World} {Ao : Option Addr} {os ds es : List Int}
theorem SSt.lt (h : SSt B w g5 Ao lo co bd be n os ds es) : g5 < w.heap.size := (Array.getElem?_eq_some_iff.1 h.box).1
theorem SSt.c0 (h : SSt B w g5 Ao lo co bd be n os ds es) : w.cell? ⟨g5, 0, none⟩ = some (.slice Ao lo co) := by rw [cell_blk h.box]; rfl
theorem SSt.c1 (h : SSt B w g5 Ao lo co bd be n os ds es) : w.cell? ⟨g5, 1, none⟩ = some (.slice (some ⟨bd, 0, none⟩) n n) := by rw [cell_blk h.box]; rfl
theorem SSt.c2 (h : SSt B w g5 Ao lo co bd be n os ds es) : w.cell? ⟨g5, 2, none⟩ = some (.slice (some ⟨be, 0, none⟩) n n) := by rw [cell_blk h.box]; rfl
theorem SSt.u (h : SSt B w g5 Ao lo co bd be n os ds es) (i : Nat) : w.frozen? ⟨g5, i, none⟩ = false := frozen_blk h.box i
theorem SSt.later (h : SSt B w g5 Ao lo co bd be n os ds es) (hb : Below w.heap.size w w') : SSt B w' g5 Ao lo co bd be n os ds es :=
  ⟨(hb.block g5 h.lt).trans h.box, h.o.later hb, h.d.later hb, h.e.later hb, h.n1, h.n2, h.n3, h.n4, h.f5, h.fd, h.fe, h.fo⟩
theorem SSt.putD (h : SSt B w g5 Ao lo co bd be n os ds es) (j : Nat) {z : Int} (hz : I64 z) : SSt B (w.setCell ⟨bd, j, none⟩ (.int .i64 z)) g5 Ao lo co bd be n os (ds.set j z) es :=
  ⟨(Below.heap_setCell w _ _ g5 h.n2).trans h.box, h.o.far (fun a ha => (h.n4 a ha).2.1) _, h.d.store j hz, h.e.far (fun a ha => by injection ha with ha; subst ha; exact Ne.symm h.n1) _, h.n1, h.n2, h.n3, h.n4, h.f5, h.fd, h.fe, h.fo⟩
theorem SSt.putE (h : SSt B w g5 Ao lo co bd be n os ds es) (j : Nat) {z : Int} (hz : I64 z) : SSt B (w.setCell ⟨be, j, none⟩ (.int .i64 z)) g5 Ao lo co bd be n os ds (es.set j z) :=
  ⟨(Below.heap_setCell w _ _ g5 h.n3).trans h.box, h.o.far (fun a ha => (h.n4 a ha).2.2) _, h.d.far (fun a ha => by injection ha with ha; subst ha; exact h.n1) _, h.e.store j hz, h.n1, h.n2, h.n3, h.n4, h.f5, h.fd, h.fe, h.fo⟩
theorem SSt.push {A3 : Option Addr} {c3 : Nat} {os' : List Int} (h : SSt B w g5 Ao lo co bd be n os ds es) (hg : w.grownBy w' (Ao.map (·.block))) (hb : A3.map (·.block) = Ao.map (·.block) ∨ A3.map (·.block) = some w.heap.size) (ho : Own w' A3 (lo + 1) c3 os') (hB : B ≤ w.heap.size) :
    SSt B (w'.setCell ⟨g5, 0, none⟩ (.slice A3 (lo + 1) c3)) g5 A3 (lo + 1) c3 bd be n os' ds es := by
  have hne : ∀ k, k < w.heap.size → (∀ a, Ao = some a → a.block ≠ k) → w'.heap[k]? = w.heap[k]? := fun k hk ha => hg.block k hk (fun e => by
    cases Ao with
    | none => cases e
    | some x => injection e with e; exact ha x rfl e.symm)
  have n4 : ∀ a, A3 = some a → a.block ≠ g5 ∧ a.block ≠ bd ∧ a.block ≠ be := by
    intro a ha
    subst ha
    rcases hb with hb | hb
    · cases Ao with
      | none => simp at hb
      | some x => simp at hb; rw [hb]; exact h.n4 x rfl
    · simp at hb
      have h1 := h.lt
      have h2 := h.d.lt _ rfl
      have h3 := h.e.lt _ rfl
      simp at h2 h3
      omega
  have hbx := (hne g5 h.lt fun a ha => (h.n4 a ha).1).trans h.box
  refine ⟨?_, ?_, ?_, ?_, h.n1, h.n2, h.n3, n4, h.f5, h.fd, h.fe, ?_⟩
  · rw [heap_set hbx]; rfl
  · exact ho.far (fun a ha => (n4 a ha).1) _
  · exact (h.d.keep fun a ha => by injection ha with ha; subst ha; exact hne bd (h.d.lt _ rfl) fun a ha => (h.n4 a ha).2.1).far (fun a ha => by injection ha with ha; subst ha; exact Ne.symm h.n2) _
  · exact (h.e.keep fun a ha => by injection ha with ha; subst ha; exact hne be (h.e.lt _ rfl) fun a ha => (h.n4 a ha).2.2).far (fun a ha => by injection ha with ha; subst ha; exact Ne.symm h.n3) _
  · exact fresh_app h.fo hB hb

end

/-- the numbers that the search keeps besides: at least 0 at the nodes that it has met -/
def Met (n : Nat) (ord : List Nat) (dist : Nat → Int) : Prop := ∀ v, v < n → -1 ≤ dist v ∧ dist v < ord.length ∧ (0 ≤ dist v ↔ v ∈ ord)
theorem Met.push {n : Nat} {ord : List Nat} {dist : Nat → Int} (h : Met n ord dist) {x y : Nat} (hx : x < n) (hxm : x ∈ ord) : Met n (ord ++ [y]) (upd dist y (dist x + 1)) := by
  intro v hv
  have h1 := h v hv
  have h2 := h x hx
  have h3 := h2.2.2.2 hxm
  unfold upd
  rw [List.length_append, List.mem_append, List.mem_singleton]
  by_cases e : y = v
  · subst e
    rw [if_pos rfl]
    refine ⟨by omega, by simp; omega, fun _ => .inr rfl, fun _ => by omega⟩
  · rw [if_neg e]
    refine ⟨h1.1, by simp; omega, fun h0 => .inl (h1.2.2.1 h0), fun hm => ?_⟩
    rcases hm with hm | hm
    · exact h1.2.2.2 hm
    · exact absurd hm.symm e
theorem mapTo_upd {n : Nat} {f : Nat → Int} {y : Nat} {z : Int} : (mapTo n f).set y z = mapTo n (upd f y z) := mapTo_set fun _ _ => rfl
theorem mapTo_const (n : Nat) (z : Int) : mapTo n (fun _ => z) = List.replicate n z := by
  refine ext_ig (by simp [mapTo_len]) fun j hj => ?_
  rw [mapTo_len] at hj
  rw [mapTo_ig hj, ig_lt (by simpa using hj)]; simp

end Go.Proofs.Ytllblmndoigdlaa

/- the search from a node -/
namespace Go.Proofs.Ytllblmndoigdlaa
open Go.RowKit

def compAt (v : Value) (k : Nat) : Value := match v with
  | .agg cs => cs.getD k undef
  | _ => undef
/-- of the rows that the search makes: they lie apart; the struct holds them -/
def SD : PP := fun i j v x => ([1, 5, 9, 11].contains i = true → [1, 5, 9, 11].contains j = true → blkOf v ≠ blkOf x) ∧ (i = 10 → j = 1 → compAt v 0 = x) ∧ (i = 10 → j = 5 → compAt v 1 = x) ∧ (i = 10 → j = 9 → compAt v 2 = x)
def isAgg3 : VP := fun v _ => ∃ x y z, v = .agg #[x, y, z]
theorem SD.other {i j : Nat} {v x : Value} (h : [1, 5, 9, 11].contains i = false) (h2 : i ≠ 10) : SD i j v x := ⟨fun e => (by rw [h] at e; exact absurd e Bool.false_ne_true), fun e => absurd e h2, fun e => absurd e h2, fun e => absurd e h2⟩
theorem SD.alloc {V : List VP} {i : Nat} {v : Value} {g : Nat} {w : World} (hi : i ≠ 10) (hv : blkOf v = some g) (hg : w.heap.size ≤ g) (hb : ∀ j x, [1, 5, 9, 11].contains j = true → nthV V j x w → ∃ b, blkOf x = some b ∧ b < w.heap.size) (j : Nat) (x : Value) (hx : nthV V j x w) : SD i j v x :=
  ⟨fun _ e => by
    obtain ⟨b, hb1, hb2⟩ := hb j x e hx
    rw [hv, hb1]; intro h; injection h with h; omega, fun e => absurd e hi, fun e => absurd e hi, fun e => absurd e hi⟩
theorem SD.blk {ops : Array Oper} {i j : Nat} {v x : Value} (h : (depB ops i j = true → SD i j v x) ∧ (SD i j v x ∨ SD j i x v)) (hi : [1, 5, 9, 11].contains i = true) (hj : [1, 5, 9, 11].contains j = true) : blkOf v ≠ blkOf x := h.2.elim (fun h => h.1 hi hj) (fun h => (h.1 hj hi).symm)

/-- at the start: -1 at the first k nodes -/
def ini (k : Nat) : Nat → Int := fun v => if v < k then -1 else 0
theorem ini_zero (n : Nat) : List.replicate n 0 = mapTo n (ini 0) := by
  rw [← mapTo_const]; exact congrArg (mapTo n) (funext fun v => by simp [ini])
theorem ini_set {n k : Nat} : (mapTo n (ini k)).set k (-1) = mapTo n (ini (k + 1)) := mapTo_set fun v _ => by
  unfold ini
  by_cases e : k = v
  · subst e; simp
  · rw [if_neg e]
    by_cases h : v < k
    · rw [if_pos h, if_pos (by omega)]
    · rw [if_neg h, if_neg (by omega)]
theorem ini_end (n : Nat) : mapTo n (ini n) = mapTo n (fun _ => -1) := List.map_congr_left fun v hv => by simp [ini, List.mem_range.1 hv]

set_option maxRecDepth 100000 in
set_option maxHeartbeats 4000000 in
theorem searchFrom_any (A : Option Addr) (n c : Nat) (B : Option Addr) (m d : Nat) (net : Net) (r : Nat) (w : World) (h : NetAt w A n c B m d net) (ok : NetOK net) (hr : r < n) :
    Calls Try.prog 112 #[.agg #[.slice A n c, .slice B m d], .int .i64 r] w fun e w' => ∃ Ao lo co Ad Ae, e = .returned (.agg #[.slice Ao lo co, .slice Ad n n, .slice Ae n n]) ∧ Own w' Ao lo co (nl ((netG net).ord r)) ∧ Own w' Ae n n (mapTo n ((netG net).ent r)) ∧ Fresh w.heap.size Ao ∧ Fresh w.heap.size Ae ∧ Below w.heap.size w w' := by
  have hn24 : n ≤ 24 := by have := ok.n24; have := h.nodes.len; omega
  have HB := Lib.hid (bel2 w (.cells #[.slice A n c, .slice B m d] 27) (.cells #[.slice none 0 0, .slice none 0 0, .slice none 0 0] 101))
  go_enter Try.func112, Try.ntmps112
  go_wp2_with fail
  obtain ⟨W, hW⟩ : ∃ W, W = ((w.alloc (.cells #[.slice A n c, .slice B m d] 27)).alloc (.cells #[.slice none 0 0, .slice none 0 0, .slice none 0 0] 101)) := ⟨_, rfl⟩
  rw [← hW] at HB ⊢
  have hWs : W.heap.size = w.heap.size + 2 := by rw [hW]; simp
  have bxW : BX W w.heap.size A n c B m d := ⟨by rw [hW]; exact (Below.heap_alloc _ _ _ (by simp)).trans (heap_alloc_new w _)⟩
  have box4 : W.heap[w.heap.size + 1]? = some (.cells #[.slice none 0 0, .slice none 0 0, .slice none 0 0] 101 (0, 0)) := by
    rw [hW, ← size_alloc1 w (.cells #[.slice A n c, .slice B m d] 27)]; exact heap_alloc_new _ _
  clear hW
  apply wp_region_track2 [12, 13, 14, 15, 16, 17, 18, 19, 20, 21, 22, 5] [eqv _, isRow W.heap.size 1 1 [(r : Int)], eqv _, eqv _, eqv _, isRow W.heap.size n n (List.replicate n 0), eqv _, eqv _, eqv _, isRow W.heap.size n n (List.replicate n 0), isAgg3, isBox W.heap.size #[.slice none 0 0, .slice none 0 0, .slice none 0 0] 101]
    SD (fun w' => Below W.heap.size W w') Grw (by kernel_rfl) (by kernel_rfl) rfl (by kernel_rfl)
  case hs =>
    refine ⟨?_, ?_, ?_, ?_, ?_, ?_, ?_, ?_, ?_, ?_, ?_, ?_, trivial⟩
    · intro ev w1 ht hc hg hf hI hd
      have e1 : ev (.tmp 1) = .int .i64 r := ht 1 (by decide)
      exact opok_move _ rfl ⟨hI, Below.refl _ _, e1, fun _ _ _ _ _ => SD.other rfl (by decide)⟩
    · intro ev w1 ht hc hg hf hI hd
      have e12 : ev (.tmp 12) = _ := hd 0 12 rfl rfl
      refine opok_gen fun N hN => ?_
      clear hd ht
      go_simp
      exact hN.out _ _ ⟨below_step hI (bel1 _ _), bel1 _ _, ⟨_, rfl, own_lit w1 r ⟨by omega, by omega⟩, hI.size⟩, fun j d _ _ hx => SD.alloc (by decide) rfl (Nat.le_refl _) (fun j x hj hx => (by rcases (show j = 1 ∨ j = 5 ∨ j = 9 ∨ j = 11 by simpa using hj) with rfl | rfl | rfl | rfl <;> first | exact row_blk hx | exact box_blk hx)) j _ hx⟩
    · intro ev w1 ht hc hg hf hI hd
      have e2 : ev (.tmp 2) = .pointer (some ⟨w.heap.size, 0, none⟩) := ht 2 (by decide)
      refine opok_gen fun N hN => ?_
      clear hd ht
      go_simp
      exact hN.out _ _ ⟨hI, Below.refl _ _, rfl, fun _ _ _ _ _ => SD.other rfl (by decide)⟩
    · intro ev w1 ht hc hg hf hI hd
      have e14 : ev (.tmp 14) = _ := hd 2 14 rfl rfl
      have k0 := (bxW.step hI).c0
      refine opok_gen fun N hN => ?_
      clear hd ht
      go_simp
      exact hN.out _ _ ⟨hI, Below.refl _ _, rfl, fun _ _ _ _ _ => SD.other rfl (by decide)⟩
    · intro ev w1 ht hc hg hf hI hd
      have e15 : ev (.tmp 15) = _ := hd 3 15 rfl rfl
      refine opok_gen fun N hN => ?_
      clear hd ht
      go_simp
      exact hN.out _ _ ⟨hI, Below.refl _ _, rfl, fun _ _ _ _ _ => SD.other rfl (by decide)⟩
    · intro ev w1 ht hc hg hf hI hd
      have e16 : ev (.tmp 16) = _ := hd 4 16 rfl rfl
      refine opok_make _ _ rfl n e16 e16 (by omega) ?_
      intro w2 o2 b2
      exact ⟨below_step hI b2, b2, ⟨_, rfl, o2, hI.size⟩, fun j d _ _ hx => SD.alloc (by decide) rfl (Nat.le_refl _) (fun j x hj hx => (by rcases (show j = 1 ∨ j = 5 ∨ j = 9 ∨ j = 11 by simpa using hj) with rfl | rfl | rfl | rfl <;> first | exact row_blk hx | exact box_blk hx)) j _ hx⟩
    · intro ev w1 ht hc hg hf hI hd
      have e2 : ev (.tmp 2) = .pointer (some ⟨w.heap.size, 0, none⟩) := ht 2 (by decide)
      refine opok_gen fun N hN => ?_
      clear hd ht
      go_simp
      exact hN.out _ _ ⟨hI, Below.refl _ _, rfl, fun _ _ _ _ _ => SD.other rfl (by decide)⟩
    · intro ev w1 ht hc hg hf hI hd
      have e14 : ev (.tmp 18) = _ := hd 6 18 rfl rfl
      have k0 := (bxW.step hI).c0
      refine opok_gen fun N hN => ?_
      clear hd ht
      go_simp
      exact hN.out _ _ ⟨hI, Below.refl _ _, rfl, fun _ _ _ _ _ => SD.other rfl (by decide)⟩
    · intro ev w1 ht hc hg hf hI hd
      have e15 : ev (.tmp 19) = _ := hd 7 19 rfl rfl
      refine opok_gen fun N hN => ?_
      clear hd ht
      go_simp
      exact hN.out _ _ ⟨hI, Below.refl _ _, rfl, fun _ _ _ _ _ => SD.other rfl (by decide)⟩
    · intro ev w1 ht hc hg hf hI hd
      have e16 : ev (.tmp 20) = _ := hd 8 20 rfl rfl
      refine opok_make _ _ rfl n e16 e16 (by omega) ?_
      intro w2 o2 b2
      exact ⟨below_step hI b2, b2, ⟨_, rfl, o2, hI.size⟩, fun j d _ _ hx => SD.alloc (by decide) rfl (Nat.le_refl _) (fun j x hj hx => (by rcases (show j = 1 ∨ j = 5 ∨ j = 9 ∨ j = 11 by simpa using hj) with rfl | rfl | rfl | rfl <;> first | exact row_blk hx | exact box_blk hx)) j _ hx⟩
    · intro ev w1 ht hc hg hf hI hd
      obtain ⟨b1, e1, o1, _⟩ : isRow _ _ _ _ (ev (.tmp 13)) w1 := hd 1 13 rfl rfl
      obtain ⟨b2, e2, o2, _⟩ : isRow _ _ _ _ (ev (.tmp 17)) w1 := hd 5 17 rfl rfl
      obtain ⟨b3, e3, o3, _⟩ : isRow _ _ _ _ (ev (.tmp 21)) w1 := hd 9 21 rfl rfl
      refine opok_gen fun N hN => ?_
      clear hd ht
      go_simp
      refine hN.out _ _ ⟨hI, Below.refl _ _, ⟨_, _, _, rfl⟩, fun j d hj _ _ => ⟨fun e => absurd e (by decide), fun _ e => ?_, fun _ e => ?_, fun _ e => ?_⟩⟩
      · subst e; injection hj with hj; subst hj; exact e1.symm
      · subst e; injection hj with hj; subst hj; exact e2.symm
      · subst e; injection hj with hj; subst hj; exact e3.symm
    · intro ev w1 ht hc hg hf hI hd
      refine opok_gen fun N hN => ?_
      clear hd ht
      go_simp
      exact hN.out _ _ ⟨below_step hI (bel1 _ _), bel1 _ _, ⟨_, rfl, heap_alloc_new _ _, hI.size⟩, fun j d _ _ hx => SD.alloc (by decide) rfl (Nat.le_refl _) (fun j x hj hx => (by rcases (show j = 1 ∨ j = 5 ∨ j = 9 ∨ j = 11 by simpa using hj) with rfl | rfl | rfl | rfl <;> first | exact row_blk hx | exact box_blk hx)) j _ hx⟩
  case hst =>
    refine fun j v w w' _ h1 h2 => StbL.nth (S := Grw) ?_ j v w w' h1 h2
    exact ⟨stb_eqv _, stb_row, stb_eqv _, stb_eqv _, stb_eqv _, stb_row, stb_eqv _, stb_eqv _, stb_eqv _, stb_row, fun _ _ _ _ h => h, stb_box, trivial⟩
  case hI => exact (Below.refl _ _).drew
  case hl =>
    rintro w1 hI _ rfl _ ⟨bo, rfl, o1, f1⟩ _ rfl _ rfl _ rfl _ ⟨bd, rfl, o2, f2⟩ _ rfl _ rfl _ rfl _ ⟨be, rfl, o3, f3⟩ _ ⟨y0, y1, y2, rfl⟩ _ ⟨g5, rfl, x5, f5⟩ hp
    have p0 := ((hp 10 1 (by decide) (by decide) (by decide)).1 (by kernel_rfl)).2.1 rfl rfl
    have p1 := ((hp 10 5 (by decide) (by decide) (by decide)).1 (by kernel_rfl)).2.2.1 rfl rfl
    have p2 := ((hp 10 9 (by decide) (by decide) (by decide)).1 (by kernel_rfl)).2.2.2 rfl rfl
    have q1 := SD.blk (hp 1 5 (by decide) (by decide) (by decide)) rfl rfl
    have q2 := SD.blk (hp 1 9 (by decide) (by decide) (by decide)) rfl rfl
    have q3 := SD.blk (hp 1 11 (by decide) (by decide) (by decide)) rfl rfl
    have q4 := SD.blk (hp 5 9 (by decide) (by decide) (by decide)) rfl rfl
    have q5 := SD.blk (hp 5 11 (by decide) (by decide) (by decide)) rfl rfl
    have q6 := SD.blk (hp 9 11 (by decide) (by decide) (by decide)) rfl rfl
    clear hp
    replace p0 : y0 = Value.slice (some ⟨bo, 0, none⟩) 1 1 := p0
    replace p1 : y1 = Value.slice (some ⟨bd, 0, none⟩) n n := p1
    replace p2 : y2 = Value.slice (some ⟨be, 0, none⟩) n n := p2
    replace q1 : bo ≠ bd := fun e => q1 (congrArg some e)
    replace q2 : bo ≠ be := fun e => q2 (congrArg some e)
    replace q3 : bo ≠ g5 := fun e => q3 (congrArg some e)
    replace q4 : bd ≠ be := fun e => q4 (congrArg some e)
    replace q5 : bd ≠ g5 := fun e => q5 (congrArg some e)
    replace q6 : be ≠ g5 := fun e => q6 (congrArg some e)
    subst p0 p1 p2
    have u0 := frozen_blk x5 0
    have u1 := frozen_blk x5 1
    have u2 := frozen_blk x5 2
    have k0 : w1.cell? ⟨g5, 0, none⟩ = some (.slice none 0 0) := by rw [cell_blk x5]; rfl
    have k1 : w1.cell? ⟨g5, 1, none⟩ = some (.slice none 0 0) := by rw [cell_blk x5]; rfl
    have k2 : w1.cell? ⟨g5, 2, none⟩ = some (.slice none 0 0) := by rw [cell_blk x5]; rfl
    have kb := (bxW.step hI).c0
    simp only [List.length_cons, List.length_nil, Nat.reduceAdd, List.drop_succ_cons, List.drop_zero, Act.put, List.setIfInBounds_toArray, List.set_cons_succ, List.set_cons_zero]
    go_wp2_with fail
    obtain ⟨w2, hw2⟩ : ∃ w2, w2 = (((w1.setCell ⟨g5, 0, none⟩ (.slice (some ⟨bo, 0, none⟩) 1 1)).setCell ⟨g5, 1, none⟩ (.slice (some ⟨bd, 0, none⟩) n n)).setCell ⟨g5, 2, none⟩ (.slice (some ⟨be, 0, none⟩) n n)) := ⟨_, rfl⟩
    rw [← hw2]
    have st2 : SSt W.heap.size w2 g5 (some ⟨bo, 0, none⟩) 1 1 bd be n [(r : Int)] (mapTo n (ini 0)) (mapTo n (ini 0)) := by
      rw [hw2]
      refine ⟨?_, ((o1.far ?_ _).far ?_ _).far ?_ _, ((((ini_zero n) ▸ o2).far ?_ _).far ?_ _).far ?_ _, ((((ini_zero n) ▸ o3).far ?_ _).far ?_ _).far ?_ _, q4, Ne.symm q5, Ne.symm q6, ?_, f5, f2, f3, ?_⟩
      · rw [heap_set (heap_set (heap_set x5 0 _) 1 _) 2 _]; rfl
      all_goals intro a ha; injection ha with ha; subst ha; first | exact q3 | exact q5 | exact q6 | exact ⟨q3, q1, q2⟩ | exact f1
    have b2 : Below W.heap.size W w2 := by rw [hw2]; exact ((hI.setCell (by exact f5) _).setCell (by exact f5) _).setCell (by exact f5) _
    clear hw2 u0 u1 u2 k0 k1 k2 kb q1 q2 q3 q4 q5 q6 o1 o2 o3 x5 f1 f2 f3 f5 hI
    go_loopw [26] (fun i wr => ∃ k : Nat, k ≤ n ∧ i = .int .i64 k ∧ SSt W.heap.size wr g5 (some ⟨bo, 0, none⟩) 1 1 bd be n [(r : Int)] (mapTo n (ini k)) (mapTo n (ini k)) ∧ Below W.heap.size W wr) (fun i _ => n - (intOf i).toNat)
    case atStart => exact ⟨0, by omega, rfl, st2, b2⟩
    case round =>
      obtain ⟨k, hk, rfl, st, hb⟩ := hrel
      clear st2 b2
      by_cases hlt : k < n
      · have k1 := st.c1
        have k2 := st.c2
        have d1 := st.d.cell hlt
        have d2 := st.e.cell hlt
        have u1 := st.d.unfrozen k
        have u2 := st.e.unfrozen k
        have n1 := st.n1
        have n2 := st.n2
        have n3 := st.n3
        have ST := Lib.hid st
        clear st
        go_wp2_with fail
        go_region
        go_wp2_with fail
        go_roundw
        case rel => exact ⟨k + 1, by omega, by go_num, by have := ((ST.out.putD k (z := -1) ⟨by decide, by decide⟩).putE k (z := -1) ⟨by decide, by decide⟩).later (Below.refl _ _).drew; rw [ini_set] at this; exact this, (((hb.setCell (by exact ST.out.fd) _).setCell (by exact ST.out.fe) _).drew)⟩
        case measure => simp [intOf]; omega
      · have hkn : n = k := by omega
        subst hkn
        have k1 := st.c1
        have d1 := st.d.cell hr
        have u1 := st.d.unfrozen r
        have st3 := (st.putD r (z := 0) ⟨by decide, by decide⟩)
        rw [ini_end, mapTo_upd] at st3
        have b3 := hb.setCell (p := ⟨bd, r, none⟩) st.fd (.int .i64 0)
        have ST3 := Lib.hid st3
        have B3 := Lib.hid b3
        clear st st3 b3
        go_wp2_with fail
        clear k1 d1 u1
        have M3 : Hid (Met n ((netG net).run r 0).1 (upd (fun _ => -1) r 0)) := Lib.hid (by
          intro v hv
          unfold upd
          show _ ∧ _ < ((([r] : List Nat).length : Nat) : Int) ∧ (_ ↔ v ∈ [r])
          by_cases e : r = v
          · subst e; simp
          · rw [if_neg e]; simp; exact fun e' => e e'.symm)
        have HNn : Hid ((netG net).n = n) := Lib.hid h.nodes.len
        go_loopw [7] (fun i wr => ∃ (k : Nat) (Ao : Option Addr) (co : Nat) (dist : Nat → Int), i = .int .i64 k ∧ k ≤ ((netG net).run r k).1.length ∧ ((netG net).run r k).1.length ≤ n ∧ SSt W.heap.size wr g5 Ao ((netG net).run r k).1.length co bd be n (nl ((netG net).run r k).1) (mapTo n dist) (mapTo n ((netG net).run r k).2) ∧ Hid (Met n ((netG net).run r k).1 dist) ∧ Below W.heap.size W wr) (fun i _ => n - (intOf i).toNat)
        case atStart => exact ⟨0, some ⟨bo, 0, none⟩, 1, upd (fun _ => -1) r 0, rfl, by simp [Gr.run], by simp [Gr.run]; omega, ST3.out, M3, B3.out⟩
        case round =>
          obtain ⟨k, Ao, co, dist, rfl, hk1, hk2, st, hM, hb⟩ := hrel
          clear ST3 B3 M3
          have k0 := st.c0
          by_cases hlt : k < ((netG net).run r k).1.length
          · have hinv := (Gr.run_inv ok.g (r := r) (by rw [HNn.out]; exact hr) k).1
            obtain ⟨v, hv⟩ : ∃ v, ((netG net).run r k).1[k]? = some v := ⟨_, List.getElem?_eq_getElem hlt⟩
            have hvm : v ∈ ((netG net).run r k).1 := List.mem_of_getElem? hv
            have hvn : v < n := by have := hinv.lt v hvm; rw [HNn.out] at this; exact this
            have HR : Hid ((netG net).run r (k + 1) = (netG net).visL v ((netG net).run r k) ((netG net).at v)) := Lib.hid (by show (netG net).rnd _ k = _; unfold Gr.rnd; rw [hv])
            have ho := st.o
            obtain ⟨ga, rfl, hga⟩ := ho.pos (by omega)
            have c1 := ho.cell (j := k) hlt
            rw [nl_ig hlt, show ((netG net).run r k).1[k] = v from (List.getElem?_eq_some_iff.1 hv).2] at c1
            obtain ⟨s0, hs0⟩ : ∃ s0, (netG net).run r k = s0 := ⟨_, rfl⟩
            rw [hs0] at HR
            rw [hs0] at hinv hvm hlt hk1 hk2 st hM k0
            have HI := Lib.hid hinv
            have HVM := Lib.hid hvm
            clear ho hv hs0 hinv hvm
            obtain ⟨lo, hlo⟩ : ∃ lo, s0.1.length = lo := ⟨_, rfl⟩
            rw [hlo] at st k0 hlt hk1 hk2
            have HLO := Lib.hid hlo
            clear hlo
            have ST := Lib.hid st
            clear st
            have kb := (bxW.step hb).c0
            have kb1 := (bxW.step hb).c1
            go_wp2_with fail
            refine (pipesAt_any _ _ _ _ _ _ net v _ (h.later (below_step HB.out hb)) ok).mono ?_
            rintro e w4 ⟨AP, cp, rfl, oP, fP, b4⟩
            have st4 := ST.out.later b4
            have hb4 := below_step hb b4
            have hPne : ∀ a, AP = some a → a.block ≠ g5 ∧ a.block ≠ bd ∧ a.block ≠ be ∧ a.block ≠ ga := fun a ha => by
              have h1 := fP a ha
              have h2 := ST.out.lt
              have h3 := ST.out.d.lt _ rfl
              have h4 := ST.out.e.lt _ rfl
              simp only at h3 h4
              omega
            have HP := Lib.hid hPne
            clear k0 kb kb1 c1 hPne ST
            have hbs := hb4.size
            go_wp2_with fail
            obtain ⟨M, hMl⟩ : ∃ M, ((netG net).at v).length = M := ⟨_, rfl⟩
            rw [hMl] at oP ⊢
            have HML := Lib.hid hMl
            clear hMl
            have hM40 : M ≤ 40 := by have := Gr.atK_len (netG net) v (netG net).m; have e : (netG net).m = net.pipes.length := rfl; have := ok.m40; have := HML.out; unfold Gr.at at this; omega
            go_loopw [58] (fun i wr => ∃ (j : Nat) (Ao : Option Addr) (co l : Nat) (dist : Nat → Int), i = .int .i64 j ∧ j ≤ M ∧ lo ≤ l ∧ l ≤ n ∧ Hid (((netG net).visL v s0 (((netG net).at v).take j)).1.length = l) ∧ SSt W.heap.size wr g5 Ao l co bd be n (nl ((netG net).visL v s0 (((netG net).at v).take j)).1) (mapTo n dist) (mapTo n ((netG net).visL v s0 (((netG net).at v).take j)).2) ∧ Hid (Met n ((netG net).visL v s0 (((netG net).at v).take j)).1 dist) ∧ Below W.heap.size W wr ∧ Own wr AP M cp (nl ((netG net).at v)) ∧ Apart Ao AP) (fun i _ => M - (intOf i).toNat)
            case atStart => exact ⟨0, some ⟨ga, 0, none⟩, co, lo, dist, rfl, by omega, by omega, hk2, HLO, st4, hM, hb4, oP, fun a a' h1 h2 => by injection h1 with h1; subst h1; exact Ne.symm (HP.out a' h2).2.2.2⟩
            case round =>
              obtain ⟨j, Ao, co, l, dist, rfl, hj, hl1, hl2, hlen, st, hM, hb, oP, hap⟩ := hrel
              by_cases hjl : j < M
              · obtain ⟨gp, rfl, hgp⟩ := oP.pos (by omega)
                have hjl' : j < ((netG net).at v).length := by rw [HML.out]; exact hjl
                obtain ⟨p, hp⟩ : ∃ p, ((netG net).at v)[j] = p := ⟨_, rfl⟩
                have cP := oP.cell (j := j) hjl
                rw [nl_ig hjl', hp] at cP
                have hpm := Gr.mem_at.1 (hp ▸ List.getElem_mem hjl' : p ∈ (netG net).at v)
                have HV : Hid ((netG net).visL v s0 (((netG net).at v).take (j + 1)) = (netG net).vis v ((netG net).visL v s0 (((netG net).at v).take j)) p) := Lib.hid (by
                  rw [← Gr.visL_snoc, List.take_add_one, List.getElem?_eq_getElem hjl', hp]; rfl)
                have hiv := HI.out.visL ok.g (((netG net).at v).take j) HVM.out (fun i hi => List.mem_of_mem_take hi)
                have hvm : v ∈ ((netG net).visL v s0 (((netG net).at v).take j)).1 := by
                  obtain ⟨l', e⟩ := Gr.visL_mono (g := netG net) (v := v) (((netG net).at v).take j) s0
                  rw [e]; exact List.mem_append.2 (.inl HVM.out)
                obtain ⟨s1, hs1⟩ : ∃ s1, (netG net).visL v s0 (((netG net).at v).take j) = s1 := ⟨_, rfl⟩
                rw [hs1] at HV hiv hvm hlen st hM
                obtain ⟨q, hq⟩ : ∃ q, (netG net).oth p v = q := ⟨_, rfl⟩
                have hqn : q < n := by
                  have h1 := ok.g p hpm.1
                  have h2 := HNn.out
                  rw [← hq]; unfold Gr.oth; split <;> omega
                have hpl : p < net.pipes.length := hpm.1
                have hmm : p < m := by rw [← h.pipes.len]; exact hpl
                have hbw := below_step HB.out hb
                obtain ⟨bp, offp, rfl, hblp, hcp⟩ := (h.pipes.later hbw).cells (by omega)
                obtain ⟨c0, c1, c2, c3, c4⟩ := hcp p hmm
                have kb1 := (bxW.step hb).c1
                have FR := Lib.hid (ok.fr hpl)
                have TO := Lib.hid (ok.to hpl)
                have hple := h.pipes.le
                have hpcap := h.pipes.cap
                have hm40 : m ≤ 40 := by rw [← h.pipes.len]; exact ok.m40
                clear hcp hpl hpm hp hs1
                go_wp2_with fail
                refine (otherEnd_any (pp net.pipes p) (netG net) p v _ FR.out TO.out).mono ?_
                rintro e w5 ⟨rfl, b5⟩
                rw [hq]
                clear c0 c1 c2 c3 c4 kb1 cP
                have st5 := st.later b5
                have hb5 := below_step hb b5
                have oP5 := oP.later b5
                have k1 := st5.c1
                have dq := st5.d.cell hqn
                rw [mapTo_ig hqn] at dq
                have mq := hM.out q hqn
                have mv := hM.out v hvn
                have mv0 := mv.2.2.2 hvm
                by_cases hqm : q ∈ s1.1
                · have hq0 := mq.2.2.2 hqm
                  have hvis : (netG net).vis v s1 p = s1 := by unfold Gr.vis; rw [hq, if_pos hqm]
                  rw [hvis] at HV
                  have ST5 := Lib.hid st5
                  clear mq mv st st5
                  go_wp2_with fail
                  go_roundw
                  case rel => exact ⟨j + 1, Ao, co, l, dist, by go_num, by omega, hl1, hl2, by rw [HV.out]; exact hlen, by rw [HV.out]; exact ST5.out, by rw [HV.out]; exact hM, hb5, oP5, hap⟩
                  case measure => simp [intOf]; omega
                · have hq0 : ¬ (0 ≤ dist q) := fun h0 => hqm (mq.2.2.1 h0)
                  have hvis : (netG net).vis v s1 p = (s1.1 ++ [q], upd s1.2 q p) := by unfold Gr.vis; rw [hq, if_neg hqm]
                  rw [hvis] at HV
                  have k2 := st5.c2
                  have k0 := st5.c0
                  have dv := st5.d.cell hvn
                  rw [mapTo_ig hvn] at dv
                  have eq := st5.e.cell hqn
                  have u1 := st5.d.unfrozen q
                  have u2 := st5.e.unfrozen q
                  have n1 := st5.n1
                  have n2 := st5.n2
                  have n3 := st5.n3
                  have hll := hlen.out
                  have hqv : v ≠ q := by rintro rfl; exact hqm hvm
                  have ST5 := Lib.hid st5
                  clear mq st st5
                  go_wp2_with fail
                  go_region
                  obtain ⟨w6, hw6⟩ : ∃ w6, w6 = ((w5.setCell ⟨bd, q, none⟩ (.int .i64 (dist v + 1))).setCell ⟨be, q, none⟩ (.int .i64 p)).drew := ⟨_, rfl⟩
                  have st6 : SSt W.heap.size w6 g5 Ao l co bd be n (nl s1.1) (mapTo n (upd dist q (dist v + 1))) (mapTo n (upd s1.2 q p)) := by
                    rw [hw6, ← mapTo_upd, ← mapTo_upd]
                    exact ((ST5.out.putD q (z := dist v + 1) ⟨by omega, by omega⟩).putE q (z := p) ⟨by omega, by omega⟩).later (Below.refl _ _).drew
                  have b6 : Below W.heap.size W w6 := by rw [hw6]; exact ((hb5.setCell (by exact ST5.out.fd) _).setCell (by exact ST5.out.fe) _).drew
                  have oP6 : Own w6 (some ⟨gp, 0, none⟩) M cp (nl ((netG net).at v)) := by
                    rw [hw6]
                    have hh := HP.out _ rfl
                    exact ((oP5.far (fun a ha => by injection ha with ha; subst ha; exact hh.2.1) _).far (fun a ha => by injection ha with ha; subst ha; exact hh.2.2.1) _).later (Below.refl _ _).drew
                  rw [← hw6]
                  clear hw6 k1 k2 k0 dv eq u1 u2 dq ST5
                  have k0 := st6.c0
                  have u0 := st6.u 0
                  have MP : Hid (Met n (s1.1 ++ [q]) (upd dist q (dist v + 1))) := Lib.hid (hM.out.push hvn hvm)
                  have hl3 : l + 1 ≤ n := by
                    have := (HI.out.visL ok.g (((netG net).at v).take (j + 1)) HVM.out (fun i hi => List.mem_of_mem_take hi))
                    rw [HV.out] at this
                    have := nodup_len this.nodup this.lt
                    rw [List.length_append, hll, HNn.out] at this
                    exact this
                  have b6s := b6.size
                  have ow7 := st6.o.later (bel1 w6 (.cells #[.int .i64 q] 2))
                  have ST6 := Lib.hid st6
                  have HM6 := Lib.hid mv
                  clear st6 mv
                  have push : ∀ (o : Obj) (A3 : Option Addr) (c3 : Nat) (w3 : World), (w6.alloc o).grownBy w3 (Ao.map (·.block)) → (A3.map (·.block) = Ao.map (·.block) ∨ A3.map (·.block) = some (w6.alloc o).heap.size) → Own w3 A3 (l + 1) c3 (nl s1.1 ++ [(q : Int)]) →
                      SSt W.heap.size (w3.setCell ⟨g5, 0, none⟩ (.slice A3 (l + 1) c3)) g5 A3 (l + 1) c3 bd be n (nl (s1.1 ++ [q])) (mapTo n (upd dist q (dist v + 1))) (mapTo n (upd s1.2 q p)) ∧ Below W.heap.size W (w3.setCell ⟨g5, 0, none⟩ (.slice A3 (l + 1) c3)) ∧ Own (w3.setCell ⟨g5, 0, none⟩ (.slice A3 (l + 1) c3)) (some ⟨gp, 0, none⟩) M cp (nl ((netG net).at v)) ∧ Apart A3 (some ⟨gp, 0, none⟩) ∧ w3.cell? ⟨g5, 0, none⟩ = some (.slice Ao l co) ∧ w3.frozen? ⟨g5, 0, none⟩ = false := by
                    intro o A3 c3 w3 hg3 hb3 ho3
                    have st7 := ST6.out.later (bel1 w6 o)
                    have b7 := below_step b6 (bel1 w6 o)
                    have oP7 := oP6.later (bel1 w6 o)
                    have hbx : w3.heap[g5]? = (w6.alloc o).heap[g5]? := hg3.block g5 st7.lt (fun e => by
                      cases Ao with
                      | none => cases e
                      | some x => injection e with e; exact (st7.n4 x rfl).1 e.symm)
                    refine ⟨?_, (b7.grown hg3 b7.size (fun i hi => fresh_row st7.fo i hi)).setCell (by exact st7.f5) _, ?_, apart_app hap oP7.lt hb3, ?_, ?_⟩
                    · rw [nl_snoc]; exact st7.push hg3 hb3 ho3 b7.size
                    · exact (oP7.aside hap hg3).far (fun a ha => by injection ha with ha; subst ha; exact (HP.out _ rfl).1) _
                    · rw [World.cell?_of_block (a := ⟨g5, 0, none⟩) hbx]; exact st7.c0
                    · rw [World.frozen?_of_block (a := ⟨g5, 0, none⟩) hbx]; exact st7.u 0
                  have PU := Lib.hid push
                  clear push
                  go_wp2_with (at_builtin; refine law_append _ rfl _ _ rfl Ao _ co _ rfl ow7 _ _ q ⟨by omega, by omega⟩ rfl (cell_new1 _ _ _) (by omega) ?_; intro A3 c3 w3 ho3 hg3 hb3; obtain ⟨r1, r2, r3, r4, r5, r6⟩ := PU.out _ _ _ _ hg3 hb3 ho3)
                  go_roundw
                  case rel => exact ⟨j + 1, A3, c3, l + 1, _, by go_num, by omega, by omega, hl3, by rw [HV.out]; exact Lib.hid (by rw [List.length_append, hll]; rfl), by rw [HV.out]; exact r1, by rw [HV.out]; exact MP, r2, r3, r4⟩
                  case measure => simp [intOf]; omega
              · have hjM : M = j := by omega
                subst hjM
                rw [List.take_of_length_le (by rw [HML.out]; omega), ← HR.out] at hlen st hM
                go_wp2_with fail
                go_roundw
                case rel => exact ⟨k + 1, Ao, co, dist, by go_num, by rw [hlen.out]; omega, by rw [hlen.out]; exact hl2, by rw [hlen.out]; exact st, hM, hb⟩
                case measure => simp [intOf]; omega
          · have hs := Gr.run_end ok.g (r := r) (by rw [HNn.out]; exact hr) (k := k) (by omega)
            have hr1 : (netG net).run r k = ((netG net).ord r, (netG net).ent r) := hs
            obtain ⟨lo, hlo⟩ : ∃ lo, ((netG net).run r k).1.length = lo := ⟨_, rfl⟩
            rw [hlo] at st k0 hlt hk1 hk2
            clear hlo
            have k1 := st.c1
            have k2 := st.c2
            have ho := st.o
            have he := st.e
            have hfo := st.fo
            have hfe := st.fe
            rw [hr1] at ho he
            have h4 := (hb.block (w.heap.size + 1) (by omega)).trans box4
            have u0 := frozen_blk h4 0
            have u1 := frozen_blk h4 1
            have u2 := frozen_blk h4 2
            have j0 : wr.cell? ⟨w.heap.size + 1, 0, none⟩ = some (.slice none 0 0) := by rw [cell_blk h4]; rfl
            have j1 : wr.cell? ⟨w.heap.size + 1, 1, none⟩ = some (.slice none 0 0) := by rw [cell_blk h4]; rfl
            have j2 : wr.cell? ⟨w.heap.size + 1, 2, none⟩ = some (.slice none 0 0) := by rw [cell_blk h4]; rfl
            clear st hM hs hr1
            go_wp2_with fail
            have h5 := heap_set (heap_set (heap_set h4 0 (.slice Ao lo co)) 1 (.slice (some ⟨bd, 0, none⟩) n n)) 2 (.slice (some ⟨be, 0, none⟩) n n)
            have r0 := cell_blk h5 0
            have r1 := cell_blk h5 1
            have r2 := cell_blk h5 2
            refine bodyPost_ret (v := .agg #[.slice Ao lo co, .slice (some ⟨bd, 0, none⟩) n n, .slice (some ⟨be, 0, none⟩) n n]) (by simp at r0 r1 r2; simp [results, Try.results112, go_sem, r0, r1, r2]) rfl ⟨Ao, lo, co, _, _, rfl, ?_, ?_, fresh_up hfo (by omega), ?_, ?_⟩
            · have hne : ∀ a : Addr, Ao = some a → a.block ≠ w.heap.size + 1 := fun a ha => by have := hfo a ha; omega
              exact ((ho.far hne _).far hne _).far hne _
            · have hne : ∀ a : Addr, some ⟨be, 0, none⟩ = some a → a.block ≠ w.heap.size + 1 := fun a ha => by injection ha with ha; subst ha; show be ≠ _; omega
              exact ((he.far hne _).far hne _).far hne _
            · intro a ha; injection ha with ha; subst ha; show w.heap.size ≤ be; omega
            · have hbw := below_step HB.out hb
              exact ((hbw.setCell (by show w.heap.size ≤ w.heap.size + 1; omega) _).setCell (by show w.heap.size ≤ w.heap.size + 1; omega) _).setCell (by show w.heap.size ≤ w.heap.size + 1; omega) _

end Go.Proofs.Ytllblmndoigdlaa

/- the search from a node: the reference -/
namespace Go.Proofs.Ytllblmndoigdlaa
open Go.RowKit

/-- what the reference's search has in memory -/
structure SSp (B : Nat) (w : World) (Ao : Option Addr) (lo co be bs n : Nat) (os es : List Int) (ss : List Bool) : Prop where
  o : Own w Ao lo co os
  e : Own w (some ⟨be, 0, none⟩) n n es
  s : OwnB w (some ⟨bs, 0, none⟩) n n ss
  n1 : be ≠ bs
  n4 : ∀ a, Ao = some a → a.block ≠ be ∧ a.block ≠ bs
  fe : B ≤ be
  fs : B ≤ bs
  fo : Fresh B Ao

section
variable {B lo co be bs n : Nat} {w w' : World} {Ao : Option Addr} {os es : List Int} {ss : List Bool}
theorem SSp.later (h : SSp B w Ao lo co be bs n os es ss) (hb : Below w.heap.size w w') : SSp B w' Ao lo co be bs n os es ss :=
  ⟨h.o.later hb, h.e.later hb, h.s.later hb, h.n1, h.n4, h.fe, h.fs, h.fo⟩
theorem SSp.putE (h : SSp B w Ao lo co be bs n os es ss) (j : Nat) {z : Int} (hz : I64 z) : SSp B (w.setCell ⟨be, j, none⟩ (.int .i64 z)) Ao lo co be bs n os (es.set j z) ss :=
  ⟨h.o.far (fun a ha => (h.n4 a ha).1) _, h.e.store j hz, h.s.far (fun a ha => by injection ha with ha; subst ha; exact Ne.symm h.n1) _, h.n1, h.n4, h.fe, h.fs, h.fo⟩
theorem SSp.putS (h : SSp B w Ao lo co be bs n os es ss) (j : Nat) (z : Bool) : SSp B (w.setCell ⟨bs, j, none⟩ (.bool z)) Ao lo co be bs n os es (ss.set j z) :=
  ⟨h.o.far (fun a ha => (h.n4 a ha).2) _, h.e.far (fun a ha => by injection ha with ha; subst ha; exact h.n1) _, h.s.store j z, h.n1, h.n4, h.fe, h.fs, h.fo⟩
theorem SSp.push {A3 : Option Addr} {c3 : Nat} {os' : List Int} (h : SSp B w Ao lo co be bs n os es ss) (hg : w.grownBy w' (Ao.map (·.block))) (hb : A3.map (·.block) = Ao.map (·.block) ∨ A3.map (·.block) = some w.heap.size) (ho : Own w' A3 (lo + 1) c3 os') (hB : B ≤ w.heap.size) :
    SSp B w' A3 (lo + 1) c3 be bs n os' es ss := by
  have n4 : ∀ a, A3 = some a → a.block ≠ be ∧ a.block ≠ bs := by
    intro a ha
    subst ha
    rcases hb with hb | hb
    · cases Ao with
      | none => simp at hb
      | some x => simp at hb; rw [hb]; exact h.n4 x rfl
    · simp at hb
      have h2 := h.e.lt _ rfl
      have h3 := h.s.lt _ rfl
      simp at h2 h3
      omega
  refine ⟨ho, ?_, ?_, h.n1, n4, h.fe, h.fs, fresh_app h.fo hB hb⟩
  · exact h.e.aside (A := Ao) (fun a a' h1 h2 => by injection h2 with h2; subst h2; exact (h.n4 a h1).1) hg
  · exact h.s.aside (A := Ao) (fun a a' h1 h2 => by injection h2 with h2; subst h2; exact (h.n4 a h1).2) hg

end

set_option maxRecDepth 100000 in
set_option maxHeartbeats 4000000 in
theorem l04Search_any (A : Option Addr) (n c : Nat) (B : Option Addr) (m d : Nat) (net : Net) (r : Nat) (w : World) (h : NetAt w A n c B m d net) (ok : NetOK net) (hr : r < n) :
    Calls Try.prog 116 #[.agg #[.slice A n c, .slice B m d], .int .i64 r] w fun e w' => ∃ Ao lo co Ae, e = .returned (.tuple #[.slice Ae n n, .slice Ao lo co]) ∧ Own w' Ao lo co (nl ((netG net).ord r)) ∧ Own w' Ae n n (mapTo n ((netG net).ent r)) ∧ Fresh w.heap.size Ao ∧ Fresh w.heap.size Ae ∧ Below w.heap.size w w' := by
  have hn24 : n ≤ 24 := by have := ok.n24; have := h.nodes.len; omega
  have HB := Lib.hid (bel1 w (.cells #[.slice A n c, .slice B m d] 27))
  have bx0 : BX (w.alloc (.cells #[.slice A n c, .slice B m d] 27)) w.heap.size A n c B m d := ⟨heap_alloc_new w _⟩
  obtain ⟨W, hW⟩ : ∃ W, W = w.alloc (.cells #[.slice A n c, .slice B m d] 27) := ⟨_, rfl⟩
  have hWs : W.heap.size = w.heap.size + 1 := by rw [hW]; simp
  go_enter Try.func116, Try.ntmps116
  go_wp2_with (first | (at_make; refine law_make _ rfl _ _ rfl n _ _ rfl rfl rfl rfl (by omega) ?_; intro w1 o1 b1 z1; have bx1 := bx0.step b1; have y0 := bx1.c0) | (at_make; refine law_makeB _ rfl _ _ rfl n _ _ rfl rfl rfl rfl (by omega) ?_; intro w2 o2 b2 z2))
  rw [World.size_alloc] at o1
  rw [← hW] at b1 bx0 HB
  have hz1 : W.heap.size < w1.heap.size := by rw [hW]; exact z1
  obtain ⟨bs, hbs⟩ : ∃ bs, w1.heap.size = bs := ⟨_, rfl⟩
  have o12 := o1.later b2
  have b12 := below_step b1 b2
  rw [ini_zero] at o12
  rw [hbs] at o2 hz1 z2 b2 ⊢
  clear y0 bx1 hW z1 o1
  go_loopw [8] (fun i wr => ∃ k : Nat, k ≤ n ∧ i = .int .i64 k ∧ Own wr (some ⟨w.heap.size + 1, 0, none⟩) n n (mapTo n (ini k)) ∧ OwnB wr (some ⟨bs, 0, none⟩) n n (List.replicate n false) ∧ Below W.heap.size W wr) (fun i _ => n - (intOf i).toNat)
  case atStart => exact ⟨0, by omega, rfl, o12, o2, b12⟩
  case round =>
    obtain ⟨k, hk, rfl, oe, os, hb⟩ := hrel
    clear o12 o2 b12
    by_cases hlt : k < n
    · have c1 := oe.cell hlt
      have u1 := oe.unfrozen k
      have oe' := oe.store k (z := -1) ⟨by decide, by decide⟩
      rw [ini_set] at oe'
      have os' := os.far (p := ⟨w.heap.size + 1, k, none⟩) (fun a ha => by injection ha with ha; subst ha; show bs ≠ w.heap.size + 1; omega) (.int .i64 (-1))
      have hb' := hb.setCell (p := ⟨w.heap.size + 1, k, none⟩) (by show W.heap.size ≤ w.heap.size + 1; omega) (.int .i64 (-1))
      have HE := Lib.hid oe'
      have HS := Lib.hid os'
      have HB' := Lib.hid hb'
      clear oe' os' hb' oe os
      go_wp2_with fail
      go_roundw
      case rel => exact ⟨k + 1, by omega, by go_num, HE.out, HS.out, HB'.out⟩
      case measure => simp [intOf]; omega
    · have hkn : n = k := by omega
      subst hkn
      have c1 := os.cell hr
      have u1 := os.unfrozen r
      have os' := os.store r true
      rw [memL_nil, memL_set] at os'
      have oe' := oe.far (p := ⟨bs, r, none⟩) (fun a ha => by injection ha with ha; subst ha; show w.heap.size + 1 ≠ bs; omega) (.bool true)
      have hb' := hb.setCell (p := ⟨bs, r, none⟩) (by show W.heap.size ≤ bs; omega) (.bool true)
      rw [ini_end] at oe'
      have hsz : bs < (wr.setCell ⟨bs, r, none⟩ (.bool true)).heap.size := os'.lt _ rfl
      obtain ⟨w3, hw3⟩ : ∃ w3, w3 = wr.setCell ⟨bs, r, none⟩ (.bool true) := ⟨_, rfl⟩
      rw [← hw3] at os' oe' hb' hsz
      have st : SSp W.heap.size (w3.alloc (.cells #[.int .i64 r] 2)) (some ⟨w3.heap.size, 0, none⟩) 1 1 (w.heap.size + 1) bs n [(r : Int)] (mapTo n fun _ => -1) (memL n [r]) := by
        have hb3 := hb'.size
        refine ⟨own_lit w3 r ⟨by omega, by omega⟩, oe'.later (bel1 _ _), os'.later (bel1 _ _), by omega, ?_, by omega, by omega, ?_⟩
        · intro a ha; injection ha with ha; subst ha; show w3.heap.size ≠ _ ∧ w3.heap.size ≠ _; omega
        · intro a ha; injection ha with ha; subst ha; exact hb3
      have hb4 := below_step hb' (bel1 w3 (.cells #[.int .i64 r] 2))
      have HST := Lib.hid st
      have HB4 := Lib.hid hb4
      have HW3 := Lib.hid hw3
      clear hw3 st hb4 oe' os' hb' oe os
      go_wp2_with fail
      rw [← HW3.out]
      clear c1 u1
      have HNn : Hid ((netG net).n = n) := Lib.hid h.nodes.len
      go_loopw [9, 10] (fun o i wr => ∃ (k : Nat) (Ao : Option Addr) (co lo : Nat), o = .slice Ao lo co ∧ i = .int .i64 k ∧ Hid (((netG net).run r k).1.length = lo) ∧ k ≤ lo ∧ lo ≤ n ∧ SSp W.heap.size wr Ao lo co (w.heap.size + 1) bs n (nl ((netG net).run r k).1) (mapTo n ((netG net).run r k).2) (memL n ((netG net).run r k).1) ∧ Below W.heap.size W wr) (fun _ i _ => n - (intOf i).toNat)
      case atStart => exact ⟨0, some ⟨w3.heap.size, 0, none⟩, 1, 1, by rw [HW3.out]; simp [World.setCell], rfl, Lib.hid rfl, by omega, by omega, HST.out, HB4.out⟩
      case round =>
        obtain ⟨k, Ao, co, lo, rfl, rfl, hlo, hk1, hk2, st, hb⟩ := hrel
        clear HST HB4 HW3
        by_cases hlt : k < lo
        · have hinv := (Gr.run_inv ok.g (r := r) (by rw [HNn.out]; exact hr) k).1
          have hlt' : k < ((netG net).run r k).1.length := by rw [hlo.out]; exact hlt
          obtain ⟨v, hv⟩ : ∃ v, ((netG net).run r k).1[k]? = some v := ⟨_, List.getElem?_eq_getElem hlt'⟩
          have hvm : v ∈ ((netG net).run r k).1 := List.mem_of_getElem? hv
          have hvn : v < n := by have := hinv.lt v hvm; rw [HNn.out] at this; exact this
          have HR : Hid ((netG net).run r (k + 1) = (netG net).visL v ((netG net).run r k) ((netG net).at v)) := Lib.hid (by show (netG net).rnd _ k = _; unfold Gr.rnd; rw [hv])
          have ho := st.o
          obtain ⟨ga, rfl, hga⟩ := ho.pos (by omega)
          have c1 := ho.cell (j := k) hlt
          rw [nl_ig hlt', show ((netG net).run r k).1[k] = v from (List.getElem?_eq_some_iff.1 hv).2] at c1
          obtain ⟨s0, hs0⟩ : ∃ s0, (netG net).run r k = s0 := ⟨_, rfl⟩
          rw [hs0] at HR hinv hvm st hlo hv
          have HV0 := Lib.hid hv
          have HI := Lib.hid hinv
          have HVM := Lib.hid hvm
          have ST := Lib.hid st
          clear ho hv hs0 hinv hvm hlt' st
          have kb := (bx0.step hb).c0
          have kb1 := (bx0.step hb).c1
          go_wp2_with fail
          go_still_tail 5, (by kernel_rfl)
          change wpList _ _ _ _ _ wr.drew
          go_wp2_with fail
          refine (l02At_any _ _ _ _ _ _ net v _ (h.later (below_step HB.out hb.drew)) ok).mono ?_
          rintro e w4 ⟨AP, cp, rfl, oP, fP, b4'⟩
          have b4 : Below wr.heap.size wr w4 := (Below.refl _ _).drew.trans b4'
          have st4 := ST.out.later b4
          have hb4 := below_step hb b4
          have hPne : ∀ a, AP = some a → a.block ≠ w.heap.size + 1 ∧ a.block ≠ bs ∧ a.block ≠ ga := fun a ha => by
            have h1 := fP a ha
            have h3 := ST.out.e.lt _ rfl
            have h4 := ST.out.s.lt _ rfl
            replace h1 : wr.heap.size ≤ a.block := h1
            simp only at h3 h4
            omega
          have HP := Lib.hid hPne
          clear kb kb1 c1 hPne ST b4'
          obtain ⟨M, hMl⟩ : ∃ M, ((netG net).at v).length = M := ⟨_, rfl⟩
          rw [hMl] at oP ⊢
          have HML := Lib.hid hMl
          clear hMl
          have hM40 : M ≤ 40 := by have := Gr.atK_len (netG net) v (netG net).m; have e : (netG net).m = net.pipes.length := rfl; have := ok.m40; have := HML.out; unfold Gr.at at this; omega
          go_wp2_with fail
          go_loopw [9, 12] (fun o i wr => ∃ (j : Nat) (Ao : Option Addr) (co l : Nat), o = .slice Ao l co ∧ i = .int .i64 j ∧ j ≤ M ∧ lo ≤ l ∧ l ≤ n ∧ Hid (((netG net).visL v s0 (((netG net).at v).take j)).1.length = l) ∧ SSp W.heap.size wr Ao l co (w.heap.size + 1) bs n (nl ((netG net).visL v s0 (((netG net).at v).take j)).1) (mapTo n ((netG net).visL v s0 (((netG net).at v).take j)).2) (memL n ((netG net).visL v s0 (((netG net).at v).take j)).1) ∧ Below W.heap.size W wr ∧ Own wr AP M cp (nl ((netG net).at v)) ∧ Apart Ao AP) (fun _ i _ => M - (intOf i).toNat)
          case atStart => exact ⟨0, some ⟨ga, 0, none⟩, co, lo, rfl, rfl, by omega, by omega, hk2, hlo, st4, hb4, oP, fun a a' h1 h2 => by injection h1 with h1; subst h1; exact Ne.symm (HP.out a' h2).2.2⟩
          case round =>
            obtain ⟨j, Ao, co, l, rfl, rfl, hj, hl1, hl2, hlen, st, hb, oP, hap⟩ := hrel
            by_cases hjl : j < M
            · obtain ⟨gp, rfl, hgp⟩ := oP.pos (by omega)
              have hjl' : j < ((netG net).at v).length := by rw [HML.out]; exact hjl
              obtain ⟨p, hp⟩ : ∃ p, ((netG net).at v)[j] = p := ⟨_, rfl⟩
              have cP := oP.cell (j := j) hjl
              rw [nl_ig hjl', hp] at cP
              have hpm := Gr.mem_at.1 (hp ▸ List.getElem_mem hjl' : p ∈ (netG net).at v)
              have HV : Hid ((netG net).visL v s0 (((netG net).at v).take (j + 1)) = (netG net).vis v ((netG net).visL v s0 (((netG net).at v).take j)) p) := Lib.hid (by
                rw [← Gr.visL_snoc, List.take_add_one, List.getElem?_eq_getElem hjl', hp]; rfl)
              have hiv := HI.out.visL ok.g (((netG net).at v).take j) HVM.out (fun i hi => List.mem_of_mem_take hi)
              obtain ⟨ga2, rfl, hga2⟩ := st.o.pos (by omega)
              have c1 := st.o.cell (j := k) (by omega)
              have hvk : ig (nl ((netG net).visL v s0 (((netG net).at v).take j)).1) k = v := by
                obtain ⟨l', e⟩ := Gr.visL_mono (g := netG net) (v := v) (((netG net).at v).take j) s0
                have h1 := HV0.out
                have h2 : k < s0.1.length := (List.getElem?_eq_some_iff.1 h1).1
                have h3 : k < ((netG net).visL v s0 (((netG net).at v).take j)).1.length := by rw [e, List.length_append]; omega
                rw [nl_ig h3]
                have h4 : ((netG net).visL v s0 (((netG net).at v).take j)).1[k]? = some v := by rw [e, List.getElem?_append_left h2]; exact h1
                rw [(List.getElem?_eq_some_iff.1 h4).2]
              rw [hvk] at c1
              obtain ⟨s1, hs1⟩ : ∃ s1, (netG net).visL v s0 (((netG net).at v).take j) = s1 := ⟨_, rfl⟩
              rw [hs1] at HV hiv hlen st
              obtain ⟨q, hq⟩ : ∃ q, (netG net).oth p v = q := ⟨_, rfl⟩
              have hqn : q < n := by
                have h1 := ok.g p hpm.1
                have h2 := HNn.out
                rw [← hq]; unfold Gr.oth; split <;> omega
              have hpl : p < net.pipes.length := hpm.1
              have hmm : p < m := by rw [← h.pipes.len]; exact hpl
              have hm40 : m ≤ 40 := by rw [← h.pipes.len]; exact ok.m40
              have kb := (bx0.step hb).c0
              have kb1 := (bx0.step hb).c1
              have HPM := Lib.hid hpm.2
              have HPP := Lib.hid hp
              clear hpl hpm hp hs1 hvk
              have hkl : k < l := by omega
              go_wp2_with fail
              go_still_tail 9, (by kernel_rfl)
              change wpList _ _ _ _ _ wr.drew
              go_wp2_with fail
              refine (l02Other_any _ _ _ _ _ _ net p v _ (h.later (below_step HB.out hb.drew)) ok hmm HPM.out).mono ?_
              rintro e w5 ⟨rfl, b5'⟩
              have b5 : Below wr.heap.size wr w5 := (Below.refl _ _).drew.trans b5'
              rw [hq]
              clear cP c1 kb kb1 b5'
              have st5 := st.later b5
              have hb5 := below_step hb b5
              have oP5 := oP.later b5
              have sq := st5.s.cell hqn
              rw [memL_bg hqn] at sq
              by_cases hqm : q ∈ s1.1
              · have hd : decide (q ∈ s1.1) = true := by simp [hqm]
                rw [hd] at sq
                have hvis : (netG net).vis v s1 p = s1 := by unfold Gr.vis; rw [hq, if_pos hqm]
                rw [hvis] at HV
                have ST5 := Lib.hid st5
                clear st st5
                go_wp2_with fail
                go_roundw
                case rel => exact ⟨j + 1, _, co, l, rfl, by go_num, by omega, hl1, hl2, by rw [HV.out]; exact hlen, by rw [HV.out]; exact ST5.out, hb5, oP5, hap⟩
                case measure => simp [intOf]; omega
              · have hd : decide (q ∈ s1.1) = false := by simp [hqm]
                rw [hd] at sq
                have hvis : (netG net).vis v s1 p = (s1.1 ++ [q], upd s1.2 q p) := by unfold Gr.vis; rw [hq, if_neg hqm]
                rw [hvis] at HV
                have eq := st5.e.cell hqn
                have u1 := st5.s.unfrozen q
                have u2 := st5.e.unfrozen q
                have n1 := st5.n1
                have hll := hlen.out
                have cP := oP5.cell (j := j) hjl
                rw [nl_ig hjl', HPP.out] at cP
                have hg2 := HP.out _ rfl
                have g1 : gp ≠ bs := hg2.2.1
                have g2 : gp ≠ w.heap.size + 1 := hg2.1
                have g3 : ga2 ≠ gp := hap _ _ rfl rfl
                obtain ⟨w6, hw6⟩ : ∃ w6, w6 = (w5.setCell ⟨bs, q, none⟩ (.bool true)).setCell ⟨w.heap.size + 1, q, none⟩ (.int .i64 p) := ⟨_, rfl⟩
                have st6 : SSp W.heap.size w6 (some ⟨ga2, 0, none⟩) l co (w.heap.size + 1) bs n (nl s1.1) (mapTo n (upd s1.2 q p)) (memL n (s1.1 ++ [q])) := by
                  rw [hw6, ← mapTo_upd, ← memL_set]
                  exact (st5.putS q true).putE q (z := p) ⟨by omega, by omega⟩
                have b6 : Below W.heap.size W w6 := by rw [hw6]; exact (hb5.setCell (by exact st5.fs) _).setCell (by exact st5.fe) _
                have oP6 : Own w6 (some ⟨gp, 0, none⟩) M cp (nl ((netG net).at v)) := by
                  rw [hw6]
                  exact (oP5.far (fun a ha => by injection ha with ha; subst ha; exact g1) _).far (fun a ha => by injection ha with ha; subst ha; exact g2) _
                have hl3 : l + 1 ≤ n := by
                  have := (HI.out.visL ok.g (((netG net).at v).take (j + 1)) HVM.out (fun i hi => List.mem_of_mem_take hi))
                  rw [HV.out] at this
                  have := nodup_len this.nodup this.lt
                  rw [List.length_append, hll, HNn.out] at this
                  exact this
                have ow7 := st6.o.later (bel1 w6 (.cells #[.int .i64 q] 2))
                have b6s := b6.size
                have cN : (w6.alloc (.cells #[.int .i64 q] 2)).cell? ⟨w5.heap.size, 0, none⟩ = some (.int .i64 q) := by
                  have hsz : w5.heap.size = w6.heap.size := by rw [hw6]; simp [World.setCell]
                  rw [hsz]; exact cell_new1 _ _ _
                have CN := Lib.hid cN
                clear cN
                have HW6 := Lib.hid hw6
                have ST6 := Lib.hid st6
                clear st6 st st5 hw6
                have push : ∀ (o : Obj) (A3 : Option Addr) (c3 : Nat) (w3 : World), (w6.alloc o).grownBy w3 (some ga2) → (A3.map (·.block) = some ga2 ∨ A3.map (·.block) = some (w6.alloc o).heap.size) → Own w3 A3 (l + 1) c3 (nl s1.1 ++ [(q : Int)]) →
                    SSp W.heap.size w3 A3 (l + 1) c3 (w.heap.size + 1) bs n (nl (s1.1 ++ [q])) (mapTo n (upd s1.2 q p)) (memL n (s1.1 ++ [q])) ∧ Below W.heap.size W w3 ∧ Own w3 (some ⟨gp, 0, none⟩) M cp (nl ((netG net).at v)) ∧ Apart A3 (some ⟨gp, 0, none⟩) := by
                  intro o A3 c3 w3 hg3 hb3 ho3
                  have st7 := ST6.out.later (bel1 w6 o)
                  have b7 := below_step b6 (bel1 w6 o)
                  have oP7 := oP6.later (bel1 w6 o)
                  refine ⟨?_, b7.grown hg3 b7.size (fun i hi => fresh_row st7.fo i hi), oP7.aside (A := some ⟨ga2, 0, none⟩) hap hg3, apart_app hap oP7.lt hb3⟩
                  rw [nl_snoc]; exact st7.push hg3 hb3 ho3 b7.size
                have PU := Lib.hid push
                clear push
                go_wp2_with (at_builtin; rw [← HW6.out]; refine law_append _ rfl _ _ rfl (some ⟨ga2, 0, none⟩) _ co _ rfl ow7 _ _ q ⟨by omega, by omega⟩ rfl CN.out (by omega) ?_; intro A3 c3 w3 ho3 hg3 hb3; obtain ⟨r1, r2, r3, r4⟩ := PU.out _ _ _ _ hg3 hb3 ho3)
                go_roundw
                case rel => exact ⟨j + 1, A3, c3, l + 1, rfl, by go_num, by omega, by omega, hl3, by rw [HV.out]; exact Lib.hid (by rw [List.length_append, hll]; rfl), by rw [HV.out]; exact r1, r2, r3, r4⟩
                case measure => simp [intOf]; omega
            · have hjM : M = j := by omega
              subst hjM
              rw [List.take_of_length_le (by rw [HML.out]; omega), ← HR.out] at hlen st
              go_wp2_with fail
              go_roundw
              case rel => exact ⟨k + 1, Ao, co, l, rfl, by go_num, hlen, by omega, hl2, st, hb⟩
              case measure => simp [intOf]; omega
        · have hs := Gr.run_end ok.g (r := r) (by rw [HNn.out]; exact hr) (k := k) (by rw [hlo.out]; omega)
          have hr1 : (netG net).run r k = ((netG net).ord r, (netG net).ent r) := hs
          rw [hr1] at st
          have ho := st.o
          have he := st.e
          have hfo := st.fo
          go_wp2_with fail
          go_ret2
          exact ⟨Ao, lo, co, _, rfl, ho, he, fresh_up hfo (by omega), (fun a ha => by injection ha with ha; subst ha; show w.heap.size ≤ w.heap.size + 1; omega), below_step HB.out hb⟩

end Go.Proofs.Ytllblmndoigdlaa
