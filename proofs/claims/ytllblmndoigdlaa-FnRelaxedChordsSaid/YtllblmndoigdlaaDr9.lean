/- draws: the source of numbers -/
import Derived.Test.YtllblmndoigdlaaB
import Derived.RegionTactic
import Derived.BigRegion
import Derived.Test.YtllblmndoigdlaaMark
namespace Go.Proofs.Ytllblmndoigdlaa
open Go.RowKit

/-- '.slice A n c' reads as the bytes bs -/
structure Bytes (w : World) (A : Option Addr) (n c : Nat) (bs : List Int) : Prop where
  len : bs.length = n
  le : n ≤ c
  cap : c ≤ 9223372036854775807
  rng : ∀ z ∈ bs, 0 ≤ z ∧ z ≤ 255
  cells : 0 < n → ∃ b off, A = some ⟨b, off, none⟩ ∧ b < w.heap.size ∧ ∀ j, j < n → w.cell? ⟨b, off + j, none⟩ = some (.int .u8 (ig bs j))
theorem Bytes.nil {w : World} : Bytes w none 0 0 [] := ⟨rfl, by omega, by omega, by simp, fun h => absurd h (by omega)⟩
theorem Bytes.later {w w' : World} {A : Option Addr} {n c : Nat} {bs : List Int} (h : Bytes w A n c bs) (hb : Below w.heap.size w w') : Bytes w' A n c bs :=
  ⟨h.len, h.le, h.cap, h.rng, fun hn => by
    obtain ⟨b, off, rfl, hlt, hc⟩ := h.cells hn
    exact ⟨b, off, rfl, by have := hb.size; omega, fun j hj => (hb.cell (p := ⟨b, off + j, none⟩) hlt).trans (hc j hj)⟩⟩
theorem Bytes.keep {w w' : World} {A : Option Addr} {n c : Nat} {bs : List Int} (h : Bytes w A n c bs) (hs : w.heap.size ≤ w'.heap.size) (hk : 0 < n → ∀ a, A = some a → w'.heap[a.block]? = w.heap[a.block]?) : Bytes w' A n c bs :=
  ⟨h.len, h.le, h.cap, h.rng, fun hn => by
    obtain ⟨b, off, rfl, hb, hc⟩ := h.cells hn
    exact ⟨b, off, rfl, by omega, fun j hj => (World.cell?_of_block (a := ⟨b, off + j, none⟩) (hk hn ⟨b, off, none⟩ rfl)).trans (hc j hj)⟩⟩
theorem Bytes.at_ {w : World} {A : Option Addr} {n c : Nat} {bs : List Int} (h : Bytes w A n c bs) (j : Nat) : 0 ≤ ig bs j ∧ ig bs j ≤ 255 := by
  rcases Nat.lt_or_ge j bs.length with hj | hj
  · rw [ig_lt hj]; exact h.rng _ (List.getElem_mem hj)
  · rw [ig_ge hj]; exact ⟨by omega, by omega⟩
theorem bytes_of_cells {w : World} {x : Addr} {len cap : Nat} {zs : List Int} (hl : len ≤ cap) (hm : cap ≤ maxLen) (hz : zs.length = cap)
    (hcell : ∀ i, i < zs.length → w.cell? (x.add i) = some (.int .u8 (zs.getD i 0))) (hw : ∀ n ∈ zs, (Lit.int .u8 n).wf = true) : Bytes w (some x) len cap (zs.take len) := by
  refine ⟨by rw [List.length_take]; omega, hl, by unfold maxLen at hm; omega, fun z hz => by
    have := hw z (List.mem_of_mem_take hz)
    simpa [Lit.wf, IntKind.min, IntKind.max, IntKind.signed, IntKind.bits] using this, fun hn => ?_⟩
  obtain ⟨b, off, spot⟩ := x
  have h0 := hcell 0 (by omega)
  have hspot : spot = none := by simpa [Addr.add] using World.cell?_spot h0
  subst hspot
  refine ⟨b, off, rfl, by simpa [Addr.add] using World.block_lt_of_cell? _ _ h0, fun j hj => ?_⟩
  have e : ig (zs.take len) j = zs.getD j 0 := by
    unfold ig; rw [List.getD_eq_getElem?_getD, List.getElem?_take_of_lt hj, List.getD_eq_getElem?_getD]
  rw [e, ← hcell j (by omega)]
  unfold Addr.add
  split
  · rename_i h; rw [h]; rfl
  · rfl

/-- block g is a source of numbers -/
def Src (w : World) (g : Nat) (A : Option Addr) (n c : Nat) (bs : List Int) : Prop :=
  Bytes w A n c bs ∧ (0 < n → ∀ a, A = some a → a.block ≠ g) ∧
  ∃ (t : Nat) (s : Int), t ≤ n ∧ 0 ≤ s ∧ s ≤ 2147483646 ∧ w.heap[g]? = some (.cells #[.slice A n c, .int .i64 (t : Int), .int .i64 s] 86 (0, 0))

theorem Src.keep {w w' : World} {g : Nat} {A : Option Addr} {n c : Nat} {bs : List Int} (h : Src w g A n c bs) (hb : Below w.heap.size w w') : Src w' g A n c bs := by
  obtain ⟨h1, h2, t, s, h3, h4, h5, h6⟩ := h
  exact ⟨h1.later hb, h2, t, s, h3, h4, h5, (hb.block g (Array.getElem?_eq_some_iff.1 h6).1).trans h6⟩

/-- block g alone may have turned -/
theorem only_set {w w' : World} {g : Nat} (h : w.grownBy w' (some g)) (i : Nat) (u : Value) : w.grownBy (w'.setCell ⟨g, i, none⟩ u) (some g) :=
  ⟨h.os, h.tape, h.output, by simpa [World.setCell] using h.size, fun k hk hne => (Below.heap_setCell w' ⟨g, i, none⟩ u k (fun e => hne (by rw [e]))).trans (h.block k hk hne)⟩
theorem only_drewN {a w : World} {row : Option Nat} (h : a.grownBy w row) (n : Nat) : a.grownBy (w.drewN n) row := ⟨h.os, h.tape, h.output, h.size, h.block⟩

theorem bytes_set {w : World} {A : Option Addr} {n c : Nat} {bs : List Int} (h : Bytes w A n c bs) {g : Nat} (hne : 0 < n → ∀ a, A = some a → a.block ≠ g) (i : Nat) (u : Value) : Bytes (w.setCell ⟨g, i, none⟩ u) A n c bs :=
  h.keep (by simp [World.setCell]) fun hn a ha => Below.heap_setCell w ⟨g, i, none⟩ u _ (hne hn a ha)

theorem Bytes.blk {w : World} {A : Option Addr} {n c : Nat} {bs : List Int} (h : Bytes w A n c bs) (hn : 0 < n) : ∀ a, A = some a → a.block < w.heap.size := by
  obtain ⟨b, off, rfl, hb, _⟩ := h.cells hn
  intro a ha; injection ha with ha; subst ha; exact hb

set_option maxHeartbeats 2000000 in
theorem l01From_any (A : Option Addr) (n c : Nat) (bs : List Int) (w : World) (h : Bytes w A n c bs) :
    Calls Try.prog 45 #[.slice A n c] w fun e w' => e = .returned (.pointer (some ⟨w.heap.size, 0, none⟩)) ∧ Src w' w.heap.size A n c bs ∧ Below w.heap.size w w' := by
  have hle := h.le
  have hcap := h.cap
  go_enter Try.func45, Try.ntmps45
  go_wp2_with fail
  go_loopw [4] (fun i wr => ∃ (k : Nat) (s : Int), k ≤ n ∧ 0 ≤ s ∧ s ≤ 2147483646 ∧ i = .int .i64 k ∧ Hid (wr.heap[w.heap.size]? = some (.cells #[.slice A n c, .int .i64 0, .int .i64 s] 86 (0, 0))) ∧ Below w.heap.size w wr) (fun i _ => n - (intOf i).toNat)
  case atStart => exact ⟨0, 50311, by omega, by omega, by omega, rfl, Lib.hid (heap_alloc_new w _), (Below.refl _ _).alloc (Nat.le_refl _) _⟩
  case round =>
    obtain ⟨k, s, hk, hs0, hs1, rfl, hg, hbw⟩ := hrel
    have fin : ∀ wr, wr.heap[w.heap.size]? = some (.cells #[.slice A n c, .int .i64 0, .int .i64 s] 86 (0, 0)) → Below w.heap.size w wr → Src wr w.heap.size A n c bs := by
      intro wr hg hbw
      exact ⟨h.later hbw, fun hn a ha => by have := h.blk hn a ha; omega, 0, s, by omega, hs0, hs1, hg⟩
    by_cases hlt : k < n
    · by_cases h64 : k < 64
      · obtain ⟨b, off, rfl, hbl, hc⟩ := (h.later hbw).cells (by omega)
        have hck := hc k hlt
        obtain ⟨z0, z1⟩ := h.at_ k
        have hc2 := cell_blk hg.out 2
        have hf2 := frozen_blk hg.out 2
        have hset := fun u => heap_set hg.out 2 u
        simp at hc2
        have HSET := Lib.hid hset
        clear hc hset fin
        have hki : (k : Int) < (n : Int) := by omega
        go_wp2_with fail
        go_region
        go_wp2_with fail
        go_roundw
        case rel => exact ⟨k + 1, _, by omega, by omega, by omega, by go_num, Lib.hid (HSET.out _), (hbw.setCell (Nat.le_refl _) _).drew⟩
        case measure => simp [intOf]; omega
      · have hfin := fin _ hg.out hbw
        clear fin
        go_wp2_with fail
        go_ret
        exact ⟨rfl, hfin, hbw⟩
    · have hfin := fin _ hg.out hbw
      clear fin
      go_wp2_with fail
      go_ret
      exact ⟨rfl, hfin, hbw⟩

theorem Bytes.drewN {w : World} {A : Option Addr} {n c : Nat} {bs : List Int} (h : Bytes w A n c bs) (k : Nat) : Bytes (w.drewN k) A n c bs := h.keep (Nat.le_refl _) fun _ _ _ => rfl

/-- what a call of l01Next gives -/
def Nexts (m : Int) (w : World) (g : Nat) (A : Option Addr) (n c : Nat) (bs : List Int) (e : Ending) (w' : World) : Prop :=
  ∃ r : Int, e = .returned (.int .i64 r) ∧ 0 ≤ r ∧ (1 < m → r < m) ∧ (m ≤ 1 → r = 0) ∧ Src w' g A n c bs ∧ w.grownBy w' (some g)

theorem nexts_mk {m : Int} {w w' : World} {g : Nat} {A : Option Addr} {n c : Nat} {bs : List Int} {x s : Int} {t : Nat} (hm : 1 < m) (hne : 0 < n → ∀ a, A = some a → a.block ≠ g)
    (hgr : w.grownBy w' (some g)) (hb : Bytes w' A n c bs) (ht : t ≤ n) (hs : 0 ≤ s) (hs1 : s ≤ 2147483646)
    (hh : w'.heap[g]? = some (.cells #[.slice A n c, .int .i64 (t : Int), .int .i64 s] 86 (0, 0))) : Nexts m w g A n c bs (.returned (.int .i64 (x % m))) w' :=
  ⟨_, rfl, Int.emod_nonneg _ (by omega), fun _ => Int.emod_lt_of_pos _ (by omega), fun h => absurd h (by omega), ⟨hb, hne, t, s, ht, hs, hs1, hh⟩, hgr⟩

set_option maxHeartbeats 4000000 in
theorem l01Next_any (g : Nat) (A : Option Addr) (n c : Nat) (bs : List Int) (m : Int) (w : World) (h : Src w g A n c bs) :
    Calls Try.prog 49 #[.pointer (some ⟨g, 0, none⟩), .int .i64 m] w (Nexts m w g A n c bs) := by
  by_cases hm : m ≤ 1
  · go_enter Try.func49, Try.ntmps49
    go_wp2_with fail
    go_ret
    exact ⟨0, rfl, by omega, fun h => absurd h (by omega), fun _ => rfl, h, World.grownBy.refl _ _⟩
  · obtain ⟨hby, hne, t, s, ht, hs0, hs1, hg⟩ := h
    have hcap := hby.cap
    have hle := hby.le
    have hc0 := cell_blk hg 0
    have hc1 := cell_blk hg 1
    have hc2 := cell_blk hg 2
    simp at hc0 hc1 hc2
    have hf1 := frozen_blk hg 1
    have hf2 := frozen_blk hg 2
    have HG := Lib.hid hg
    have HNE := Lib.hid hne
    clear hg hne
    have hm' : 1 < m := by omega
    by_cases hlt : t < n
    · obtain ⟨b, off, rfl, hbl, hc⟩ := hby.cells (by omega)
      have hck := hc t hlt
      obtain ⟨z0, z1⟩ := hby.at_ t
      have hbg : b ≠ g := HNE.out (by omega) _ rfl
      clear hc
      have HF : ∀ (a d : Nat) (x : Int), Nexts m w g (some ⟨b, off, none⟩) n c bs (.returned (.int .i64 (x % m))) ((((w.setCell ⟨g, 2, none⟩ (.int .i64 ((s * 48271 + 7) % 2147483647))).drewN a).setCell ⟨g, 1, none⟩ (.int .i64 ((t : Int) + 1))).drewN d) := by
        intro a d x
        exact nexts_mk (t := t + 1) hm' HNE.out (only_drewN (only_set (only_drewN (only_set (World.grownBy.refl w (some g)) 2 _) _) 1 _) _) ((bytes_set ((bytes_set hby HNE.out 2 _).drewN _) HNE.out 1 _).drewN _) (by omega) (by omega) (by omega)
          (heap_set (w := (w.setCell ⟨g, 2, none⟩ (.int .i64 ((s * 48271 + 7) % 2147483647))).drewN a) (heap_set HG.out 2 _) 1 _)
      have HF' := Lib.hid HF
      clear HF
      by_cases h256 : m ≤ 256
      · by_cases hev : (t + 1) % 2 = 0
        · have hevi : (((t : Int) + 1) % 2 == 0) = true := by simp; omega
          go_enter Try.func49, Try.ntmps49
          go_wp2_with fail
          go_quiet (fail)
          go_wp2_with fail
          go_quiet (fail)
          go_wp2_with fail
          go_quiet (fail)
          go_wp2_with fail
          go_ret
          exact HF'.out _ _ _
        · have hevi : (((t : Int) + 1) % 2 == 0) = false := by simp; omega
          go_enter Try.func49, Try.ntmps49
          go_wp2_with fail
          go_quiet (fail)
          go_wp2_with fail
          go_quiet (fail)
          go_wp2_with fail
          go_ret
          exact HF'.out _ 0 _
      · go_enter Try.func49, Try.ntmps49
        go_wp2_with fail
        go_quiet (fail)
        go_wp2_with fail
        go_quiet (fail)
        go_wp2_with fail
        go_ret
        exact HF'.out _ 0 _
    · go_enter Try.func49, Try.ntmps49
      go_wp2_with fail
      go_quiet (fail)
      go_wp2_with fail
      go_ret
      exact nexts_mk hm' HNE.out (only_drewN (only_set (World.grownBy.refl w (some g)) 2 _) _) ((bytes_set hby HNE.out 2 _).drewN _) ht (by omega) (by omega) (heap_set HG.out 2 _)

end Go.Proofs.Ytllblmndoigdlaa

/- draws: resistances, flows, drops -/
namespace Go.Proofs.Ytllblmndoigdlaa
open Go.RowKit

theorem only_trans {a b c : World} {g : Nat} (h : a.grownBy b (some g)) (k : b.grownBy c (some g)) : a.grownBy c (some g) :=
  ⟨k.os.trans h.os, k.tape.trans h.tape, k.output.trans h.output, Nat.le_trans h.size k.size, fun i hi hne => (k.block i (Nat.lt_of_lt_of_le hi h.size) hne).trans (h.block i hi hne)⟩
theorem only_new {a b c : World} {g : Nat} {row : Option Nat} (h : a.grownBy b (some g)) (k : b.grownBy c row) (hr : ∀ i, row = some i → a.heap.size ≤ i) : a.grownBy c (some g) :=
  ⟨k.os.trans h.os, k.tape.trans h.tape, k.output.trans h.output, Nat.le_trans h.size k.size, fun i hi hne => (k.block i (Nat.lt_of_lt_of_le hi h.size) (fun e => by have := hr i e.symm; omega)).trans (h.block i hi hne)⟩
theorem only_alloc {a w : World} {row : Option Nat} (h : a.grownBy w row) (o : Obj) : a.grownBy (w.alloc o) row :=
  ⟨h.os, h.tape, h.output, Nat.le_trans h.size (by simp), fun i hi hne => (Below.heap_alloc w o i (Nat.lt_of_lt_of_le hi h.size)).trans (h.block i hi hne)⟩
theorem below_only {a w : World} {B g : Nat} (h : a.grownBy w (some g)) (hB : B ≤ a.heap.size) (hg : B ≤ g) : Below B a w :=
  ⟨h.os, h.tape, h.output, h.size, fun i hi => h.block i (by omega) (fun e => by injection e; omega)⟩
theorem only_below {a w : World} {row : Option Nat} (h : Below a.heap.size a w) : a.grownBy w row := ⟨h.os, h.tape, h.output, h.size, fun i hi _ => h.block i hi⟩
theorem Src.lt {w : World} {g : Nat} {A : Option Addr} {n c : Nat} {bs : List Int} (h : Src w g A n c bs) : g < w.heap.size := by
  obtain ⟨_, _, t, s, _, _, _, h6⟩ := h
  exact (Array.getElem?_eq_some_iff.1 h6).1
theorem Src.alloc {w : World} {g : Nat} {A : Option Addr} {n c : Nat} {bs : List Int} (h : Src w g A n c bs) (o : Obj) : Src (w.alloc o) g A n c bs := h.keep ((Below.refl _ _).alloc (Nat.le_refl _) o)
theorem Src.other {w w' : World} {g : Nat} {A : Option Addr} {n c : Nat} {bs : List Int} (h : Src w g A n c bs) {row : Option Nat} (hg : w.grownBy w' row) (hr : some g ≠ row) (hr2 : 0 < n → ∀ a, A = some a → some a.block ≠ row) : Src w' g A n c bs := by
  obtain ⟨h1, h2, t, s, h3, h4, h5, h6⟩ := h
  refine ⟨h1.keep hg.size fun hn a ha => hg.block _ (h1.blk hn a ha) (hr2 hn a ha), h2, t, s, h3, h4, h5, (hg.block g (Array.getElem?_eq_some_iff.1 h6).1 hr).trans h6⟩
theorem Own.other {w w' : World} {A : Option Addr} {n c : Nat} {zs : List Int} (h : Own w A n c zs) {row : Option Nat} (hg : w.grownBy w' row) (hr : ∀ a, A = some a → some a.block ≠ row) : Own w' A n c zs :=
  h.keep fun a ha => hg.block _ (h.lt a ha) (hr a ha)

/-- a literal list, indexed -/
theorem lit_cell {W w1 : World} {g B : Nat} {cs : Array Value} {T : TypeId} (hb : W.heap[B]? = some (.cells cs T (0, 0))) (hgr : W.grownBy w1 (some g)) (hne : B ≠ g) (k : Nat) (hk : cs.size = k) (r : Int) (h0 : 0 ≤ r) (h1 : r < k) (hall : ∀ v ∈ cs, ∃ z, v = .int .i64 z ∧ I64 z) :
    ∃ z, w1.cell? ⟨B, r.toNat, none⟩ = some (.int .i64 z) ∧ I64 z := by
  have hlt : B < W.heap.size := (Array.getElem?_eq_some_iff.1 hb).1
  have e := (hgr.block B hlt (fun e => hne (by injection e))).trans hb
  have hr : r.toNat < cs.size := by omega
  obtain ⟨z, hz, hi⟩ := hall cs[r.toNat] (Array.getElem_mem hr)
  exact ⟨z, by rw [cell_blk e, Array.getElem?_eq_getElem hr, hz], hi⟩

def sliceLen : Value → Nat | .slice _ n _ => n | _ => 0
theorem cell_new1 (w : World) (v : Value) (T : TypeId) : (w.alloc (.cells #[v] T)).cell? ⟨w.heap.size, 0, none⟩ = some v := by
  rw [cell_blk (heap_alloc_new w (.cells #[v] T))]; rfl
theorem own_lit0 (w : World) : Own (w.alloc (.cells #[] 2)) (some ⟨w.heap.size, 0, none⟩) 0 0 [] :=
  ⟨⟨by simp, .inr ⟨w.heap.size, 0, #[], rfl, Nat.zero_le _, heap_alloc_new w _, Nat.le_refl _, Nat.zero_le _, rfl, rfl⟩⟩, by simp⟩
theorem fresh_app {A A' : Option Addr} {B x : Nat} (h : Fresh B A) (hx : B ≤ x) (hb : A'.map (·.block) = A.map (·.block) ∨ A'.map (·.block) = some x) : Fresh B A' := by
  intro a ha
  subst ha
  rcases hb with hb | hb
  · cases A with
    | none => simp at hb
    | some a' => simp at hb; rw [hb]; exact h a' rfl
  · simp at hb; omega
theorem Src.new {w w' : World} {g : Nat} {A A' : Option Addr} {n c : Nat} {bs : List Int} {B : Nat} (h : Src w g A n c bs) (hg : w.grownBy w' (A'.map (·.block))) (hf : Fresh B A') (hgB : g < B) (hA : 0 < n → ∀ a, A = some a → a.block < B) : Src w' g A n c bs :=
  h.other hg (fun e => by have := fresh_row hf g e.symm; omega) (fun hn a ha e => by have := fresh_row hf _ e.symm; have := hA hn a ha; omega)
theorem Src.blk {w : World} {g : Nat} {A : Option Addr} {n c : Nat} {bs : List Int} (h : Src w g A n c bs) (hn : 0 < n) : ∀ a, A = some a → a.block < w.heap.size := h.1.blk hn
theorem Own.lone {w w' : World} {A : Option Addr} {n c g B : Nat} {zs : List Int} (h : Own w A n c zs) (hf : Fresh B A) (hg : w.grownBy w' (some g)) (hgB : g < B) : Own w' A n c zs :=
  h.other hg (fun a ha e => by injection e with e; have := hf a ha; omega)

theorem wrap64_i64 (x : Int) : I64 (wrap64 x) := by
  unfold wrap64; exact ⟨by omega, by omega⟩

end Go.Proofs.Ytllblmndoigdlaa
