/- draws: resistances, flows, drops -/
import Derived.Test.YtlinofehnpmbgaaSrc
import Derived.Test.YtlinofehnpmbgaaMark
namespace Go.Proofs.Ytlinofehnpmbgaa
open Go.RowKit

theorem only_trans {a b c : World} {g : Nat} (h : a.grownBy b (some g)) (k : b.grownBy c (some g)) : a.grownBy c (some g) :=
  ⟨k.os.trans h.os, k.tape.trans h.tape, k.output.trans h.output, Nat.le_trans h.size k.size, fun i hi hne => (k.block i (Nat.lt_of_lt_of_le hi h.size) hne).trans (h.block i hi hne)⟩
theorem only_new {a b c : World} {g : Nat} {row : Option Nat} (h : a.grownBy b (some g)) (k : b.grownBy c row) (hr : ∀ i, row = some i → a.heap.size ≤ i) : a.grownBy c (some g) :=
  ⟨k.os.trans h.os, k.tape.trans h.tape, k.output.trans h.output, Nat.le_trans h.size k.size, fun i hi hne => (k.block i (Nat.lt_of_lt_of_le hi h.size) (fun e => by have := hr i e.symm; omega)).trans (h.block i hi hne)⟩
theorem only_alloc {a w : World} {row : Option Nat} (h : a.grownBy w row) (o : Obj) : a.grownBy (w.alloc o) row :=
  ⟨h.os, h.tape, h.output, Nat.le_trans h.size (by simp), fun i hi hne => (Below.heap_alloc w o i (Nat.lt_of_lt_of_le hi h.size)).trans (h.block i hi hne)⟩
theorem below_only {a w : World} {B g : Nat} (h : a.grownBy w (some g)) (hB : B ≤ a.heap.size) (hg : B ≤ g) : Below B a w :=
  ⟨h.os, h.tape, h.output, h.size, fun i hi => h.block i (by omega) (fun e => by injection e; omega)⟩
theorem only_below {a w : World} {row : Option Nat} (h : Below a.heap.size a w) : a.grownBy w row := ⟨h.os, h.tape, h.output, h.size, fun i hi _ => h.block i hi⟩
theorem Src.lt {w : World} {g : Nat} {A : Option Addr} {n c : Nat} {bs : List Int} (h : Src w g A n c bs) : g < w.heap.size := by
  obtain ⟨_, _, t, s, _, _, _, h6⟩ := h
  exact (Array.getElem?_eq_some_iff.1 h6).1
theorem Src.alloc {w : World} {g : Nat} {A : Option Addr} {n c : Nat} {bs : List Int} (h : Src w g A n c bs) (o : Obj) : Src (w.alloc o) g A n c bs := h.keep ((Below.refl _ _).alloc (Nat.le_refl _) o)
theorem Src.other {w w' : World} {g : Nat} {A : Option Addr} {n c : Nat} {bs : List Int} (h : Src w g A n c bs) {row : Option Nat} (hg : w.grownBy w' row) (hr : some g ≠ row) (hr2 : 0 < n → ∀ a, A = some a → some a.block ≠ row) : Src w' g A n c bs := by
  obtain ⟨h1, h2, t, s, h3, h4, h5, h6⟩ := h
  refine ⟨h1.keep hg.size fun hn a ha => hg.block _ (h1.blk hn a ha) (hr2 hn a ha), h2, t, s, h3, h4, h5, (hg.block g (Array.getElem?_eq_some_iff.1 h6).1 hr).trans h6⟩
theorem Own.other {w w' : World} {A : Option Addr} {n c : Nat} {zs : List Int} (h : Own w A n c zs) {row : Option Nat} (hg : w.grownBy w' row) (hr : ∀ a, A = some a → some a.block ≠ row) : Own w' A n c zs :=
  h.keep fun a ha => hg.block _ (h.lt a ha) (hr a ha)

/-- a literal list, indexed -/
theorem lit_cell {W w1 : World} {g B : Nat} {cs : Array Value} {T : TypeId} (hb : W.heap[B]? = some (.cells cs T (0, 0))) (hgr : W.grownBy w1 (some g)) (hne : B ≠ g) (k : Nat) (hk : cs.size = k) (r : Int) (h0 : 0 ≤ r) (h1 : r < k) (hall : ∀ v ∈ cs, ∃ z, v = .int .i64 z ∧ I64 z) :
    ∃ z, w1.cell? ⟨B, r.toNat, none⟩ = some (.int .i64 z) ∧ I64 z := by
  have hlt : B < W.heap.size := (Array.getElem?_eq_some_iff.1 hb).1
  have e := (hgr.block B hlt (fun e => hne (by injection e))).trans hb
  have hr : r.toNat < cs.size := by omega
  obtain ⟨z, hz, hi⟩ := hall cs[r.toNat] (Array.getElem_mem hr)
  exact ⟨z, by rw [cell_blk e, Array.getElem?_eq_getElem hr, hz], hi⟩

set_option maxHeartbeats 1000000 in
theorem l09DrawFlow_any (g : Nat) (A : Option Addr) (n c : Nat) (bs : List Int) (w : World) (h : Src w g A n c bs) :
    Calls Try.prog 62 #[.pointer (some ⟨g, 0, none⟩)] w fun e w' => ∃ r : Int, e = .returned (.int .i64 r) ∧ I64 r ∧ Src w' g A n c bs ∧ w.grownBy w' (some g) := by
  have hlt := h.lt
  go_enter Try.func62, Try.ntmps62
  go_wp2_with fail
  refine (l01Next_any _ _ _ _ _ _ _ h).mono ?_
  rintro e w1 ⟨r, rfl, r0, r1, _, hs1, hg1⟩
  by_cases hr : r = 0
  · subst hr
    go_wp2_with fail
    refine (l01Next_any _ _ _ _ _ _ _ (hs1.alloc _)).mono ?_
    rintro e w2 ⟨q, rfl, q0, q1, _, hs2, hg2⟩
    have q1' := q1 (by omega)
    obtain ⟨z, hz, hi⟩ := lit_cell (heap_alloc_new w1 _) hg2 (by have := hg1.size; omega) 4 rfl q q0 q1' (by simp [I64])
    clear q1
    go_wp2_with fail
    go_ret
    exact ⟨z, rfl, hi, hs2, only_trans hg1 (only_trans (only_alloc (World.grownBy.refl _ _) _) hg2)⟩
  · have hr' : (r == 0) = false := by simp [hr]
    clear hr
    go_wp2_with fail
    refine (l01Next_any _ _ _ _ _ _ _ hs1).mono ?_
    rintro e w2 ⟨q, rfl, q0, q1, _, hs2, hg2⟩
    have q1' := q1 (by omega)
    clear q1
    go_wp2_with fail
    go_ret
    exact ⟨q, rfl, ⟨by omega, by omega⟩, hs2, only_trans hg1 hg2⟩

set_option maxHeartbeats 1000000 in
theorem l09DrawDrop_any (g : Nat) (A : Option Addr) (n c : Nat) (bs : List Int) (w : World) (h : Src w g A n c bs) :
    Calls Try.prog 64 #[.pointer (some ⟨g, 0, none⟩)] w fun e w' => ∃ r : Int, e = .returned (.int .i64 r) ∧ I64 r ∧ Src w' g A n c bs ∧ w.grownBy w' (some g) := by
  have hlt := h.lt
  go_enter Try.func64, Try.ntmps64
  go_wp2_with fail
  refine (l01Next_any _ _ _ _ _ _ _ h).mono ?_
  rintro e w1 ⟨r, rfl, r0, r1, _, hs1, hg1⟩
  by_cases hr : r = 0
  · subst hr
    go_wp2_with fail
    refine (l01Next_any _ _ _ _ _ _ _ (hs1.alloc _)).mono ?_
    rintro e w2 ⟨q, rfl, q0, q1, _, hs2, hg2⟩
    have q1' := q1 (by omega)
    obtain ⟨z, hz, hi⟩ := lit_cell (heap_alloc_new w1 _) hg2 (by have := hg1.size; omega) 4 rfl q q0 q1' (by simp [I64])
    clear q1
    go_wp2_with fail
    go_ret
    exact ⟨z, rfl, hi, hs2, only_trans hg1 (only_trans (only_alloc (World.grownBy.refl _ _) _) hg2)⟩
  · have hr' : (r == 0) = false := by simp [hr]
    clear hr
    go_wp2_with fail
    refine (l01Next_any _ _ _ _ _ _ _ hs1).mono ?_
    rintro e w2 ⟨q, rfl, q0, q1, _, hs2, hg2⟩
    have q1' := q1 (by omega)
    clear q1
    go_wp2_with fail
    go_ret
    exact ⟨q, rfl, ⟨by omega, by omega⟩, hs2, only_trans hg1 hg2⟩

def sliceLen : Value → Nat | .slice _ n _ => n | _ => 0
theorem cell_new1 (w : World) (v : Value) (T : TypeId) : (w.alloc (.cells #[v] T)).cell? ⟨w.heap.size, 0, none⟩ = some v := by
  rw [cell_blk (heap_alloc_new w (.cells #[v] T))]; rfl
theorem own_lit0 (w : World) : Own (w.alloc (.cells #[] 2)) (some ⟨w.heap.size, 0, none⟩) 0 0 [] :=
  ⟨⟨by simp, .inr ⟨w.heap.size, 0, #[], rfl, Nat.zero_le _, heap_alloc_new w _, Nat.le_refl _, Nat.zero_le _, rfl, rfl⟩⟩, by simp⟩
theorem fresh_app {A A' : Option Addr} {B x : Nat} (h : Fresh B A) (hx : B ≤ x) (hb : A'.map (·.block) = A.map (·.block) ∨ A'.map (·.block) = some x) : Fresh B A' := by
  intro a ha
  subst ha
  rcases hb with hb | hb
  · cases A with
    | none => simp at hb
    | some a' => simp at hb; rw [hb]; exact h a' rfl
  · simp at hb; omega
theorem Src.new {w w' : World} {g : Nat} {A A' : Option Addr} {n c : Nat} {bs : List Int} {B : Nat} (h : Src w g A n c bs) (hg : w.grownBy w' (A'.map (·.block))) (hf : Fresh B A') (hgB : g < B) (hA : 0 < n → ∀ a, A = some a → a.block < B) : Src w' g A n c bs :=
  h.other hg (fun e => by have := fresh_row hf g e.symm; omega) (fun hn a ha e => by have := fresh_row hf _ e.symm; have := hA hn a ha; omega)
theorem Src.blk {w : World} {g : Nat} {A : Option Addr} {n c : Nat} {bs : List Int} (h : Src w g A n c bs) (hn : 0 < n) : ∀ a, A = some a → a.block < w.heap.size := h.1.blk hn
theorem Own.lone {w w' : World} {A : Option Addr} {n c g B : Nat} {zs : List Int} (h : Own w A n c zs) (hf : Fresh B A) (hg : w.grownBy w' (some g)) (hgB : g < B) : Own w' A n c zs :=
  h.other hg (fun a ha e => by injection e with e; have := hf a ha; omega)

set_option maxHeartbeats 2000000 in
theorem l09Draw_any (g : Nat) (A : Option Addr) (n c : Nat) (bs : List Int) (w : World) (h : Src w g A n c bs) :
    Calls Try.prog 68 #[.pointer (some ⟨g, 0, none⟩)] w fun e w' => ∃ A' n' c' zs, e = .returned (.slice A' n' c') ∧ Own w' A' n' c' zs ∧ n' ≤ 64 ∧ Fresh w.heap.size A' ∧ Src w' g A n c bs ∧ w.grownBy w' (some g) := by
  have hlt := h.lt
  go_enter Try.func68, Try.ntmps68
  go_wp2_with fail
  refine (l01Next_any _ _ _ _ _ _ _ (h.alloc _)).mono ?_
  rintro e w1 ⟨r, rfl, r0, r1, _, hs1, hg1⟩
  have r1' := r1 (by omega)
  clear r1
  go_wp2_with fail
  have hsz := hg1.size
  simp only [World.size_alloc] at hsz
  have o1 : Own w1 (some ⟨w.heap.size, 0, none⟩) 0 0 [] := (own_lit0 w).lone (B := w.heap.size) (by intro a ha; injection ha with ha; subst ha; exact Nat.le_refl _) hg1 hlt
  have gr1 : w.grownBy w1 (some g) := only_trans (only_alloc (World.grownBy.refl _ _) _) hg1
  have hA := Lib.hid h.blk
  go_loopw [3, 4] (fun o i wr => ∃ (A' : Option Addr) (k c' j : Nat) (zs : List Int), o = .slice A' k c' ∧ i = .int .i64 (j : Int) ∧ 1 ≤ k + j ∧ k + j ≤ 4 ∧ Own wr A' k c' zs ∧ Fresh w.heap.size A' ∧ Src wr g A n c bs ∧ w.grownBy wr (some g)) (fun _ i _ => (intOf i).toNat)
  case atStart =>
    obtain ⟨r', rfl⟩ := Int.eq_ofNat_of_zero_le r0
    exact ⟨_, 0, 0, 1 + r', [], rfl, by go_num, by omega, by omega, o1, by intro a ha; injection ha with ha; subst ha; exact Nat.le_refl _, hs1, gr1⟩
  case round =>
    obtain ⟨A', k, c', j, zs, rfl, rfl, hj1, hj4, ho, hf, hs, hgr⟩ := hrel
    clear o1 gr1 hs1 hg1 hsz
    have hsz := hgr.size
    cases j with
    | succ j =>
      go_wp2_with fail
      refine (l01Next_any _ _ _ _ _ _ _ hs).mono ?_
      rintro e w2 ⟨q, rfl, q0, q1, _, hs2, hg2⟩
      have q1' := q1 (by omega)
      clear q1
      have hsz2 := hg2.size
      have ho2 := (ho.lone hf hg2 hlt).later ((Below.refl _ _).alloc (Nat.le_refl _) (.cells #[.int .i64 (1 + q)] 2))
      go_wp2_with (at_builtin; refine law_append _ rfl _ _ rfl A' k c' zs rfl ho2 _ _ (1 + q) ⟨by omega, by omega⟩ rfl (cell_new1 _ _ _) (by omega) ?_; intro A3 c3 w3 ho3 hg3 hb3)
      have hf3 : Fresh w.heap.size A3 := fresh_app hf (by simp; omega) hb3
      have hs3 : Src w3 g A n c bs := (hs2.alloc _).new hg3 hf hlt hA.out
      have hgr3 : w.grownBy w3 (some g) := only_new (only_alloc (only_trans hgr hg2) _) hg3 (fresh_row hf)
      go_roundw
      case rel => exact ⟨A3, k + 1, c3, j, zs ++ [1 + q], rfl, by go_num, by omega, by omega, ho3, hf3, hs3, hgr3⟩
      case measure => simp [intOf]
    | zero =>
      go_wp2_with fail
      refine (l01Next_any _ _ _ _ _ _ _ hs).mono ?_
      rintro e w2 ⟨q, rfl, q0, q1, _, hs2, hg2⟩
      have q1' := q1 (by omega)
      clear q1
      have hgr2 := only_trans hgr hg2
      have ho2 := ho.lone hf hg2 hlt
      have hsz2 := hgr2.size
      clear ho hs hgr hg2
      by_cases c0 : q = 0
      · subst c0
        obtain ⟨G, rfl, hG⟩ := ho2.pos (by omega)
        go_wp2_with fail
        refine (l01Next_any _ _ _ _ _ _ _ (hs2.alloc _)).mono ?_
        rintro e w3 ⟨p, rfl, p0, p1, _, hs3, hg3⟩
        have p1' := p1 (by omega)
        clear p1
        obtain ⟨z, hz, hi⟩ := lit_cell (heap_alloc_new w2 _) hg3 (by omega) 3 rfl p p0 p1' (by simp [I64])
        have ho3 := (ho2.later ((Below.refl _ _).alloc (Nat.le_refl _) _)).lone hf hg3 hlt
        have hcl := ho3.cell (j := 0) (by omega)
        have hfr := ho3.unfrozen 0
        have hk0 : 0 < k := by omega
        have hfG := hf _ rfl
        simp only at hfG
        have ho4 := ho3.store 0 hi
        have hs4 : Src (w3.setCell ⟨G, 0, none⟩ (.int .i64 z)) g A n c bs := hs3.other (row := some G) (only_set (World.grownBy.refl _ _) 0 _) (fun e => by injection e; omega) (fun hn a ha e => by have := hA.out hn a ha; injection e; omega)
        have hgr4 : w.grownBy (w3.setCell ⟨G, 0, none⟩ (.int .i64 z)) (some g) := only_new (only_trans (only_alloc hgr2 _) hg3) (row := some G) (only_set (World.grownBy.refl _ _) 0 _) (fun i hi => by injection hi; omega)
        have HO4 := Lib.hid ho4
        have HS4 := Lib.hid hs4
        have HGR4 := Lib.hid hgr4
        clear ho4 hs4 hgr4
        go_wp2_with fail
        go_ret
        exact ⟨_, _, _, _, rfl, HO4.out, by omega, hf, HS4.out, HGR4.out⟩
      · by_cases c1 : q = 1
        · subst c1
          go_wp2_with fail
          go_loopw [3] (fun o wr => ∃ (A' : Option Addr) (k c' : Nat) (zs : List Int), o = .slice A' k c' ∧ k ≤ 9 ∧ Own wr A' k c' zs ∧ Fresh w.heap.size A' ∧ Src wr g A n c bs ∧ w.grownBy wr (some g)) (fun o _ => 9 - sliceLen o)
          case atStart => exact ⟨A', k, c', zs, rfl, by omega, ho2, hf, hs2, hgr2⟩
          case round =>
            obtain ⟨A', k, c', zs, rfl, hk9, ho, hf, hs, hgr⟩ := hrel
            have hsz := hgr.size
            go_wp2_with fail
            refine (l01Next_any _ _ _ _ _ _ _ hs).mono ?_
            rintro e w2 ⟨q, rfl, q0, q1, _, hs2, hg2⟩
            have q1' := q1 (by omega)
            clear q1
            have hsz2 := hg2.size
            by_cases hkq : (k : Int) < 8 + q
            · have ho2 := (ho.lone hf hg2 hlt).later ((Below.refl _ _).alloc (Nat.le_refl _) (.cells #[.int .i64 5] 2))
              go_wp2_with (at_builtin; refine law_append _ rfl _ _ rfl A' k c' zs rfl ho2 _ _ 5 ⟨by omega, by omega⟩ rfl (cell_new1 _ _ _) (by omega) ?_; intro A3 c3 w3 ho3 hg3 hb3)
              have hf3 : Fresh w.heap.size A3 := fresh_app hf (by simp; omega) hb3
              have hs3 : Src w3 g A n c bs := (hs2.alloc _).new hg3 hf hlt hA.out
              have hgr3 : w.grownBy w3 (some g) := only_new (only_alloc (only_trans hgr hg2) _) hg3 (fresh_row hf)
              go_roundw
              case rel => exact ⟨A3, k + 1, c3, zs ++ [5], rfl, by omega, ho3, hf3, hs3, hgr3⟩
              case measure => simp [sliceLen]; omega
            · have ho2 := ho.lone hf hg2 hlt
              go_wp2_with fail
              go_ret
              exact ⟨_, _, _, _, rfl, ho2, by omega, hf, hs2, only_trans hgr hg2⟩
        · by_cases c2 : q = 2
          · subst c2
            go_wp2_with fail
            go_ret
            exact ⟨_, _, _, _, rfl, Own.nil, by omega, (by intro a ha; cases ha), hs2, hgr2⟩
          · have e0 : (q == 0) = false := by simp [c0]
            have e1 : (q == 1) = false := by simp [c1]
            have e2 : (q == 2) = false := by simp [c2]
            clear c0 c1 c2
            go_wp2_with fail
            go_ret
            exact ⟨_, _, _, _, rfl, ho2, by omega, hf, hs2, hgr2⟩

set_option maxHeartbeats 2000000 in
theorem DrawDropFor_any (A : Option Addr) (n c : Nat) (bs : List Int) (w : World) (h : Bytes w A n c bs) :
    Calls Try.prog 73 #[.slice A n c] w fun e w' => ∃ A' n' c' zs f, e = .returned (.tuple #[.slice A' n' c', .int .i64 f]) ∧ Own w' A' n' c' zs ∧ n' ≤ 64 ∧ I64 f ∧ Below w.heap.size w w' := by
  go_enter Try.func73, Try.ntmps73
  go_wp2_with fail
  refine (l01From_any _ _ _ _ _ h).mono ?_
  rintro e w1 ⟨rfl, s1, b1⟩
  go_wp2_with fail
  refine (l09Draw_any _ _ _ _ _ _ s1).mono ?_
  rintro e w2 ⟨A2, n2, c2, zs, rfl, o2, hn2, f2, s2, g2⟩
  go_wp2_with fail
  refine (l09DrawFlow_any _ _ _ _ _ _ s2).mono ?_
  rintro e w3 ⟨f, rfl, hf, s3, g3⟩
  have hl := s1.lt
  go_wp2_with fail
  go_ret2
  exact ⟨_, _, _, zs, f, rfl, o2.lone (B := w1.heap.size) f2 g3 hl, hn2, hf, b1.trans ((below_only g2 (by omega) (Nat.le_refl _)).trans (below_only g3 (by have := g2.size; omega) (Nat.le_refl _)))⟩

set_option maxHeartbeats 2000000 in
theorem DrawParallelFlow_any (A : Option Addr) (n c : Nat) (bs : List Int) (w : World) (h : Bytes w A n c bs) :
    Calls Try.prog 26 #[.slice A n c] w fun e w' => ∃ A' n' c' zs f, e = .returned (.tuple #[.slice A' n' c', .int .i64 f]) ∧ Own w' A' n' c' zs ∧ n' ≤ 64 ∧ I64 f ∧ Below w.heap.size w w' := by
  go_enter Try.func26, Try.ntmps26
  go_wp2_with fail
  refine (l01From_any _ _ _ _ _ h).mono ?_
  rintro e w1 ⟨rfl, s1, b1⟩
  go_wp2_with fail
  refine (l09Draw_any _ _ _ _ _ _ s1).mono ?_
  rintro e w2 ⟨A2, n2, c2, zs, rfl, o2, hn2, f2, s2, g2⟩
  go_wp2_with fail
  refine (l09DrawDrop_any _ _ _ _ _ _ s2).mono ?_
  rintro e w3 ⟨f, rfl, hf, s3, g3⟩
  have hl := s1.lt
  go_wp2_with fail
  go_ret2
  exact ⟨_, _, _, zs, f, rfl, o2.lone (B := w1.heap.size) f2 g3 hl, hn2, hf, b1.trans ((below_only g2 (by omega) (Nat.le_refl _)).trans (below_only g3 (by have := g2.size; omega) (Nat.le_refl _)))⟩

set_option maxHeartbeats 2000000 in
theorem DrawSplitFlow_any (A : Option Addr) (n c : Nat) (bs : List Int) (w : World) (h : Bytes w A n c bs) :
    Calls Try.prog 31 #[.slice A n c] w fun e w' => ∃ A' n' c' zs f, e = .returned (.tuple #[.slice A' n' c', .int .i64 f]) ∧ Own w' A' n' c' zs ∧ n' ≤ 64 ∧ I64 f ∧ Below w.heap.size w w' := by
  go_enter Try.func31, Try.ntmps31
  go_wp2_with fail
  refine (DrawDropFor_any _ _ _ _ _ h).mono ?_
  rintro e w1 ⟨A', n', c', zs, f, rfl, h1, h2, h3, h4⟩
  go_wp2_with fail
  go_ret2
  exact ⟨A', n', c', zs, f, rfl, h1, h2, h3, h4⟩

theorem wrap64_i64 (x : Int) : I64 (wrap64 x) := by
  unfold wrap64; exact ⟨by omega, by omega⟩

set_option maxHeartbeats 2000000 in
theorem DrawBestResistance_any (A : Option Addr) (n c : Nat) (bs : List Int) (w : World) (h : Bytes w A n c bs) :
    Calls Try.prog 22 #[.slice A n c] w fun e w' => ∃ f d, e = .returned (.tuple #[.int .i64 f, .int .i64 d]) ∧ I64 f ∧ I64 d ∧ Below w.heap.size w w' := by
  go_enter Try.func22, Try.ntmps22
  go_wp2_with fail
  refine (l01From_any _ _ _ _ _ h).mono ?_
  rintro e w1 ⟨rfl, s1, b1⟩
  go_wp2_with fail
  refine (l09DrawFlow_any _ _ _ _ _ _ s1).mono ?_
  rintro e w2 ⟨f, rfl, hf, s2, g2⟩
  go_wp2_with fail
  refine (l01Next_any _ _ _ _ _ _ _ s2).mono ?_
  rintro e w3 ⟨r, rfl, r0, r1, _, s3, g3⟩
  have hl := s1.lt
  have hg := only_trans g2 g3
  by_cases hr : r = 0
  · subst hr
    clear r1
    go_wp2_with fail
    refine (l09DrawDrop_any _ _ _ _ _ _ s3).mono ?_
    rintro e w4 ⟨d, rfl, hd, s4, g4⟩
    go_wp2_with fail
    go_ret2
    exact ⟨f, d, rfl, hf, hd, b1.trans (below_only (only_trans hg g4) (by omega) (Nat.le_refl _))⟩
  · have hr' : (r == 0) = false := by simp [hr]
    clear hr r1
    go_wp2_with fail
    refine (l01Next_any _ _ _ _ _ _ _ s3).mono ?_
    rintro e w4 ⟨q, rfl, q0, q1, _, s4, g4⟩
    have q1' := q1 (by omega)
    clear q1
    go_wp2_with fail
    all_goals
      go_ret2
      refine ⟨f, _, rfl, hf, ?_, b1.trans (below_only (only_trans hg g4) (by omega) (Nat.le_refl _))⟩
      first | exact wrap64_i64 _ | exact ⟨by omega, by omega⟩

end Go.Proofs.Ytlinofehnpmbgaa
