/- draws: flow lists -/
import Derived.Test.YtahmhmicegjdkaaK6
namespace Go.Proofs.Ytahmhmicegjdkaa
open Go.RowKit

theorem grown_at {w w' : World} {g b : Nat} (hg : w.grownBy w' (some g)) (h1 : b < w.heap.size) (h2 : b ≠ g) : w'.heap[b]? = w.heap[b]? := hg.block b h1 (fun e => h2 (by injection e))

/-- what a draw of a list gives -/
def DrawnL (w : World) (g : Nat) (A : Option Addr) (n c : Nat) (bs : List Int) (M : Nat) (e : Ending) (w' : World) : Prop :=
  ∃ Al L cl zs, e = .returned (.slice Al L cl) ∧ Own w' Al L cl zs ∧ Fresh w.heap.size Al ∧ L ≤ M ∧ Src w' g A n c bs ∧ w.grownBy w' (some g)

set_option maxRecDepth 100000 in
set_option maxHeartbeats 4000000 in
theorem l05DrawFlows_any (g : Nat) (A : Option Addr) (n c : Nat) (bs : List Int) (An : Option Addr) (k cn : Nat) (Ap : Option Addr) (m cp : Nat) (w : World) (h : Src w g A n c bs) (hm : m ≤ 12) :
    Calls Try.prog 87 #[.pointer (some ⟨g, 0, none⟩), .agg #[.slice An k cn, .slice Ap m cp]] w (DrawnL w g A n c bs 13) := by
  have hlt := h.lt
  have hA := Lib.hid h.blk
  have hA1 : Hid (0 < n → ∀ a, A = some a → a.block < w.heap.size + 1) := Lib.hid fun hn a ha => by have := hA.out hn a ha; omega
  have bx0 := heap_alloc_new w (.cells #[.slice An k cn, .slice Ap m cp] 32)
  obtain ⟨W, hW⟩ : ∃ W, W = w.alloc (.cells #[.slice An k cn, .slice Ap m cp] 32) := ⟨_, rfl⟩
  have o0 := own_lit0 W
  have HWS : Hid (W.heap.size = w.heap.size + 1) := Lib.hid (by rw [hW]; simp)
  have hWs1 : w.heap.size < W.heap.size := by have := HWS.out; omega
  have hWs2 : W.heap.size ≤ w.heap.size + 1 := by have := HWS.out; omega
  have s0 : Src (W.alloc (.cells #[] 2)) g A n c bs := by rw [hW]; exact (h.alloc _).alloc _
  have g0 : W.grownBy (W.alloc (.cells #[] 2)) (some g) := only_alloc (World.grownBy.refl _ _) _
  have gW : w.grownBy W (some g) := by rw [hW]; exact only_alloc (World.grownBy.refl _ _) _
  rw [← hW] at bx0
  have HW := Lib.hid hW
  clear hW
  go_enter Try.func87, Try.ntmps87
  go_wp2_with fail
  rw [← HW.out, ← HWS.out]
  go_loopw [5, 6] (fun p i wr => ∃ (j c5 : Nat) (A5 : Option Addr) (zs : List Int), p = .slice A5 j c5 ∧ i = .int .i64 (j : Int) ∧ j ≤ m ∧ Own wr A5 j c5 zs ∧ Fresh W.heap.size A5 ∧ Src wr g A n c bs ∧ W.grownBy wr (some g)) (fun _ i _ => m - (intOf i).toNat)
  case atStart => exact ⟨0, 0, some ⟨W.heap.size, 0, none⟩, [], rfl, rfl, by omega, o0, (fun a ha => by injection ha with ha; subst ha; exact Nat.le_refl _), s0, g0⟩
  case round =>
    clear o0 s0 g0
    obtain ⟨j, c5, A5, zs, rfl, rfl, hj, oo, fo, hs, hgr⟩ := hrel
    have x1 := (grown_at hgr (b := w.heap.size) (by omega) (by omega)).trans bx0
    have k1 : wr.cell? ⟨w.heap.size, 1, none⟩ = some (.slice Ap m cp) := by rw [cell_blk x1]; rfl
    have hsz := hgr.size
    clear x1
    by_cases hjm : j < m
    · have hji : (j : Int) < (m : Int) := by omega
      go_wp2_with fail
      refine (l01Next_any _ _ _ _ _ _ _ hs).mono ?_
      rintro e w2 ⟨q, rfl, q0, q1, _, hs2, hg2⟩
      have q1' := q1 (by omega)
      clear q1
      have o2 := (oo.lone fo hg2 (by omega)).later (bel1 w2 (.cells #[.int .i64 (q - 30)] 2))
      have gr2 := only_alloc (only_trans hgr hg2) (.cells #[.int .i64 (q - 30)] 2)
      go_wp2_with (at_builtin; refine law_append _ rfl _ _ rfl A5 _ c5 _ rfl o2 _ _ (q - 30) ⟨by omega, by omega⟩ rfl (cell_new1 _ _ _) (by omega) ?_; intro A3 c3 w3 ho3 hg3 hb3)
      have s3 : Src w3 g A n c bs := (hs2.alloc _).new hg3 fo (by omega) (fun hn a ha => by have := hA1.out hn a ha; omega)
      have gr3 := only_new gr2 hg3 (fun i hi => fresh_row fo i hi)
      have f3 := fresh_app fo (by have := gr2.size; exact this) hb3
      clear o2 gr2 hg3 hb3
      go_roundw
      case rel => exact ⟨j + 1, c3, A3, _, rfl, by go_num, by omega, ho3, f3, s3, gr3⟩
      case measure => simp [intOf]; omega
    · have hji : ¬ (j : Int) < (m : Int) := by omega
      go_wp2_with fail
      refine (l01Next_any _ _ _ _ _ _ _ hs).mono ?_
      rintro e w2 ⟨q, rfl, q0, q1, _, hs2, hg2⟩
      have q1' := q1 (by omega)
      clear q1
      have o2 := oo.lone fo hg2 (by omega)
      have gr2 := only_trans hgr hg2
      have hq : q = 0 ∨ q = 1 ∨ 2 ≤ q := by omega
      clear oo hgr hs hg2 k1 bx0
      rcases hq with rfl | rfl | hq
      · have o3 := o2.later (bel1 w2 (.cells #[.int .i64 0] 2))
        have gr3 := only_alloc gr2 (.cells #[.int .i64 0] 2)
        go_wp2_with (at_builtin; refine law_append _ rfl _ _ rfl A5 _ c5 _ rfl o3 _ _ 0 ⟨by decide, by decide⟩ rfl (cell_new1 _ _ _) (by omega) ?_; intro A3 c3 w3 ho3 hg3 hb3)
        go_ret
        exact ⟨A3, j + 1, c3, _, rfl, ho3, fresh_up (fresh_app fo (by have := gr3.size; exact this) hb3) (by omega), by omega, (hs2.alloc _).new hg3 fo (by omega) (fun hn a ha => by have := hA1.out hn a ha; omega), only_trans gW (only_new gr3 hg3 (fun i hi => fresh_row fo i hi))⟩
      · by_cases hj0 : 0 < j
        · have hj0i : (0 : Int) < (j : Int) := by omega
          obtain ⟨ga, rfl, hga⟩ := o2.pos hj0
          have hfa := fo _ rfl
          simp only at hfa
          go_wp2_with fail
          refine (l01Next_any _ _ _ _ _ _ _ (hs2.alloc _)).mono ?_
          rintro e w4 ⟨x, rfl, x0, x1, _, hs4, hg4⟩
          have x1' := x1 (by omega)
          clear x1
          obtain ⟨X, rfl⟩ := Int.eq_ofNat_of_zero_le x0
          have gsz := gr2.size
          have bl := (hg4.block w2.heap.size (by simp) (by intro e; injection e; omega)).trans (heap_alloc_new w2 _)
          have cc := cell_blk bl X
          have o4 := (o2.later (bel1 w2 (.cells #[.int .i64 30000, .int .i64 30001, .int .i64 (-30000)] 2))).lone fo hg4 (by omega)
          have c4 := o4.cell hj0
          have u4 := o4.unfrozen 0
          have gr4 := only_trans (only_alloc gr2 (.cells #[.int .i64 30000, .int .i64 30001, .int .i64 (-30000)] 2)) hg4
          have fin : ∀ z : Int, I64 z → Hid (DrawnL w g A n c bs 13 (.returned (.slice (some ⟨ga, 0, none⟩) j c5)) (w4.setCell ⟨ga, 0, none⟩ (.int .i64 z))) := fun z hz => Lib.hid ⟨_, j, c5, _, rfl, o4.store 0 hz, fresh_up fo (by omega), by omega, hs4.put (by omega) (fun hn a ha => by have := hA1.out hn a ha; omega) _ _, only_trans gW (only_put gr4 (by omega) _ _)⟩
          clear bl o4 gr4 hs4 o2 gr2 hs2
          have hX : X = 0 ∨ X = 1 ∨ X = 2 := by omega
          rcases hX with rfl | rfl | rfl
          · simp at cc
            have F := fin 30000 ⟨by decide, by decide⟩
            go_wp2_with fail
            go_ret
            exact F.out
          · simp at cc
            have F := fin 30001 ⟨by decide, by decide⟩
            go_wp2_with fail
            go_ret
            exact F.out
          · simp at cc
            have F := fin (-30000) ⟨by decide, by decide⟩
            go_wp2_with fail
            go_ret
            exact F.out
        · have hj0i : ¬ (0 : Int) < (j : Int) := by omega
          go_wp2_with fail
          go_ret
          exact ⟨A5, j, c5, _, rfl, o2, fresh_up fo (by omega), by omega, hs2, only_trans gW gr2⟩
      · have e0 : (q == 0) = false := by simp; omega
        have e1 : (q == 1) = false := by simp; omega
        go_wp2_with fail
        go_ret
        exact ⟨A5, j, c5, _, rfl, o2, fresh_up fo (by omega), by omega, hs2, only_trans gW gr2⟩

end Go.Proofs.Ytahmhmicegjdkaa
