/- draws: loops, chords, flows -/
import Derived.Test.YtahmhmicegjdkaaK4
namespace Go.Proofs.Ytahmhmicegjdkaa
open Go.RowKit

theorem DA.start {w w1 : World} {g : Nat} {A : Option Addr} {n c : Nat} {bs : List Int} {An : Option Addr} {k cn : Nat} {Ap : Option Addr} {m cp : Nat} {ns : List Node} {ps : List Pipe} (h : Src w g A n c bs)
    (hd : DN (w.alloc (.cells #[.slice none 0 0, .slice none 0 0] 32)).heap.size w1 An k cn Ap m cp ns ps) (hs1 : Src w1 g A n c bs) (hg1 : (w.alloc (.cells #[.slice none 0 0, .slice none 0 0] 32)).grownBy w1 (some g)) :
    DA w g A n c bs w.heap.size w1.heap.size An k cn Ap m cp ns ps (w1.alloc (.cells #[.slice An k cn, .slice Ap m cp] 32)) := by
  have hlt := h.lt
  have hsz1 := hg1.size
  have hfn := hd.fn
  have hfp := hd.fp
  simp only [World.size_alloc] at hfn hfp hsz1
  have d2 := hd.alloc (.cells #[.slice An k cn, .slice Ap m cp] 32)
  exact ⟨d2.on, d2.op, heap_alloc_new _ _, (Below.heap_alloc _ _ _ (by omega)).trans ((hg1.block w.heap.size (by simp) (by intro e; injection e; omega)).trans (heap_alloc_new w _)), hd.ne, fun a ha => ⟨by have := hd.on.lt a ha; omega, hfn a ha⟩, fun a ha => ⟨by have := hd.op.lt a ha; omega, hfp a ha⟩, hd.np, hs1.alloc _, only_alloc (only_trans (only_alloc (World.grownBy.refl _ _) _) hg1) _, hlt, h.blk, rfl, by omega⟩
/-- another network, stored -/
theorem DA.replace {w W W' : World} {g : Nat} {A : Option Addr} {n c : Nat} {bs : List Int} {b2 b3 : Nat} {An : Option Addr} {k cn : Nat} {Ap : Option Addr} {m cp : Nat} {ns : List Node} {ps : List Pipe} {An' : Option Addr} {k' cn' : Nat} {Ap' : Option Addr} {m' cp' : Nat} {ns' : List Node} {ps' : List Pipe}
    (h : DA w g A n c bs b2 b3 An k cn Ap m cp ns ps W) (hd : DN W.heap.size W' An' k' cn' Ap' m' cp' ns' ps') (hs : Src W' g A n c bs) (hg : W.grownBy W' (some g)) :
    DA w g A n c bs b2 b3 An' k' cn' Ap' m' cp' ns' ps' ((W'.setCell ⟨b3, 0, none⟩ (.slice An' k' cn')).setCell ⟨b3, 1, none⟩ (.slice Ap' m' cp')) := by
  have hn := h.next hg hs
  have hl := h.lt
  have e1 := h.hg; have e2 := h.h2; have e3 := h.h3
  have s1 := hn.srcPut (b := b3) (by omega) 0 (.slice An' k' cn')
  have hfn : ∀ a, An' = some a → a.block ≠ b3 := fun a ha => by have := hd.fn a ha; omega
  have hfp : ∀ a, Ap' = some a → a.block ≠ b3 := fun a ha => by have := hd.fp a ha; omega
  refine ⟨(hd.on.keepOther (p := ⟨b3, 0, none⟩) hfn _).keepOther (p := ⟨b3, 1, none⟩) hfn _, (hd.op.keepOther (p := ⟨b3, 0, none⟩) hfp _).keepOther (p := ⟨b3, 1, none⟩) hfp _, by rw [heap_set (heap_set hn.xb 0 _)]; rfl, (Below.heap_setCell _ _ _ _ (by show b2 ≠ b3; omega)).trans ((Below.heap_setCell _ _ _ _ (by show b2 ≠ b3; omega)).trans hn.x2), hd.ne, fun a ha => ⟨hfn a ha, by have := hd.fn a ha; omega⟩, fun a ha => ⟨hfp a ha, by have := hd.fp a ha; omega⟩, hd.np, ?_, ?_, h.hg, h.hA, h.h2, h.h3⟩
  · exact s1.1.put (by omega) (fun hn' a ha => by have := h.hA hn' a ha; omega) _ _
  · exact only_put s1.2 (by omega) _ _

set_option maxRecDepth 100000 in
set_option maxHeartbeats 4000000 in
theorem l05DrawLoops_any (g : Nat) (A : Option Addr) (n c : Nat) (bs : List Int) (w : World) (h : Src w g A n c bs) :
    Calls Try.prog 131 #[.pointer (some ⟨g, 0, none⟩)] w (Drawn w g A n c bs 1 12) := by
  have hlt := h.lt
  have hA := Lib.hid h.blk
  have hA1 : Hid (0 < n → ∀ a, A = some a → a.block < w.heap.size + 1) := Lib.hid fun hn a ha => by have := hA.out hn a ha; omega
  go_enter Try.func131, Try.ntmps131
  go_wp2_with fail
  refine (l02Draw_any _ _ _ _ _ _ (h.alloc _)).mono ?_
  rintro e w1 ⟨An, k, cn, Ap, m, cp, ns, ps, rfl, hd, hk1, hk7, hm, hs1, hg1⟩
  have hsz1 := hg1.size
  simp only [World.size_alloc] at hsz1
  have st0 := DA.start h hd hs1 hg1
  obtain ⟨gp, rfl, hgp⟩ : ∃ gp, Ap = some ⟨gp, 0, none⟩ ∧ gp < w1.heap.size := by
    rcases row_form hd.op.row with ⟨h1, _⟩ | ⟨gp, h1, h2, _⟩
    · exact absurd h1 hd.np
    · exact ⟨gp, h1, h2⟩
  obtain ⟨w2, hw2⟩ : ∃ w2, w2 = w1.alloc (.cells #[.slice An k cn, .slice (some ⟨gp, 0, none⟩) m cp] 32) := ⟨_, rfl⟩
  have hw2s : w2.heap.size = w1.heap.size + 1 := by rw [hw2]; simp
  rw [← hw2] at st0
  have HW2 := Lib.hid hw2
  have hnlt : ∀ a, An = some a → a.block < w1.heap.size := hd.on.lt
  have k0 := st0.c30
  have k1 := st0.c31
  rw [hw2] at k0 k1
  have d2 : DN (w.heap.size + 1) (w2.alloc (.cells #[] 77)) An k cn (some ⟨gp, 0, none⟩) m cp ns ps := by rw [hw2]; have := (hd.alloc (.cells #[.slice An k cn, .slice (some ⟨gp, 0, none⟩) m cp] 32)).alloc (.cells #[] 77); simpa using this
  have lit := ownP_lit0 w2
  have hopA := d2.op
  have HD2 := Lib.hid d2
  have g2 : (w.alloc (.cells #[.slice none 0 0, .slice none 0 0] 32)).grownBy (w2.alloc (.cells #[] 77)) (some g) := by rw [hw2]; exact only_alloc (only_alloc hg1 _) _
  have HG2 := Lib.hid g2
  have s2 : Src (w2.alloc (.cells #[] 77)) g A n c bs := st0.src.alloc _
  have HS2 := Lib.hid s2
  have HX := Lib.hid ((Below.heap_alloc w2 (.cells #[] 77) w1.heap.size (by omega)).trans st0.xb)
  clear hd hs1 hg1 st0 hw2 d2 g2 s2
  go_wp2_with (at_builtin; rw [← HW2.out]; refine law_appendPs _ rfl _ _ rfl _ _ _ _ rfl (by rw [hw2s] at lit; exact lit) (by simp) _ _ _ _ rfl hopA (by omega) ?_; intro A5 c5 w5 hA5 ho5 hb5 hg5)
  rw [Nat.zero_add, List.nil_append] at ho5
  have hlb : Fresh (w.heap.size + 1) (some (⟨w1.heap.size + 1, 0, none⟩ : Addr)) := fun a ha => by injection ha with ha; subst ha; show _ ≤ w1.heap.size + 1; omega
  simp only [Option.map_some] at hb5 hg5
  have hfn := HD2.out.fn
  have hA5b : ∀ a, A5 = some a → w1.heap.size < a.block := fun a ha => by
    subst ha
    rcases hb5 with hb5 | hb5
    · simp at hb5; omega
    · simp at hb5; omega
  have d5 : DN (w.heap.size + 1) w5 An k cn A5 m c5 ns ps := ⟨HD2.out.on.keep fun a ha => hg5.block _ (HD2.out.on.lt a ha) (fun e => by have := hnlt a ha; simp at e; omega), ho5, hfn, fun a ha => by have := hA5b a ha; omega, fun a b ha hb => by have := hnlt a ha; have := hA5b b hb; omega, hA5⟩
  have s5 : Src w5 g A n c bs := HS2.out.new (A' := some ⟨w1.heap.size + 1, 0, none⟩) (by simpa using hg5) hlb (by omega) hA1.out
  have g5 := only_new HG2.out hg5 (fun i hi => by simp at hi; simp; omega)
  have x5 := (hg5.block w1.heap.size (by simp; omega) (by simp)).trans HX.out
  clear ho5 hb5 hg5 hopA lit hA5 HD2 HS2 HG2 HX hlb k0 k1 HW2
  refine (l01Next_any _ _ _ _ _ _ _ s5).mono ?_
  rintro e w6 ⟨q, rfl, q0, q1, _, s6, hg6⟩
  have q1' := q1 (by omega)
  clear q1
  have d6 := d5.lone hg6 (by omega)
  have g6 := only_trans g5 hg6
  have x6 := (hg6.block w1.heap.size (Array.getElem?_eq_some_iff.1 x5).1 (by intro e; injection e; omega)).trans x5
  clear d5 g5 x5 s5 hg6
  obtain ⟨Q, rfl⟩ := Int.eq_ofNat_of_zero_le q0
  obtain ⟨m_0, hm_0⟩ : ∃ m_0, m_0 = m := ⟨_, rfl⟩
  obtain ⟨cp_0, hcp_0⟩ : ∃ cp_0, cp_0 = cp := ⟨_, rfl⟩
  rw [← hm_0, ← hcp_0] at x6
  have HM0 := Lib.hid hm_0
  have HC0 := Lib.hid hcp_0
  clear hm_0 hcp_0
  go_wp2_with fail
  go_loopw [5, 6] (fun p i wr => ∃ (j m cp : Nat) (Ap : Option Addr) (ps : List Pipe), p = .slice Ap m cp ∧ i = .int .i64 (j : Int) ∧ m + j ≤ 12 ∧ DN (w.heap.size + 1) wr An k cn Ap m cp ns ps ∧ (∀ a, Ap = some a → w1.heap.size < a.block) ∧ Src wr g A n c bs ∧ (w.alloc (.cells #[.slice none 0 0, .slice none 0 0] 32)).grownBy wr (some g) ∧ wr.heap[w1.heap.size]? = some (.cells #[.slice An k cn, .slice (some ⟨gp, 0, none⟩) m_0 cp_0] 32 (0, 0))) (fun _ i _ => (intOf i).toNat)
  case atStart => exact ⟨Q, m, c5, A5, ps, rfl, rfl, by omega, d6, hA5b, s6, g6, x6⟩
  case round =>
    clear d6 s6 g6 x6
    obtain ⟨j, m, cp, Ap, ps, rfl, rfl, hj, hd, hfb, hs, hgr, hx⟩ := hrel
    have hsz := hgr.size
    simp only [World.size_alloc] at hsz
    have hxl := (Array.getElem?_eq_some_iff.1 hx).1
    by_cases hj0 : 0 < j ∧ 1 < k
    · have hj1 : (0 : Int) < (j : Int) := by omega
      have hR1 : (1 : Int) < (k : Int) := by omega
      go_wp2_with fail
      refine (l01Next_any _ _ _ _ _ _ _ hs).mono ?_
      rintro e w3 ⟨a, rfl, a0, a1, _, hs3, hg3⟩
      have a1' := a1 hR1
      clear a1
      go_wp2_with fail
      refine (l01Next_any _ _ _ _ _ _ _ hs3).mono ?_
      rintro e w4 ⟨b, rfl, b0, b1, b2, hs4, hg4⟩
      have b1' : b ≤ 10 := by
        by_cases h1 : 1 < (k : Int) - 1
        · have := b1 h1; omega
        · have := b2 (by omega); omega
      clear b1 b2
      have hm0 : 0 ≤ (a + 1 + b) % (k : Int) := Int.emod_nonneg _ (by omega)
      have hm1 : (a + 1 + b) % (k : Int) < (k : Int) := Int.emod_lt_of_pos _ (by omega)
      have hne : ((k : Int) == 0) = false := by simp; omega
      go_wp2_with fail
      refine (l02DrawPipe_any _ _ _ _ _ _ _ _ hs4 ⟨by omega, by omega⟩ ⟨by omega, by omega⟩).mono ?_
      rintro e w6 ⟨y, rfl, hy, hs6, hg6⟩
      have hd6 := (((hd.lone hg3 (by omega)).lone hg4 (by omega)).lone hg6 (by omega)).alloc (.cells #[.int .i64 y.fr, .int .i64 y.to, .int .i64 y.k, .int .i64 y.vol, .int .i64 y.lim] 77)
      have hgg := only_trans hg3 (only_trans hg4 hg6)
      have hx6 := (Below.heap_alloc w6 (.cells #[.int .i64 y.fr, .int .i64 y.to, .int .i64 y.k, .int .i64 y.vol, .int .i64 y.lim] 77) w1.heap.size (by have := hgg.size; omega)).trans ((hgg.block w1.heap.size hxl (by intro e; injection e; omega)).trans hx)
      have hgr6 := only_alloc (only_trans hgr hgg) (.cells #[.int .i64 y.fr, .int .i64 y.to, .int .i64 y.k, .int .i64 y.vol, .int .i64 y.lim] 77)
      have hsz6 := hgr6.size
      simp only [World.size_alloc] at hsz6
      have hp6 := pipeAt_new w6 y 77
      go_wp2_with (at_builtin; refine law_appendP _ rfl _ _ rfl Ap m cp ps rfl hd6.op _ _ y hy rfl hp6 (by omega) ?_; intro A7 c7 w7 ho7 hg7 hb7)
      have hd7 := hd6.appP ho7 hg7 hb7 (by simp; omega)
      have hs7 : Src w7 g A n c bs := (hs6.alloc _).new hg7 hd6.fp (by omega) hA1.out
      have hgr7 := only_new hgr6 hg7 (fun i hi => by have := fresh_row hd6.fp i hi; simpa using this)
      have hx7 := (hg7.block w1.heap.size (Array.getElem?_eq_some_iff.1 hx6).1 (fun e => by
        cases hAp : Ap with
        | none => rw [hAp] at e; cases e
        | some z => rw [hAp] at e; injection e with e; have e : w1.heap.size = z.block := e; have := hfb z hAp; omega)).trans hx6
      have hfb7 : ∀ a, A7 = some a → w1.heap.size < a.block := fun a ha => by
        subst ha
        rcases hb7 with hb7 | hb7
        · cases hAp : Ap with
          | none => rw [hAp] at hb7; cases hb7
          | some z => rw [hAp] at hb7; injection hb7 with hb7; have hb7 : a.block = z.block := hb7; have := hfb z hAp; omega
        · injection hb7 with hb7
          have hb7 : a.block = (w6.alloc _).heap.size := hb7
          simp at hb7
          have := hgg.size
          omega
      clear hd6 hgr6 ho7 hg7 hb7 hp6 hx6
      go_roundw
      case rel => exact ⟨j - 1, m + 1, c7, A7, _, rfl, by go_num, by omega, hd7, hfb7, hs7, hgr7, hx7⟩
      case measure => simp [intOf]; omega
    · have bx := (hgr.block w.heap.size (by simp) (by intro e; injection e; omega)).trans (heap_alloc_new w _)
      have c0 := cell_blk bx 0
      have c1 := cell_blk bx 1
      have x0 := cell_blk hx 0
      simp at c0 c1 x0
      have f0 := frozen_blk bx 0
      have f1 := frozen_blk bx 1
      clear bx
      have fin : Drawn w g A n c bs 1 12 (.returned (.agg #[.slice An k cn, .slice Ap m cp])) ((wr.setCell ⟨w.heap.size, 0, none⟩ (.slice An k cn)).setCell ⟨w.heap.size, 1, none⟩ (.slice Ap m cp)) := by
        refine ⟨An, k, cn, Ap, m, cp, ns, ps, rfl, ?_, by omega, by omega, by omega, (hs.put hlt hA.out _ _).put hlt hA.out _ _, only_put (only_put (only_trans (only_alloc (World.grownBy.refl _ _) _) hgr) (Nat.le_refl _) _ _) (Nat.le_refl _) _ _⟩
        have d1 := hd.lone (only_set (World.grownBy.refl wr (some w.heap.size)) 0 (.slice An k cn)) (by omega)
        have d2 := d1.lone (only_set (World.grownBy.refl _ (some w.heap.size)) 1 (.slice Ap m cp)) (by omega)
        exact ⟨d2.on, d2.op, fun a ha => by have := d2.fn a ha; omega, fun a ha => by have := d2.fp a ha; omega, d2.ne, d2.np⟩
      have FIN := Lib.hid fin
      clear fin hd hs hgr hx
      by_cases hj1 : 0 < j
      · have hj1' : (0 : Int) < (j : Int) := by omega
        have hR1 : ¬ (1 : Int) < (k : Int) := by omega
        go_wp2_with fail
        exact bodyPost_ret (v := .agg #[.slice An k cn, .slice Ap m cp]) (by simp [results, Try.results131, go_sem, c0, c1]) rfl FIN.out
      · have hj1' : ¬ (0 : Int) < (j : Int) := by omega
        go_wp2_with fail
        exact bodyPost_ret (v := .agg #[.slice An k cn, .slice Ap m cp]) (by simp [results, Try.results131, go_sem, c0, c1]) rfl FIN.out

end Go.Proofs.Ytahmhmicegjdkaa
