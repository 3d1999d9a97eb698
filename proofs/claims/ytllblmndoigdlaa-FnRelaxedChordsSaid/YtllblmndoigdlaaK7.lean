/- draws: loops, chords, flows -/
import Derived.Test.YtllblmndoigdlaaK4
namespace Go.Proofs.Ytllblmndoigdlaa
open Go.RowKit

theorem DA.start {w w1 : World} {g : Nat} {A : Option Addr} {n c : Nat} {bs : List Int} {An : Option Addr} {k cn : Nat} {Ap : Option Addr} {m cp : Nat} {ns : List Node} {ps : List Pipe} (h : Src w g A n c bs)
    (hd : DN (w.alloc (.cells #[.slice none 0 0, .slice none 0 0] 27)).heap.size w1 An k cn Ap m cp ns ps) (hs1 : Src w1 g A n c bs) (hg1 : (w.alloc (.cells #[.slice none 0 0, .slice none 0 0] 27)).grownBy w1 (some g)) :
    DA w g A n c bs w.heap.size w1.heap.size An k cn Ap m cp ns ps (w1.alloc (.cells #[.slice An k cn, .slice Ap m cp] 27)) := by
  have hlt := h.lt
  have hsz1 := hg1.size
  have hfn := hd.fn
  have hfp := hd.fp
  simp only [World.size_alloc] at hfn hfp hsz1
  have d2 := hd.alloc (.cells #[.slice An k cn, .slice Ap m cp] 27)
  exact ⟨d2.on, d2.op, heap_alloc_new _ _, (Below.heap_alloc _ _ _ (by omega)).trans ((hg1.block w.heap.size (by simp) (by intro e; injection e; omega)).trans (heap_alloc_new w _)), hd.ne, fun a ha => ⟨by have := hd.on.lt a ha; omega, hfn a ha⟩, fun a ha => ⟨by have := hd.op.lt a ha; omega, hfp a ha⟩, hd.np, hs1.alloc _, only_alloc (only_trans (only_alloc (World.grownBy.refl _ _) _) hg1) _, hlt, h.blk, rfl, by omega⟩
/-- another network, stored -/
theorem DA.replace {w W W' : World} {g : Nat} {A : Option Addr} {n c : Nat} {bs : List Int} {b2 b3 : Nat} {An : Option Addr} {k cn : Nat} {Ap : Option Addr} {m cp : Nat} {ns : List Node} {ps : List Pipe} {An' : Option Addr} {k' cn' : Nat} {Ap' : Option Addr} {m' cp' : Nat} {ns' : List Node} {ps' : List Pipe}
    (h : DA w g A n c bs b2 b3 An k cn Ap m cp ns ps W) (hd : DN W.heap.size W' An' k' cn' Ap' m' cp' ns' ps') (hs : Src W' g A n c bs) (hg : W.grownBy W' (some g)) :
    DA w g A n c bs b2 b3 An' k' cn' Ap' m' cp' ns' ps' ((W'.setCell ⟨b3, 0, none⟩ (.slice An' k' cn')).setCell ⟨b3, 1, none⟩ (.slice Ap' m' cp')) := by
  have hn := h.next hg hs
  have hl := h.lt
  have e1 := h.hg; have e2 := h.h2; have e3 := h.h3
  have s1 := hn.srcPut (b := b3) (by omega) 0 (.slice An' k' cn')
  have hfn : ∀ a, An' = some a → a.block ≠ b3 := fun a ha => by have := hd.fn a ha; omega
  have hfp : ∀ a, Ap' = some a → a.block ≠ b3 := fun a ha => by have := hd.fp a ha; omega
  refine ⟨(hd.on.keepOther (p := ⟨b3, 0, none⟩) hfn _).keepOther (p := ⟨b3, 1, none⟩) hfn _, (hd.op.keepOther (p := ⟨b3, 0, none⟩) hfp _).keepOther (p := ⟨b3, 1, none⟩) hfp _, by rw [heap_set (heap_set hn.xb 0 _)]; rfl, (Below.heap_setCell _ _ _ _ (by show b2 ≠ b3; omega)).trans ((Below.heap_setCell _ _ _ _ (by show b2 ≠ b3; omega)).trans hn.x2), hd.ne, fun a ha => ⟨hfn a ha, by have := hd.fn a ha; omega⟩, fun a ha => ⟨hfp a ha, by have := hd.fp a ha; omega⟩, hd.np, ?_, ?_, h.hg, h.hA, h.h2, h.h3⟩
  · exact s1.1.put (by omega) (fun hn' a ha => by have := h.hA hn' a ha; omega) _ _
  · exact only_put s1.2 (by omega) _ _

set_option maxRecDepth 100000 in
set_option maxHeartbeats 4000000 in
theorem l05DrawLoops_any (g : Nat) (A : Option Addr) (n c : Nat) (bs : List Int) (w : World) (h : Src w g A n c bs) :
    Calls Try.prog 97 #[.pointer (some ⟨g, 0, none⟩)] w (Drawn w g A n c bs 1 12) := by
  have hlt := h.lt
  have hA := Lib.hid h.blk
  have hA1 : Hid (0 < n → ∀ a, A = some a → a.block < w.heap.size + 1) := Lib.hid fun hn a ha => by have := hA.out hn a ha; omega
  go_enter Try.func97, Try.ntmps97
  go_wp2_with fail
  refine (l02Draw_any _ _ _ _ _ _ (h.alloc _)).mono ?_
  rintro e w1 ⟨An, k, cn, Ap, m, cp, ns, ps, rfl, hd, hk1, hk7, hm, hs1, hg1⟩
  have hsz1 := hg1.size
  simp only [World.size_alloc] at hsz1
  have st0 := DA.start h hd hs1 hg1
  obtain ⟨gp, rfl, hgp⟩ : ∃ gp, Ap = some ⟨gp, 0, none⟩ ∧ gp < w1.heap.size := by
    rcases row_form hd.op.row with ⟨h1, _⟩ | ⟨gp, h1, h2, _⟩
    · exact absurd h1 hd.np
    · exact ⟨gp, h1, h2⟩
  obtain ⟨w2, hw2⟩ : ∃ w2, w2 = w1.alloc (.cells #[.slice An k cn, .slice (some ⟨gp, 0, none⟩) m cp] 27) := ⟨_, rfl⟩
  have hw2s : w2.heap.size = w1.heap.size + 1 := by rw [hw2]; simp
  rw [← hw2] at st0
  have HW2 := Lib.hid hw2
  have hnlt : ∀ a, An = some a → a.block < w1.heap.size := hd.on.lt
  have k0 := st0.c30
  have k1 := st0.c31
  rw [hw2] at k0 k1
  have d2 : DN (w.heap.size + 1) (w2.alloc (.cells #[] 76)) An k cn (some ⟨gp, 0, none⟩) m cp ns ps := by rw [hw2]; have := (hd.alloc (.cells #[.slice An k cn, .slice (some ⟨gp, 0, none⟩) m cp] 27)).alloc (.cells #[] 76); simpa using this
  have lit := ownP_lit0 w2
  have hopA := d2.op
  have HD2 := Lib.hid d2
  have g2 : (w.alloc (.cells #[.slice none 0 0, .slice none 0 0] 27)).grownBy (w2.alloc (.cells #[] 76)) (some g) := by rw [hw2]; exact only_alloc (only_alloc hg1 _) _
  have HG2 := Lib.hid g2
  have s2 : Src (w2.alloc (.cells #[] 76)) g A n c bs := st0.src.alloc _
  have HS2 := Lib.hid s2
  have HX := Lib.hid ((Below.heap_alloc w2 (.cells #[] 76) w1.heap.size (by omega)).trans st0.xb)
  clear hd hs1 hg1 st0 hw2 d2 g2 s2
  go_wp2_with (at_builtin; rw [← HW2.out]; refine law_appendPs _ rfl _ _ rfl _ _ _ _ rfl (by rw [hw2s] at lit; exact lit) (by simp) _ _ _ _ rfl hopA (by omega) ?_; intro A5 c5 w5 hA5 ho5 hb5 hg5)
  rw [Nat.zero_add, List.nil_append] at ho5
  have hlb : Fresh (w.heap.size + 1) (some (⟨w1.heap.size + 1, 0, none⟩ : Addr)) := fun a ha => by injection ha with ha; subst ha; show _ ≤ w1.heap.size + 1; omega
  simp only [Option.map_some] at hb5 hg5
  have hfn := HD2.out.fn
  have hA5b : ∀ a, A5 = some a → w1.heap.size < a.block := fun a ha => by
    subst ha
    rcases hb5 with hb5 | hb5
    · simp at hb5; omega
    · simp at hb5; omega
  have d5 : DN (w.heap.size + 1) w5 An k cn A5 m c5 ns ps := ⟨HD2.out.on.keep fun a ha => hg5.block _ (HD2.out.on.lt a ha) (fun e => by have := hnlt a ha; simp at e; omega), ho5, hfn, fun a ha => by have := hA5b a ha; omega, fun a b ha hb => by have := hnlt a ha; have := hA5b b hb; omega, hA5⟩
  have s5 : Src w5 g A n c bs := HS2.out.new (A' := some ⟨w1.heap.size + 1, 0, none⟩) (by simpa using hg5) hlb (by omega) hA1.out
  have g5 := only_new HG2.out hg5 (fun i hi => by simp at hi; simp; omega)
  have x5 := (hg5.block w1.heap.size (by simp; omega) (by simp)).trans HX.out
  clear ho5 hb5 hg5 hopA lit hA5 HD2 HS2 HG2 HX hlb k0 k1 HW2
  refine (l01Next_any _ _ _ _ _ _ _ s5).mono ?_
  rintro e w6 ⟨q, rfl, q0, q1, _, s6, hg6⟩
  have q1' := q1 (by omega)
  clear q1
  have d6 := d5.lone hg6 (by omega)
  have g6 := only_trans g5 hg6
  have x6 := (hg6.block w1.heap.size (Array.getElem?_eq_some_iff.1 x5).1 (by intro e; injection e; omega)).trans x5
  clear d5 g5 x5 s5 hg6
  obtain ⟨Q, rfl⟩ := Int.eq_ofNat_of_zero_le q0
  obtain ⟨m_0, hm_0⟩ : ∃ m_0, m_0 = m := ⟨_, rfl⟩
  obtain ⟨cp_0, hcp_0⟩ : ∃ cp_0, cp_0 = cp := ⟨_, rfl⟩
  rw [← hm_0, ← hcp_0] at x6
  have HM0 := Lib.hid hm_0
  have HC0 := Lib.hid hcp_0
  clear hm_0 hcp_0
  go_wp2_with fail
  go_loopw [5, 6] (fun p i wr => ∃ (j m cp : Nat) (Ap : Option Addr) (ps : List Pipe), p = .slice Ap m cp ∧ i = .int .i64 (j : Int) ∧ m + j ≤ 12 ∧ DN (w.heap.size + 1) wr An k cn Ap m cp ns ps ∧ (∀ a, Ap = some a → w1.heap.size < a.block) ∧ Src wr g A n c bs ∧ (w.alloc (.cells #[.slice none 0 0, .slice none 0 0] 27)).grownBy wr (some g) ∧ wr.heap[w1.heap.size]? = some (.cells #[.slice An k cn, .slice (some ⟨gp, 0, none⟩) m_0 cp_0] 27 (0, 0))) (fun _ i _ => (intOf i).toNat)
  case atStart => exact ⟨Q, m, c5, A5, ps, rfl, rfl, by omega, d6, hA5b, s6, g6, x6⟩
  case round =>
    clear d6 s6 g6 x6
    obtain ⟨j, m, cp, Ap, ps, rfl, rfl, hj, hd, hfb, hs, hgr, hx⟩ := hrel
    have hsz := hgr.size
    simp only [World.size_alloc] at hsz
    have hxl := (Array.getElem?_eq_some_iff.1 hx).1
    by_cases hj0 : 0 < j ∧ 1 < k
    · have hj1 : (0 : Int) < (j : Int) := by omega
      have hR1 : (1 : Int) < (k : Int) := by omega
      go_wp2_with fail
      refine (l01Next_any _ _ _ _ _ _ _ hs).mono ?_
      rintro e w3 ⟨a, rfl, a0, a1, _, hs3, hg3⟩
      have a1' := a1 hR1
      clear a1
      go_wp2_with fail
      refine (l01Next_any _ _ _ _ _ _ _ hs3).mono ?_
      rintro e w4 ⟨b, rfl, b0, b1, b2, hs4, hg4⟩
      have b1' : b ≤ 10 := by
        by_cases h1 : 1 < (k : Int) - 1
        · have := b1 h1; omega
        · have := b2 (by omega); omega
      clear b1 b2
      have hm0 : 0 ≤ (a + 1 + b) % (k : Int) := Int.emod_nonneg _ (by omega)
      have hm1 : (a + 1 + b) % (k : Int) < (k : Int) := Int.emod_lt_of_pos _ (by omega)
      have hne : ((k : Int) == 0) = false := by simp; omega
      go_wp2_with fail
      refine (l02DrawPipe_any _ _ _ _ _ _ _ _ hs4 ⟨by omega, by omega⟩ ⟨by omega, by omega⟩).mono ?_
      rintro e w6 ⟨y, rfl, hy, hs6, hg6⟩
      have hd6 := (((hd.lone hg3 (by omega)).lone hg4 (by omega)).lone hg6 (by omega)).alloc (.cells #[.int .i64 y.fr, .int .i64 y.to, .int .i64 y.k, .int .i64 y.vol, .int .i64 y.lim] 76)
      have hgg := only_trans hg3 (only_trans hg4 hg6)
      have hx6 := (Below.heap_alloc w6 (.cells #[.int .i64 y.fr, .int .i64 y.to, .int .i64 y.k, .int .i64 y.vol, .int .i64 y.lim] 76) w1.heap.size (by have := hgg.size; omega)).trans ((hgg.block w1.heap.size hxl (by intro e; injection e; omega)).trans hx)
      have hgr6 := only_alloc (only_trans hgr hgg) (.cells #[.int .i64 y.fr, .int .i64 y.to, .int .i64 y.k, .int .i64 y.vol, .int .i64 y.lim] 76)
      have hsz6 := hgr6.size
      simp only [World.size_alloc] at hsz6
      have hp6 := pipeAt_new w6 y 76
      go_wp2_with (at_builtin; refine law_appendP _ rfl _ _ rfl Ap m cp ps rfl hd6.op _ _ y hy rfl hp6 (by omega) ?_; intro A7 c7 w7 ho7 hg7 hb7)
      have hd7 := hd6.appP ho7 hg7 hb7 (by simp; omega)
      have hs7 : Src w7 g A n c bs := (hs6.alloc _).new hg7 hd6.fp (by omega) hA1.out
      have hgr7 := only_new hgr6 hg7 (fun i hi => by have := fresh_row hd6.fp i hi; simpa using this)
      have hx7 := (hg7.block w1.heap.size (Array.getElem?_eq_some_iff.1 hx6).1 (fun e => by
        cases hAp : Ap with
        | none => rw [hAp] at e; cases e
        | some z => rw [hAp] at e; injection e with e; have e : w1.heap.size = z.block := e; have := hfb z hAp; omega)).trans hx6
      have hfb7 : ∀ a, A7 = some a → w1.heap.size < a.block := fun a ha => by
        subst ha
        rcases hb7 with hb7 | hb7
        · cases hAp : Ap with
          | none => rw [hAp] at hb7; cases hb7
          | some z => rw [hAp] at hb7; injection hb7 with hb7; have hb7 : a.block = z.block := hb7; have := hfb z hAp; omega
        · injection hb7 with hb7
          have hb7 : a.block = (w6.alloc _).heap.size := hb7
          simp at hb7
          have := hgg.size
          omega
      clear hd6 hgr6 ho7 hg7 hb7 hp6 hx6
      go_roundw
      case rel => exact ⟨j - 1, m + 1, c7, A7, _, rfl, by go_num, by omega, hd7, hfb7, hs7, hgr7, hx7⟩
      case measure => simp [intOf]; omega
    · have bx := (hgr.block w.heap.size (by simp) (by intro e; injection e; omega)).trans (heap_alloc_new w _)
      have c0 := cell_blk bx 0
      have c1 := cell_blk bx 1
      have x0 := cell_blk hx 0
      simp at c0 c1 x0
      have f0 := frozen_blk bx 0
      have f1 := frozen_blk bx 1
      clear bx
      have fin : Drawn w g A n c bs 1 12 (.returned (.agg #[.slice An k cn, .slice Ap m cp])) ((wr.setCell ⟨w.heap.size, 0, none⟩ (.slice An k cn)).setCell ⟨w.heap.size, 1, none⟩ (.slice Ap m cp)) := by
        refine ⟨An, k, cn, Ap, m, cp, ns, ps, rfl, ?_, by omega, by omega, by omega, (hs.put hlt hA.out _ _).put hlt hA.out _ _, only_put (only_put (only_trans (only_alloc (World.grownBy.refl _ _) _) hgr) (Nat.le_refl _) _ _) (Nat.le_refl _) _ _⟩
        have d1 := hd.lone (only_set (World.grownBy.refl wr (some w.heap.size)) 0 (.slice An k cn)) (by omega)
        have d2 := d1.lone (only_set (World.grownBy.refl _ (some w.heap.size)) 1 (.slice Ap m cp)) (by omega)
        exact ⟨d2.on, d2.op, fun a ha => by have := d2.fn a ha; omega, fun a ha => by have := d2.fp a ha; omega, d2.ne, d2.np⟩
      have FIN := Lib.hid fin
      clear fin hd hs hgr hx
      by_cases hj1 : 0 < j
      · have hj1' : (0 : Int) < (j : Int) := by omega
        have hR1 : ¬ (1 : Int) < (k : Int) := by omega
        go_wp2_with fail
        exact bodyPost_ret (v := .agg #[.slice An k cn, .slice Ap m cp]) (by simp [results, Try.results97, go_sem, c0, c1]) rfl FIN.out
      · have hj1' : ¬ (0 : Int) < (j : Int) := by omega
        go_wp2_with fail
        exact bodyPost_ret (v := .agg #[.slice An k cn, .slice Ap m cp]) (by simp [results, Try.results97, go_sem, c0, c1]) rfl FIN.out

end Go.Proofs.Ytllblmndoigdlaa

/- draws: chords, flows -/
namespace Go.Proofs.Ytllblmndoigdlaa
open Go.RowKit

theorem DA.fin2 {w W : World} {g : Nat} {A : Option Addr} {n c : Nat} {bs : List Int} {b2 b3 : Nat} {An : Option Addr} {k cn : Nat} {Ap : Option Addr} {m cp : Nat} {ns : List Node} {ps : List Pipe} (h : DA w g A n c bs b2 b3 An k cn Ap m cp ns ps W) :
    DN w.heap.size ((W.setCell ⟨b2, 0, none⟩ (.slice An k cn)).setCell ⟨b2, 1, none⟩ (.slice Ap m cp)) An k cn Ap m cp ns ps ∧ Src ((W.setCell ⟨b2, 0, none⟩ (.slice An k cn)).setCell ⟨b2, 1, none⟩ (.slice Ap m cp)) g A n c bs ∧ w.grownBy ((W.setCell ⟨b2, 0, none⟩ (.slice An k cn)).setCell ⟨b2, 1, none⟩ (.slice Ap m cp)) (some g) := by
  have e1 := h.hg; have e2 := h.h2
  have hs := h.srcPut (b := b2) (Nat.le_refl _) 0 (.slice An k cn)
  refine ⟨⟨?_, ?_, fun a ha => by have := h.n3 a ha; omega, fun a ha => by have := h.p3 a ha; omega, h.ne, h.np⟩, ?_, ?_⟩
  · exact (h.on.keepOther (fun a ha => by have := h.n3 a ha; show a.block ≠ b2; omega) _).keepOther (fun a ha => by have := h.n3 a ha; show a.block ≠ b2; omega) _
  · exact (h.op.keepOther (fun a ha => by have := h.p3 a ha; show a.block ≠ b2; omega) _).keepOther (fun a ha => by have := h.p3 a ha; show a.block ≠ b2; omega) _
  · exact hs.1.put (by omega) (fun hn a ha => by have := h.hA hn a ha; omega) _ _
  · exact only_put hs.2 (by omega) _ _
theorem DA.net {w W : World} {g : Nat} {A : Option Addr} {n c : Nat} {bs : List Int} {b2 b3 : Nat} {An : Option Addr} {k cn : Nat} {Ap : Option Addr} {m cp : Nat} {ns : List Node} {ps : List Pipe} (h : DA w g A n c bs b2 b3 An k cn Ap m cp ns ps W) : NetAt W An k cn Ap m cp ⟨ns, ps⟩ := ⟨h.on.nodes, h.op.pipes⟩

/-- what a draw of a network and a number gives -/
def DrawnC (w : World) (g : Nat) (A : Option Addr) (n c : Nat) (bs : List Int) (e : Ending) (w' : World) : Prop :=
  ∃ An k cn Ap m cp ns ps x, e = .returned (.tuple #[.agg #[.slice An k cn, .slice Ap m cp], .int .i64 x]) ∧ DN w.heap.size w' An k cn Ap m cp ns ps ∧ k ≤ 7 ∧ m ≤ 12 ∧ I64 x ∧ Src w' g A n c bs ∧ w.grownBy w' (some g)
def ptrBelow (b k : Nat) : VP := fun v _ => ∃ x : Nat, v = .pointer (some ⟨b, x, none⟩) ∧ x < k

set_option maxRecDepth 100000 in
set_option maxHeartbeats 8000000 in
theorem l05DrawChord_any (g : Nat) (A : Option Addr) (n c : Nat) (bs : List Int) (w : World) (h : Src w g A n c bs) :
    Calls Try.prog 46 #[.pointer (some ⟨g, 0, none⟩)] w (DrawnC w g A n c bs) := by
  have hlt := h.lt
  go_enter Try.func46, Try.ntmps46
  go_wp2_with fail
  refine (l05DrawLoops_any _ _ _ _ _ _ (h.alloc _)).mono ?_
  rintro e w1 ⟨An, k, cn, Ap, m, cp, ns, ps, rfl, hd, hk1, hk7, hm, hs1, hg1⟩
  have st0 := DA.start h hd hs1 hg1
  obtain ⟨w2, hw2⟩ : ∃ w2, w2 = w1.alloc (.cells #[.slice An k cn, .slice Ap m cp] 27) := ⟨_, rfl⟩
  rw [← hw2] at st0
  have HW2 := Lib.hid hw2
  clear hd hs1 hg1 hw2 hk1
  go_wp2_with fail
  rw [← HW2.out]
  refine (l01Next_any _ _ _ _ _ _ _ st0.src).mono ?_
  rintro e w4 ⟨q, rfl, q0, q1, _, hs4, hg4⟩
  clear q1 q0
  have st := st0.next hg4 hs4
  clear st0 hs4 hg4 HW2
  obtain ⟨b3, hb3⟩ : ∃ b3, w1.heap.size = b3 := ⟨_, rfl⟩
  rw [hb3] at st ⊢
  clear hb3
  have hh3 := st.h3
  have FIN : ∀ {W : World} {An' : Option Addr} {k' cn' : Nat} {Ap' : Option Addr} {m' cp' : Nat} {ns' : List Node} {ps' : List Pipe} {x : Int}, DA w g A n c bs w.heap.size b3 An' k' cn' Ap' m' cp' ns' ps' W → k' ≤ 7 → m' ≤ 12 → I64 x → Hid (DrawnC w g A n c bs (.returned (.tuple #[.agg #[.slice An' k' cn', .slice Ap' m' cp'], .int .i64 x])) ((W.setCell ⟨w.heap.size, 0, none⟩ (.slice An' k' cn')).setCell ⟨w.heap.size, 1, none⟩ (.slice Ap' m' cp'))) := fun h h1 h2 h3 => Lib.hid ⟨_, _, _, _, _, _, _, _, _, rfl, h.fin2.1, h1, h2, h3, h.fin2.2⟩
  by_cases hq : q = 0
  · subst hq
    have k0 := st.c30
    go_wp2_with fail
    refine (l02DrawAny_any _ _ _ _ _ _ st.src).mono ?_
    clear hm hk7
    rintro e w5 ⟨An, k, cn, Ap, m, cp, ns, ps, rfl, hd, _, hk7, hm, hs5, hg5⟩
    have st5 := st.replace hd hs5 hg5
    have stn := st.next hg5 hs5
    have z0 := stn.c30
    have z1 := stn.c31
    have u0 := stn.f3 0
    have u1 := stn.f3 1
    clear st stn hd hs5 hg5 k0
    obtain ⟨w6, hw6⟩ : ∃ w6, w6 = (w5.setCell ⟨b3, 0, none⟩ (.slice An k cn)).setCell ⟨b3, 1, none⟩ (.slice Ap m cp) := ⟨_, rfl⟩
    rw [← hw6] at st5
    have HW6 := Lib.hid hw6
    have y0 := st5.c30
    have y1 := st5.c31
    rw [hw6] at y0 y1
    clear hw6
    have hm' : m ≤ 12 := by omega
    have hnb : b3 ≠ w.heap.size := by omega
    go_wp2_with fail
    rw [← HW6.out]
    clear y0 y1 z0 z1 u0 u1 HW6
    have st := st5
    clear st5
    have k0 := st.c30
    have k1 := st.c31
    have ST0 := Lib.hid st
    clear st
    refine (specChordsOf_any _ _ _ _ _ _ ⟨ns, ps⟩ _ ST0.out.net).mono ?_
    rintro e w8 ⟨Ac, L, cc, zc, code, rfl, oc, fc, hL, b8⟩
    have st := ST0.out.later b8
    have HSB : Hid (w.heap.size < w6.heap.size) := Lib.hid (by have := ST0.out.lt; omega)
    have HGC : Hid (g < w6.heap.size) := Lib.hid (by have := ST0.out.src.lt; exact this)
    clear k0 k1 ST0
    by_cases hL0 : L = 0
    · subst hL0
      have ST := Lib.hid st
      clear st oc fc
      go_wp2_with fail
      apply wp_region_track [27, 28, 29, 30, 31, 32] [eqv _, eqv _, eqv _, eqv _, eqv _, isI64]
        (fun wx => Src wx g A n c bs ∧ w8.grownBy wx (some g)) (Gw g) (by kernel_rfl) (by kernel_rfl) rfl (by kernel_rfl)
      case hs =>
        refine ⟨?_, ?_, ?_, ?_, ?_, ?_, trivial⟩
        · intro ev wt ht hc hg hf hI hd
          have e4 : ev (.tmp 4) = .pointer (some ⟨b3, 0, none⟩) := ht 4 (by decide)
          have stt := ST.out.next hI.2 hI.1
          have j0 := stt.c30
          have j1 := stt.c31
          clear stt
          refine opok_gen fun N hN => ?_
          clear hd ht
          go_simp
          exact hN.out _ _ ⟨hI, World.grownBy.refl _ _, rfl⟩
        · intro ev wt ht hc hg hf hI hd
          have e0 : ev (.tmp 0) = .pointer (some ⟨g, 0, none⟩) := ht 0 (by decide)
          exact opok_move _ rfl ⟨hI, World.grownBy.refl _ _, e0⟩
        · intro ev wt ht hc hg hf hI hd
          have e4 : ev (.tmp 4) = .pointer (some ⟨b3, 0, none⟩) := ht 4 (by decide)
          refine opok_gen fun N hN => ?_
          clear hd ht
          go_simp
          exact hN.out _ _ ⟨hI, World.grownBy.refl _ _, rfl⟩
        · intro ev wt ht hc hg hf hI hd
          have e29 : ev (.tmp 29) = _ := hd 2 29 rfl rfl
          have stt := ST.out.next hI.2 hI.1
          have j0 := stt.c30
          have j1 := stt.c31
          clear stt
          refine opok_gen fun N hN => ?_
          clear hd ht
          go_simp
          exact hN.out _ _ ⟨hI, World.grownBy.refl _ _, rfl⟩
        · intro ev wt ht hc hg hf hI hd
          have e30 : ev (.tmp 30) = _ := hd 3 30 rfl rfl
          refine opok_gen fun N hN => ?_
          clear hd ht
          go_simp
          exact hN.out _ _ ⟨hI, World.grownBy.refl _ _, rfl⟩
        · intro ev wt ht hc hg hf hI hd
          have e28 : ev (.tmp 28) = _ := hd 1 28 rfl rfl
          have e31 : ev (.tmp 31) = _ := hd 4 31 rfl rfl
          refine opok_gen fun N hN => ?_
          clear hd ht
          go_simp
          refine (l02DrawIndex_any _ _ _ _ _ m _ hI.1 (by omega)).mono ?_
          rintro e wz ⟨x, rfl, hx, hsz, hgz⟩
          exact ⟨_, rfl, hN.out _ _ ⟨⟨hsz, only_trans hI.2 hgz⟩, hgz, ⟨x, rfl, hx⟩⟩⟩
      case hst =>
        refine fun j v w w' _ h1 h2 => StbL.nth (S := Gw g) ?_ j v w w' h1 h2
        exact ⟨stb_eqv _, stb_eqv _, stb_eqv _, stb_eqv _, stb_eqv _, (fun _ _ _ _ h => h), trivial⟩
      case hI => exact ⟨ST.out.src.keep (Below.refl _ _).drew, only_drewN (World.grownBy.refl _ _) 1⟩
      case hl =>
        rintro wt hI _ rfl _ rfl _ rfl _ rfl _ rfl _ ⟨s, rfl, hsv⟩
        simp only [Lasts, List.length_cons, List.length_nil, Nat.reduceAdd, List.drop_succ_cons, List.drop_zero, Act.put, List.setIfInBounds_toArray, List.set_cons_succ, List.set_cons_zero]
        have stt := ST.out.next hI.2 hI.1
        have FI := FIN (x := s) stt (by omega) (by omega) hsv
        have y0 := stt.c20
        have y1 := stt.c21
        have v0 := stt.f2 0
        have v1 := stt.f2 1
        clear stt
        go_wp2_with fail
        exact bodyPost_ret (v := .tuple #[.agg #[.slice An k cn, .slice Ap m cp], .int .i64 s]) (by simp [results, Try.results46, go_sem, y0, y1]) rfl FI.out
    · have hL0' : ((L : Int) == 0) = false := by simp; omega
      obtain ⟨gc, rfl, hgc⟩ := oc.pos (by omega)
      go_wp2_with fail
      refine (l01Next_any _ _ _ _ _ _ _ st.src).mono ?_
      rintro e w9 ⟨r, rfl, r0, r1, _, hs9, hg9⟩
      clear r1 r0
      have OC := Lib.hid (oc.lone fc hg9 HGC.out)
      have FC := Lib.hid fc
      have ST := Lib.hid (st.next hg9 hs9)
      clear st oc fc hs9 hg9
      by_cases hr0 : r = 0
      · subst hr0
        go_wp2_with fail
        apply wp_region_track [27, 28, 29, 30, 31, 32] [eqv _, eqv _, eqv _, eqv _, eqv _, isI64]
          (fun wx => Src wx g A n c bs ∧ w9.grownBy wx (some g)) (Gw g) (by kernel_rfl) (by kernel_rfl) rfl (by kernel_rfl)
        case hs =>
          refine ⟨?_, ?_, ?_, ?_, ?_, ?_, trivial⟩
          · intro ev wt ht hc hg hf hI hd
            have e4 : ev (.tmp 4) = .pointer (some ⟨b3, 0, none⟩) := ht 4 (by decide)
            have stt := ST.out.next hI.2 hI.1
            have j0 := stt.c30
            have j1 := stt.c31
            clear stt
            refine opok_gen fun N hN => ?_
            clear hd ht
            go_simp
            exact hN.out _ _ ⟨hI, World.grownBy.refl _ _, rfl⟩
          · intro ev wt ht hc hg hf hI hd
            have e0 : ev (.tmp 0) = .pointer (some ⟨g, 0, none⟩) := ht 0 (by decide)
            exact opok_move _ rfl ⟨hI, World.grownBy.refl _ _, e0⟩
          · intro ev wt ht hc hg hf hI hd
            have e4 : ev (.tmp 4) = .pointer (some ⟨b3, 0, none⟩) := ht 4 (by decide)
            refine opok_gen fun N hN => ?_
            clear hd ht
            go_simp
            exact hN.out _ _ ⟨hI, World.grownBy.refl _ _, rfl⟩
          · intro ev wt ht hc hg hf hI hd
            have e29 : ev (.tmp 29) = _ := hd 2 29 rfl rfl
            have stt := ST.out.next hI.2 hI.1
            have j0 := stt.c30
            have j1 := stt.c31
            clear stt
            refine opok_gen fun N hN => ?_
            clear hd ht
            go_simp
            exact hN.out _ _ ⟨hI, World.grownBy.refl _ _, rfl⟩
          · intro ev wt ht hc hg hf hI hd
            have e30 : ev (.tmp 30) = _ := hd 3 30 rfl rfl
            refine opok_gen fun N hN => ?_
            clear hd ht
            go_simp
            exact hN.out _ _ ⟨hI, World.grownBy.refl _ _, rfl⟩
          · intro ev wt ht hc hg hf hI hd
            have e28 : ev (.tmp 28) = _ := hd 1 28 rfl rfl
            have e31 : ev (.tmp 31) = _ := hd 4 31 rfl rfl
            refine opok_gen fun N hN => ?_
            clear hd ht
            go_simp
            refine (l02DrawIndex_any _ _ _ _ _ m _ hI.1 (by omega)).mono ?_
            rintro e wz ⟨x, rfl, hx, hsz, hgz⟩
            exact ⟨_, rfl, hN.out _ _ ⟨⟨hsz, only_trans hI.2 hgz⟩, hgz, ⟨x, rfl, hx⟩⟩⟩
        case hst =>
          refine fun j v w w' _ h1 h2 => StbL.nth (S := Gw g) ?_ j v w w' h1 h2
          exact ⟨stb_eqv _, stb_eqv _, stb_eqv _, stb_eqv _, stb_eqv _, (fun _ _ _ _ h => h), trivial⟩
        case hI => exact ⟨ST.out.src.keep (Below.refl _ _).drew, only_drewN (World.grownBy.refl _ _) 1⟩
        case hl =>
          rintro wt hI _ rfl _ rfl _ rfl _ rfl _ rfl _ ⟨s, rfl, hsv⟩
          simp only [Lasts, List.length_cons, List.length_nil, Nat.reduceAdd, List.drop_succ_cons, List.drop_zero, Act.put, List.setIfInBounds_toArray, List.set_cons_succ, List.set_cons_zero]
          have stt := ST.out.next hI.2 hI.1
          have FI := FIN (x := s) stt (by omega) (by omega) hsv
          have y0 := stt.c20
          have y1 := stt.c21
          have v0 := stt.f2 0
          have v1 := stt.f2 1
          clear stt
          go_wp2_with fail
          exact bodyPost_ret (v := .tuple #[.agg #[.slice An k cn, .slice Ap m cp], .int .i64 s]) (by simp [results, Try.results46, go_sem, y0, y1]) rfl FI.out
      · have hr0' : (r == 0) = false := by simp [hr0]
        clear hr0
        go_wp2_with fail
        have j0 := ST.out.c30
        have j1 := ST.out.c31
        have d0 := ST.out.c20
        have d1 := ST.out.c21
        have d2 := ST.out.f2 0
        have d3 := ST.out.f2 1
        have hgb : gc ≠ w.heap.size := by have := FC.out _ rfl; have h2 := ST.out.h2; have h3 := HSB.out; simp only at this; omega
        go_region_with (go_at_call 49; refine (l01Next_any _ _ _ _ _ _ _ (ST.out.src.keep (Below.refl _ _).drew)).mono ?_; rintro e wz ⟨x, rfl, x0, x1, x2, hsz, hgz⟩; have hx : x < (L : Int) := (by by_cases h1 : 1 < (L : Int); exact x1 h1; have := x2 (by omega); omega); obtain ⟨X, rfl⟩ := Int.eq_ofNat_of_zero_le x0; clear x1 x2; have hXL : X < L := (by omega); have hgz2 := only_trans (only_drewN (World.grownBy.refl w9 (some g)) 1) hgz; have stz := ST.out.next hgz2 hsz; have ocz := OC.out.lone FC.out hgz2 HGC.out; have cx := ocz.cell hXL; have hxi := ocz.i64 X; have FI := FIN (x := ig zc X) stz (by omega) (by omega) hxi; have z0 := stz.c30; have z1 := stz.c31; have y0 := stz.c20; have y1 := stz.c21; have v0 := stz.f2 0; have v1 := stz.f2 1; clear stz ocz)
        all_goals
          go_wp2_with fail
          exact bodyPost_ret (v := .tuple #[.agg #[.slice An k cn, .slice Ap m cp], .int .i64 (ig zc X)]) (by simp [results, Try.results46, go_sem, y0, y1]) rfl FI.out
  · have hq' : (q == 0) = false := by simp [hq]
    clear hq
    have hm' : m ≤ 12 := hm
    have k0 := st.c30
    have k1 := st.c31
    have ST0 := Lib.hid st
    clear st
    go_wp2_with fail
    refine (specChordsOf_any _ _ _ _ _ _ ⟨ns, ps⟩ _ ST0.out.net).mono ?_
    rintro e w8 ⟨Ac, L, cc, zc, code, rfl, oc, fc, hL, b8⟩
    have st := ST0.out.later b8
    have HSB : Hid (w.heap.size < w4.heap.size) := Lib.hid (by have := ST0.out.lt; omega)
    have HGC : Hid (g < w4.heap.size) := Lib.hid (by have := ST0.out.src.lt; exact this)
    clear k0 k1 ST0
    by_cases hL0 : L = 0
    · subst hL0
      have ST := Lib.hid st
      clear st oc fc
      go_wp2_with fail
      apply wp_region_track [27, 28, 29, 30, 31, 32] [eqv _, eqv _, eqv _, eqv _, eqv _, isI64]
        (fun wx => Src wx g A n c bs ∧ w8.grownBy wx (some g)) (Gw g) (by kernel_rfl) (by kernel_rfl) rfl (by kernel_rfl)
      case hs =>
        refine ⟨?_, ?_, ?_, ?_, ?_, ?_, trivial⟩
        · intro ev wt ht hc hg hf hI hd
          have e4 : ev (.tmp 4) = .pointer (some ⟨b3, 0, none⟩) := ht 4 (by decide)
          have stt := ST.out.next hI.2 hI.1
          have j0 := stt.c30
          have j1 := stt.c31
          clear stt
          refine opok_gen fun N hN => ?_
          clear hd ht
          go_simp
          exact hN.out _ _ ⟨hI, World.grownBy.refl _ _, rfl⟩
        · intro ev wt ht hc hg hf hI hd
          have e0 : ev (.tmp 0) = .pointer (some ⟨g, 0, none⟩) := ht 0 (by decide)
          exact opok_move _ rfl ⟨hI, World.grownBy.refl _ _, e0⟩
        · intro ev wt ht hc hg hf hI hd
          have e4 : ev (.tmp 4) = .pointer (some ⟨b3, 0, none⟩) := ht 4 (by decide)
          refine opok_gen fun N hN => ?_
          clear hd ht
          go_simp
          exact hN.out _ _ ⟨hI, World.grownBy.refl _ _, rfl⟩
        · intro ev wt ht hc hg hf hI hd
          have e29 : ev (.tmp 29) = _ := hd 2 29 rfl rfl
          have stt := ST.out.next hI.2 hI.1
          have j0 := stt.c30
          have j1 := stt.c31
          clear stt
          refine opok_gen fun N hN => ?_
          clear hd ht
          go_simp
          exact hN.out _ _ ⟨hI, World.grownBy.refl _ _, rfl⟩
        · intro ev wt ht hc hg hf hI hd
          have e30 : ev (.tmp 30) = _ := hd 3 30 rfl rfl
          refine opok_gen fun N hN => ?_
          clear hd ht
          go_simp
          exact hN.out _ _ ⟨hI, World.grownBy.refl _ _, rfl⟩
        · intro ev wt ht hc hg hf hI hd
          have e28 : ev (.tmp 28) = _ := hd 1 28 rfl rfl
          have e31 : ev (.tmp 31) = _ := hd 4 31 rfl rfl
          refine opok_gen fun N hN => ?_
          clear hd ht
          go_simp
          refine (l02DrawIndex_any _ _ _ _ _ m _ hI.1 (by omega)).mono ?_
          rintro e wz ⟨x, rfl, hx, hsz, hgz⟩
          exact ⟨_, rfl, hN.out _ _ ⟨⟨hsz, only_trans hI.2 hgz⟩, hgz, ⟨x, rfl, hx⟩⟩⟩
      case hst =>
        refine fun j v w w' _ h1 h2 => StbL.nth (S := Gw g) ?_ j v w w' h1 h2
        exact ⟨stb_eqv _, stb_eqv _, stb_eqv _, stb_eqv _, stb_eqv _, (fun _ _ _ _ h => h), trivial⟩
      case hI => exact ⟨ST.out.src.keep (Below.refl _ _).drew, only_drewN (World.grownBy.refl _ _) 1⟩
      case hl =>
        rintro wt hI _ rfl _ rfl _ rfl _ rfl _ rfl _ ⟨s, rfl, hsv⟩
        simp only [Lasts, List.length_cons, List.length_nil, Nat.reduceAdd, List.drop_succ_cons, List.drop_zero, Act.put, List.setIfInBounds_toArray, List.set_cons_succ, List.set_cons_zero]
        have stt := ST.out.next hI.2 hI.1
        have FI := FIN (x := s) stt (by omega) (by omega) hsv
        have y0 := stt.c20
        have y1 := stt.c21
        have v0 := stt.f2 0
        have v1 := stt.f2 1
        clear stt
        go_wp2_with fail
        exact bodyPost_ret (v := .tuple #[.agg #[.slice An k cn, .slice Ap m cp], .int .i64 s]) (by simp [results, Try.results46, go_sem, y0, y1]) rfl FI.out
    · have hL0' : ((L : Int) == 0) = false := by simp; omega
      obtain ⟨gc, rfl, hgc⟩ := oc.pos (by omega)
      go_wp2_with fail
      refine (l01Next_any _ _ _ _ _ _ _ st.src).mono ?_
      rintro e w9 ⟨r, rfl, r0, r1, _, hs9, hg9⟩
      clear r1 r0
      have OC := Lib.hid (oc.lone fc hg9 HGC.out)
      have FC := Lib.hid fc
      have ST := Lib.hid (st.next hg9 hs9)
      clear st oc fc hs9 hg9
      by_cases hr0 : r = 0
      · subst hr0
        go_wp2_with fail
        apply wp_region_track [27, 28, 29, 30, 31, 32] [eqv _, eqv _, eqv _, eqv _, eqv _, isI64]
          (fun wx => Src wx g A n c bs ∧ w9.grownBy wx (some g)) (Gw g) (by kernel_rfl) (by kernel_rfl) rfl (by kernel_rfl)
        case hs =>
          refine ⟨?_, ?_, ?_, ?_, ?_, ?_, trivial⟩
          · intro ev wt ht hc hg hf hI hd
            have e4 : ev (.tmp 4) = .pointer (some ⟨b3, 0, none⟩) := ht 4 (by decide)
            have stt := ST.out.next hI.2 hI.1
            have j0 := stt.c30
            have j1 := stt.c31
            clear stt
            refine opok_gen fun N hN => ?_
            clear hd ht
            go_simp
            exact hN.out _ _ ⟨hI, World.grownBy.refl _ _, rfl⟩
          · intro ev wt ht hc hg hf hI hd
            have e0 : ev (.tmp 0) = .pointer (some ⟨g, 0, none⟩) := ht 0 (by decide)
            exact opok_move _ rfl ⟨hI, World.grownBy.refl _ _, e0⟩
          · intro ev wt ht hc hg hf hI hd
            have e4 : ev (.tmp 4) = .pointer (some ⟨b3, 0, none⟩) := ht 4 (by decide)
            refine opok_gen fun N hN => ?_
            clear hd ht
            go_simp
            exact hN.out _ _ ⟨hI, World.grownBy.refl _ _, rfl⟩
          · intro ev wt ht hc hg hf hI hd
            have e29 : ev (.tmp 29) = _ := hd 2 29 rfl rfl
            have stt := ST.out.next hI.2 hI.1
            have j0 := stt.c30
            have j1 := stt.c31
            clear stt
            refine opok_gen fun N hN => ?_
            clear hd ht
            go_simp
            exact hN.out _ _ ⟨hI, World.grownBy.refl _ _, rfl⟩
          · intro ev wt ht hc hg hf hI hd
            have e30 : ev (.tmp 30) = _ := hd 3 30 rfl rfl
            refine opok_gen fun N hN => ?_
            clear hd ht
            go_simp
            exact hN.out _ _ ⟨hI, World.grownBy.refl _ _, rfl⟩
          · intro ev wt ht hc hg hf hI hd
            have e28 : ev (.tmp 28) = _ := hd 1 28 rfl rfl
            have e31 : ev (.tmp 31) = _ := hd 4 31 rfl rfl
            refine opok_gen fun N hN => ?_
            clear hd ht
            go_simp
            refine (l02DrawIndex_any _ _ _ _ _ m _ hI.1 (by omega)).mono ?_
            rintro e wz ⟨x, rfl, hx, hsz, hgz⟩
            exact ⟨_, rfl, hN.out _ _ ⟨⟨hsz, only_trans hI.2 hgz⟩, hgz, ⟨x, rfl, hx⟩⟩⟩
        case hst =>
          refine fun j v w w' _ h1 h2 => StbL.nth (S := Gw g) ?_ j v w w' h1 h2
          exact ⟨stb_eqv _, stb_eqv _, stb_eqv _, stb_eqv _, stb_eqv _, (fun _ _ _ _ h => h), trivial⟩
        case hI => exact ⟨ST.out.src.keep (Below.refl _ _).drew, only_drewN (World.grownBy.refl _ _) 1⟩
        case hl =>
          rintro wt hI _ rfl _ rfl _ rfl _ rfl _ rfl _ ⟨s, rfl, hsv⟩
          simp only [Lasts, List.length_cons, List.length_nil, Nat.reduceAdd, List.drop_succ_cons, List.drop_zero, Act.put, List.setIfInBounds_toArray, List.set_cons_succ, List.set_cons_zero]
          have stt := ST.out.next hI.2 hI.1
          have FI := FIN (x := s) stt (by omega) (by omega) hsv
          have y0 := stt.c20
          have y1 := stt.c21
          have v0 := stt.f2 0
          have v1 := stt.f2 1
          clear stt
          go_wp2_with fail
          exact bodyPost_ret (v := .tuple #[.agg #[.slice An k cn, .slice Ap m cp], .int .i64 s]) (by simp [results, Try.results46, go_sem, y0, y1]) rfl FI.out
      · have hr0' : (r == 0) = false := by simp [hr0]
        clear hr0
        go_wp2_with fail
        have j0 := ST.out.c30
        have j1 := ST.out.c31
        have d0 := ST.out.c20
        have d1 := ST.out.c21
        have d2 := ST.out.f2 0
        have d3 := ST.out.f2 1
        have hgb : gc ≠ w.heap.size := by have := FC.out _ rfl; have h2 := ST.out.h2; have h3 := HSB.out; simp only at this; omega
        go_region_with (go_at_call 49; refine (l01Next_any _ _ _ _ _ _ _ (ST.out.src.keep (Below.refl _ _).drew)).mono ?_; rintro e wz ⟨x, rfl, x0, x1, x2, hsz, hgz⟩; have hx : x < (L : Int) := (by by_cases h1 : 1 < (L : Int); exact x1 h1; have := x2 (by omega); omega); obtain ⟨X, rfl⟩ := Int.eq_ofNat_of_zero_le x0; clear x1 x2; have hXL : X < L := (by omega); have hgz2 := only_trans (only_drewN (World.grownBy.refl w9 (some g)) 1) hgz; have stz := ST.out.next hgz2 hsz; have ocz := OC.out.lone FC.out hgz2 HGC.out; have cx := ocz.cell hXL; have hxi := ocz.i64 X; have FI := FIN (x := ig zc X) stz (by omega) (by omega) hxi; have z0 := stz.c30; have z1 := stz.c31; have y0 := stz.c20; have y1 := stz.c21; have v0 := stz.f2 0; have v1 := stz.f2 1; clear stz ocz)
        all_goals
          go_wp2_with fail
          exact bodyPost_ret (v := .tuple #[.agg #[.slice An k cn, .slice Ap m cp], .int .i64 (ig zc X)]) (by simp [results, Try.results46, go_sem, y0, y1]) rfl FI.out

end Go.Proofs.Ytllblmndoigdlaa

/- draws: flow lists -/
namespace Go.Proofs.Ytllblmndoigdlaa
open Go.RowKit

theorem grown_at {w w' : World} {g b : Nat} (hg : w.grownBy w' (some g)) (h1 : b < w.heap.size) (h2 : b ≠ g) : w'.heap[b]? = w.heap[b]? := hg.block b h1 (fun e => h2 (by injection e))

/-- what a draw of a list gives -/
def DrawnL (w : World) (g : Nat) (A : Option Addr) (n c : Nat) (bs : List Int) (M : Nat) (e : Ending) (w' : World) : Prop :=
  ∃ Al L cl zs, e = .returned (.slice Al L cl) ∧ Own w' Al L cl zs ∧ Fresh w.heap.size Al ∧ L ≤ M ∧ Src w' g A n c bs ∧ w.grownBy w' (some g)

set_option maxRecDepth 100000 in
set_option maxHeartbeats 4000000 in
theorem l05DrawFlows_any (g : Nat) (A : Option Addr) (n c : Nat) (bs : List Int) (An : Option Addr) (k cn : Nat) (Ap : Option Addr) (m cp : Nat) (w : World) (h : Src w g A n c bs) (hm : m ≤ 12) :
    Calls Try.prog 51 #[.pointer (some ⟨g, 0, none⟩), .agg #[.slice An k cn, .slice Ap m cp]] w (DrawnL w g A n c bs 13) := by
  have hlt := h.lt
  have hA := Lib.hid h.blk
  have hA1 : Hid (0 < n → ∀ a, A = some a → a.block < w.heap.size + 1) := Lib.hid fun hn a ha => by have := hA.out hn a ha; omega
  have bx0 := heap_alloc_new w (.cells #[.slice An k cn, .slice Ap m cp] 27)
  obtain ⟨W, hW⟩ : ∃ W, W = w.alloc (.cells #[.slice An k cn, .slice Ap m cp] 27) := ⟨_, rfl⟩
  have o0 := own_lit0 W
  have HWS : Hid (W.heap.size = w.heap.size + 1) := Lib.hid (by rw [hW]; simp)
  have hWs1 : w.heap.size < W.heap.size := by have := HWS.out; omega
  have hWs2 : W.heap.size ≤ w.heap.size + 1 := by have := HWS.out; omega
  have s0 : Src (W.alloc (.cells #[] 2)) g A n c bs := by rw [hW]; exact (h.alloc _).alloc _
  have g0 : W.grownBy (W.alloc (.cells #[] 2)) (some g) := only_alloc (World.grownBy.refl _ _) _
  have gW : w.grownBy W (some g) := by rw [hW]; exact only_alloc (World.grownBy.refl _ _) _
  rw [← hW] at bx0
  have HW := Lib.hid hW
  clear hW
  go_enter Try.func51, Try.ntmps51
  go_wp2_with fail
  rw [← HW.out, ← HWS.out]
  go_loopw [5, 6] (fun p i wr => ∃ (j c5 : Nat) (A5 : Option Addr) (zs : List Int), p = .slice A5 j c5 ∧ i = .int .i64 (j : Int) ∧ j ≤ m ∧ Own wr A5 j c5 zs ∧ Fresh W.heap.size A5 ∧ Src wr g A n c bs ∧ W.grownBy wr (some g)) (fun _ i _ => m - (intOf i).toNat)
  case atStart => exact ⟨0, 0, some ⟨W.heap.size, 0, none⟩, [], rfl, rfl, by omega, o0, (fun a ha => by injection ha with ha; subst ha; exact Nat.le_refl _), s0, g0⟩
  case round =>
    clear o0 s0 g0
    obtain ⟨j, c5, A5, zs, rfl, rfl, hj, oo, fo, hs, hgr⟩ := hrel
    have x1 := (grown_at hgr (b := w.heap.size) (by omega) (by omega)).trans bx0
    have k1 : wr.cell? ⟨w.heap.size, 1, none⟩ = some (.slice Ap m cp) := by rw [cell_blk x1]; rfl
    have hsz := hgr.size
    clear x1
    by_cases hjm : j < m
    · have hji : (j : Int) < (m : Int) := by omega
      go_wp2_with fail
      refine (l01Next_any _ _ _ _ _ _ _ hs).mono ?_
      rintro e w2 ⟨q, rfl, q0, q1, _, hs2, hg2⟩
      have q1' := q1 (by omega)
      clear q1
      have o2 := (oo.lone fo hg2 (by omega)).later (bel1 w2 (.cells #[.int .i64 (q - 30)] 2))
      have gr2 := only_alloc (only_trans hgr hg2) (.cells #[.int .i64 (q - 30)] 2)
      go_wp2_with (at_builtin; refine law_append _ rfl _ _ rfl A5 _ c5 _ rfl o2 _ _ (q - 30) ⟨by omega, by omega⟩ rfl (cell_new1 _ _ _) (by omega) ?_; intro A3 c3 w3 ho3 hg3 hb3)
      have s3 : Src w3 g A n c bs := (hs2.alloc _).new hg3 fo (by omega) (fun hn a ha => by have := hA1.out hn a ha; omega)
      have gr3 := only_new gr2 hg3 (fun i hi => fresh_row fo i hi)
      have f3 := fresh_app fo (by have := gr2.size; exact this) hb3
      clear o2 gr2 hg3 hb3
      go_roundw
      case rel => exact ⟨j + 1, c3, A3, _, rfl, by go_num, by omega, ho3, f3, s3, gr3⟩
      case measure => simp [intOf]; omega
    · have hji : ¬ (j : Int) < (m : Int) := by omega
      go_wp2_with fail
      refine (l01Next_any _ _ _ _ _ _ _ hs).mono ?_
      rintro e w2 ⟨q, rfl, q0, q1, _, hs2, hg2⟩
      have q1' := q1 (by omega)
      clear q1
      have o2 := oo.lone fo hg2 (by omega)
      have gr2 := only_trans hgr hg2
      have hq : q = 0 ∨ q = 1 ∨ 2 ≤ q := by omega
      clear oo hgr hs hg2 k1 bx0
      rcases hq with rfl | rfl | hq
      · have o3 := o2.later (bel1 w2 (.cells #[.int .i64 0] 2))
        have gr3 := only_alloc gr2 (.cells #[.int .i64 0] 2)
        go_wp2_with (at_builtin; refine law_append _ rfl _ _ rfl A5 _ c5 _ rfl o3 _ _ 0 ⟨by decide, by decide⟩ rfl (cell_new1 _ _ _) (by omega) ?_; intro A3 c3 w3 ho3 hg3 hb3)
        go_ret
        exact ⟨A3, j + 1, c3, _, rfl, ho3, fresh_up (fresh_app fo (by have := gr3.size; exact this) hb3) (by omega), by omega, (hs2.alloc _).new hg3 fo (by omega) (fun hn a ha => by have := hA1.out hn a ha; omega), only_trans gW (only_new gr3 hg3 (fun i hi => fresh_row fo i hi))⟩
      · by_cases hj0 : 0 < j
        · have hj0i : (0 : Int) < (j : Int) := by omega
          obtain ⟨ga, rfl, hga⟩ := o2.pos hj0
          have hfa := fo _ rfl
          simp only at hfa
          go_wp2_with fail
          refine (l01Next_any _ _ _ _ _ _ _ (hs2.alloc _)).mono ?_
          rintro e w4 ⟨x, rfl, x0, x1, _, hs4, hg4⟩
          have x1' := x1 (by omega)
          clear x1
          obtain ⟨X, rfl⟩ := Int.eq_ofNat_of_zero_le x0
          have gsz := gr2.size
          have bl := (hg4.block w2.heap.size (by simp) (by intro e; injection e; omega)).trans (heap_alloc_new w2 _)
          have cc := cell_blk bl X
          have o4 := (o2.later (bel1 w2 (.cells #[.int .i64 30000, .int .i64 30001, .int .i64 (-30000)] 2))).lone fo hg4 (by omega)
          have c4 := o4.cell hj0
          have u4 := o4.unfrozen 0
          have gr4 := only_trans (only_alloc gr2 (.cells #[.int .i64 30000, .int .i64 30001, .int .i64 (-30000)] 2)) hg4
          have fin : ∀ z : Int, I64 z → Hid (DrawnL w g A n c bs 13 (.returned (.slice (some ⟨ga, 0, none⟩) j c5)) (w4.setCell ⟨ga, 0, none⟩ (.int .i64 z))) := fun z hz => Lib.hid ⟨_, j, c5, _, rfl, o4.store 0 hz, fresh_up fo (by omega), by omega, hs4.put (by omega) (fun hn a ha => by have := hA1.out hn a ha; omega) _ _, only_trans gW (only_put gr4 (by omega) _ _)⟩
          clear bl o4 gr4 hs4 o2 gr2 hs2
          have hX : X = 0 ∨ X = 1 ∨ X = 2 := by omega
          rcases hX with rfl | rfl | rfl
          · simp at cc
            have F := fin 30000 ⟨by decide, by decide⟩
            go_wp2_with fail
            go_ret
            exact F.out
          · simp at cc
            have F := fin 30001 ⟨by decide, by decide⟩
            go_wp2_with fail
            go_ret
            exact F.out
          · simp at cc
            have F := fin (-30000) ⟨by decide, by decide⟩
            go_wp2_with fail
            go_ret
            exact F.out
        · have hj0i : ¬ (0 : Int) < (j : Int) := by omega
          go_wp2_with fail
          go_ret
          exact ⟨A5, j, c5, _, rfl, o2, fresh_up fo (by omega), by omega, hs2, only_trans gW gr2⟩
      · have e0 : (q == 0) = false := by simp; omega
        have e1 : (q == 1) = false := by simp; omega
        go_wp2_with fail
        go_ret
        exact ⟨A5, j, c5, _, rfl, o2, fresh_up fo (by omega), by omega, hs2, only_trans gW gr2⟩

end Go.Proofs.Ytllblmndoigdlaa
