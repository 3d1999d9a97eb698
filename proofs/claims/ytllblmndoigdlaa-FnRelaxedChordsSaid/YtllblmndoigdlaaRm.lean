/- l06Draw -/
import Derived.Test.YtllblmndoigdlaaK7
import Derived.Test.YtllblmndoigdlaaF9
import Derived.Test.YtllblmndoigdlaaH1
namespace Go.Proofs.Ytllblmndoigdlaa
open Go.RowKit

theorem wrap_rng (z : Int) : I64 (wrap64 z) := by unfold I64 wrap64; omega
theorem own_lit2 (w : World) (x y : Int) (hx : I64 x) (hy : I64 y) : Own (w.alloc (.cells #[.int .i64 x, .int .i64 y] 2)) (some ⟨w.heap.size, 0, none⟩) 2 2 [x, y] :=
  ⟨⟨by simp, .inr ⟨w.heap.size, 2, #[.int .i64 x, .int .i64 y], rfl, Nat.zero_le _, heap_alloc_new w _, Nat.le_refl _, by decide, rfl, rfl⟩⟩, by simp; exact ⟨hx, hy⟩⟩
theorem flow_mk {net : Net} {zs : List Int} (hl : zs.length = net.pipes.length) (h : ∀ z ∈ zs, -15 ≤ z ∧ z ≤ 24) : flowB net zs = true := by
  unfold flowB
  simp only [Bool.and_eq_true, decide_eq_true_eq]
  refine ⟨hl, allB_yes (k := zs.length) (Nat.le_refl _) fun j hj => ?_⟩
  have := h _ (List.getElem_mem hj)
  have e : ig zs j = zs[j] := ig_lt hj
  rw [e]
  exact inB_iff'.2 (by omega)
/-- what a draw of a network and a list gives -/
def DrawnS (w : World) (g : Nat) (A : Option Addr) (n c : Nat) (bs : List Int) (e : Ending) (w' : World) : Prop :=
  ∃ An k cn Ap m cp ns ps Al L cl zs, e = .returned (.tuple #[.agg #[.slice An k cn, .slice Ap m cp], .slice Al L cl]) ∧ DN w.heap.size w' An k cn Ap m cp ns ps ∧ Own w' Al L cl zs ∧ Fresh w.heap.size Al ∧ k ≤ 7 ∧ m ≤ 12 ∧ L ≤ 20 ∧ Src w' g A n c bs ∧ w.grownBy w' (some g)

set_option maxRecDepth 100000 in
set_option maxHeartbeats 8000000 in
theorem l06Draw_any (g : Nat) (A : Option Addr) (n c : Nat) (bs : List Int) (w : World) (h : Src w g A n c bs) :
    Calls Try.prog 63 #[.pointer (some ⟨g, 0, none⟩)] w (DrawnS w g A n c bs) := by
  have hlt := h.lt
  go_enter Try.func63, Try.ntmps63
  go_wp2_with fail
  refine (l05DrawLoops_any _ _ _ _ _ _ (h.alloc _)).mono ?_
  rintro e w1 ⟨An, k, cn, Ap, m, cp, ns, ps, rfl, hd, hk1, hk7, hm, hs1, hg1⟩
  have st0 := DA.start h hd hs1 hg1
  obtain ⟨w2, hw2⟩ : ∃ w2, w2 = w1.alloc (.cells #[.slice An k cn, .slice Ap m cp] 27) := ⟨_, rfl⟩
  rw [← hw2] at st0
  have HW2 := Lib.hid hw2
  clear hd hs1 hg1 hw2 hk1
  go_wp2_with fail
  rw [← HW2.out]
  refine (l01Next_any _ _ _ _ _ _ _ st0.src).mono ?_
  rintro e w4 ⟨q, rfl, q0, q1, _, hs4, hg4⟩
  clear q1 q0
  have st := st0.next hg4 hs4
  clear st0 hs4 hg4 HW2
  obtain ⟨b3, hb3⟩ : ∃ b3, w1.heap.size = b3 := ⟨_, rfl⟩
  rw [hb3] at st ⊢
  clear hb3
  have hh3 := st.h3
  have FIN : ∀ {W : World} {An' : Option Addr} {k' cn' : Nat} {Ap' : Option Addr} {m' cp' : Nat} {ns' : List Node} {ps' : List Pipe} {Al : Option Addr} {L cl : Nat} {zs : List Int}, DA w g A n c bs w.heap.size b3 An' k' cn' Ap' m' cp' ns' ps' W → Own W Al L cl zs → (∀ a, Al = some a → w.heap.size < a.block) → k' ≤ 7 → m' ≤ 12 → L ≤ 20 → Hid (DrawnS w g A n c bs (.returned (.tuple #[.agg #[.slice An' k' cn', .slice Ap' m' cp'], .slice Al L cl])) ((W.setCell ⟨w.heap.size, 0, none⟩ (.slice An' k' cn')).setCell ⟨w.heap.size, 1, none⟩ (.slice Ap' m' cp'))) := fun h ho hl h1 h2 h3 => Lib.hid ⟨_, _, _, _, _, _, _, _, _, _, _, _, rfl, h.fin2.1, (ho.far (fun a ha => by have := hl a ha; show a.block ≠ w.heap.size; omega) _).far (fun a ha => by have := hl a ha; show a.block ≠ w.heap.size; omega) _, (fun a ha => by have := hl a ha; omega), h1, h2, h3, h.fin2.2⟩
  by_cases hq : q = 0
  · subst hq
    have k0 := st.c30
    go_wp2_with fail
    refine (l02DrawAny_any _ _ _ _ _ _ st.src).mono ?_
    clear hm hk7
    rintro e w5 ⟨An, k, cn, Ap, m, cp, ns, ps, rfl, hd, _, hk7, hm, hs5, hg5⟩
    have st5 := st.replace hd hs5 hg5
    have stn := st.next hg5 hs5
    have z0 := stn.c30
    have z1 := stn.c31
    have u0 := stn.f3 0
    have u1 := stn.f3 1
    clear st stn hd hs5 hg5 k0
    obtain ⟨w6, hw6⟩ : ∃ w6, w6 = (w5.setCell ⟨b3, 0, none⟩ (.slice An k cn)).setCell ⟨b3, 1, none⟩ (.slice Ap m cp) := ⟨_, rfl⟩
    rw [← hw6] at st5
    have HW6 := Lib.hid hw6
    have y0 := st5.c30
    have y1 := st5.c31
    rw [hw6] at y0 y1
    clear hw6
    have hm : m ≤ 12 := by omega
    have hnb : b3 ≠ w.heap.size := by omega
    go_wp2_with fail
    rw [← HW6.out]
    clear y0 y1 z0 z1 u0 u1 HW6
    have k0 := st5.c30
    have k1 := st5.c31
    have ST0 := Lib.hid st5
    clear st5
    rcases hv : netB ⟨ns, ps⟩ with _ | _
    · refine (specIsNetwork_is _ _ _ _ _ _ ⟨ns, ps⟩ _ _ ST0.out.net hv).mono ?_
      rintro e w8 ⟨rfl, b8⟩
      have st8 := ST0.out.later b8
      have x0 := st8.c30
      have x1 := st8.c31
      have n0 := st8.f2 0
      have n1 := st8.f2 1
      have n2 := st8.c20
      have n3 := st8.c21
      have hlt8 : w.heap.size < w8.heap.size := by have := st8.lt; have := st8.h3; omega
      have oL := own_lit2 ((w8.setCell ⟨w.heap.size, 0, none⟩ (.slice An k cn)).setCell ⟨w.heap.size, 1, none⟩ (.slice Ap m cp)) 1 (-1) ⟨by decide, by decide⟩ ⟨by decide, by decide⟩
      have hsz : ((w8.setCell ⟨w.heap.size, 0, none⟩ (.slice An k cn)).setCell ⟨w.heap.size, 1, none⟩ (.slice Ap m cp)).heap.size = w8.heap.size := by simp [World.setCell]
      rw [hsz] at oL
      have FI : Hid (DrawnS w g A n c bs (.returned (.tuple #[.agg #[.slice An k cn, .slice Ap m cp], .slice (some ⟨w8.heap.size, 0, none⟩) 2 2])) (((w8.setCell ⟨w.heap.size, 0, none⟩ (.slice An k cn)).setCell ⟨w.heap.size, 1, none⟩ (.slice Ap m cp)).alloc (.cells #[.int .i64 1, .int .i64 (-1)] 2))) := Lib.hid ⟨_, _, _, _, _, _, _, _, _, _, _, _, rfl, st8.fin2.1.later (bel1 _ _), oL, (fun a ha => by injection ha with ha; subst ha; show w.heap.size ≤ w8.heap.size; omega), hk7, hm, by omega, st8.fin2.2.1.alloc _, only_alloc st8.fin2.2.2 _⟩
      clear k0 k1 ST0 oL hsz
      go_wp2_with fail
      exact bodyPost_ret (v := .tuple #[.agg #[.slice An k cn, .slice Ap m cp], .slice (some ⟨w8.heap.size, 0, none⟩) 2 2]) (by simp [results, Try.results63, go_sem, n2, n3, hlt8]) rfl FI.out
    · refine (specIsNetwork_is _ _ _ _ _ _ ⟨ns, ps⟩ _ _ ST0.out.net hv).mono ?_
      rintro e w8 ⟨rfl, b8⟩
      have ST8 := Lib.hid (ST0.out.later b8)
      have hlt8 : w.heap.size < w8.heap.size := by have := ST8.out.lt; have := ST8.out.h3; omega
      have hg8 : g < w8.heap.size := ST8.out.src.lt
      have hA8 : Hid (0 < n → ∀ a, A = some a → a.block < w8.heap.size) := Lib.hid fun hn a ha => ST8.out.src.blk hn a ha
      have o0 := own_lit0 w8
      have s0 : Src (w8.alloc (.cells #[] 2)) g A n c bs := ST8.out.src.alloc _
      have g0 : w8.grownBy (w8.alloc (.cells #[] 2)) (some g) := only_alloc (World.grownBy.refl _ _) _
      have hk1 : 1 ≤ k := by have := netB_sizes hv; have := ST8.out.net.nodes.len; simp only at *; omega
      have hpl : Hid (ps.length = m) := Lib.hid ST8.out.net.pipes.len
      clear k0 k1 ST0
      go_wp2_with fail
      go_loopw [5, 6] (fun p i wr => ∃ (j c5 : Nat) (A5 : Option Addr) (zs : List Int), p = .slice A5 j c5 ∧ i = .int .i64 (j : Int) ∧ j ≤ m ∧ Own wr A5 j c5 zs ∧ Hid (∀ z ∈ zs, -15 ≤ z ∧ z ≤ 24) ∧ Fresh w8.heap.size A5 ∧ Src wr g A n c bs ∧ w8.grownBy wr (some g)) (fun _ i _ => m - (intOf i).toNat)
      case atStart => exact ⟨0, 0, some ⟨w8.heap.size, 0, none⟩, [], rfl, rfl, by omega, o0, Lib.hid (fun z hz => by cases hz), (fun a ha => by injection ha with ha; subst ha; exact Nat.le_refl _), s0, g0⟩
      case round =>
        clear o0 s0 g0
        obtain ⟨j, c5, A5, zs, rfl, rfl, hj, oo, hzr, fo, hs, hgr⟩ := hrel
        have str := ST8.out.next hgr hs
        have k0 := str.c30
        have k1 := str.c31
        have hsz := hgr.size
        by_cases hjm : j < m
        · have hji : (j : Int) < (m : Int) := by omega
          clear str
          go_wp2_with fail
          refine (l01Next_any _ _ _ _ _ _ _ hs).mono ?_
          rintro e w2 ⟨q, rfl, q0, q1, _, hs2, hg2⟩
          have q1' := q1 (by omega)
          clear q1
          have o2 := (oo.lone fo hg2 (by omega)).later (bel1 w2 (.cells #[.int .i64 (q - 15)] 2))
          have gr2 := only_alloc (only_trans hgr hg2) (.cells #[.int .i64 (q - 15)] 2)
          have hzr2 : Hid (∀ z ∈ zs ++ [q - 15], -15 ≤ z ∧ z ≤ 24) := Lib.hid (fun z hz => by
            rcases List.mem_append.1 hz with hz | hz
            · exact hzr.out z hz
            · rw [List.mem_singleton.1 hz]; omega)
          go_wp2_with (at_builtin; refine law_append _ rfl _ _ rfl A5 _ c5 _ rfl o2 _ _ (q - 15) ⟨by omega, by omega⟩ rfl (cell_new1 _ _ _) (by omega) ?_; intro A3 c3 w3 ho3 hg3 hb3)
          have s3 : Src w3 g A n c bs := (hs2.alloc _).new hg3 fo (by omega) (fun hn a ha => by have := hA8.out hn a ha; omega)
          have gr3 := only_new gr2 hg3 (fun i hi => fresh_row fo i hi)
          have f3 := fresh_app fo (by have := gr2.size; exact this) hb3
          clear o2 gr2 hg3 hb3
          go_roundw
          case rel => exact ⟨j + 1, c3, A3, _, rfl, by go_num, by omega, ho3, hzr2, f3, s3, gr3⟩
          case measure => simp [intOf]; omega
        · have hji : ¬ (j : Int) < (m : Int) := by omega
          have hfl : flowB ⟨ns, ps⟩ zs = true := flow_mk (by have := oo.len; have := hpl.out; show zs.length = ps.length; omega) hzr.out
          have STR := Lib.hid str
          clear str
          go_wp2_with fail
          refine (l05Out_any _ _ _ _ _ _ ⟨ns, ps⟩ _ _ _ zs _ STR.out.net oo.ints hv hfl).mono ?_
          rintro e w9 ⟨Ao, co, rfl, os, fs, b9⟩
          have st9 := STR.out.later b9
          have hw9 := b9.size
          clear k0 k1 oo fo hzr
          go_wp2_with fail
          refine (l01Next_any _ _ _ _ _ _ _ st9.src).mono ?_
          rintro e w10 ⟨x, rfl, x0, x1, x2, hs10, hg10⟩
          have x1' : x < (k : Int) := by
            rcases Int.lt_or_le 1 (k : Int) with hk | hk
            · exact x1 hk
            · have := x2 hk; omega
          clear x1 x2
          obtain ⟨X, rfl⟩ := Int.eq_ofNat_of_zero_le x0
          have st10 := st9.next hg10 hs10
          have os10 := os.lone fs hg10 (by omega)
          have hw10 := hg10.size
          go_wp2_with fail
          refine (l01Next_any _ _ _ _ _ _ _ st10.src).mono ?_
          rintro e w11 ⟨y, rfl, y0, y1, _, hs11, hg11⟩
          clear y1
          have st11 := st10.next hg11 hs11
          have os11 := os10.lone fs hg11 (by omega)
          have hw11 := hg11.size
          obtain ⟨ga, rfl, hga⟩ := os11.pos (by omega)
          have hfa := fs _ rfl
          simp only at hfa
          have hXk : X < k := by omega
          have grW := only_trans (only_trans (only_below (row := some g) b9) hg10) hg11
          clear st9 st10 os os10
          have cx := os11.cell hXk
          have ux := os11.unfrozen X
          have hy : y = 0 ∨ y = 1 ∨ y = 2 ∨ 3 ≤ y := by omega
          rcases hy with rfl | rfl | rfl | hy
          · have grp := only_put grW (b := ga) (by omega) X (.int .i64 (wrap64 (ig (outL k ps zs m) X + 1)))
            have srp := st11.src.put (b := ga) (by omega) (fun hn a ha => by have := hA8.out hn a ha; omega) X (.int .i64 (wrap64 (ig (outL k ps zs m) X + 1)))
            have stp := STR.out.next grp srp
            have osp := os11.store X (wrap_rng (ig (outL k ps zs m) X + 1))
            have FI := FIN stp osp (fun a ha => by injection ha with ha; subst ha; show w.heap.size < ga; omega) hk7 hm (by omega)
            have y0 := (stp).c20
            have y1 := (stp).c21
            have v0 := (stp).f2 0
            have v1 := (stp).f2 1
            have z0 := (stp).c30
            have z1 := (stp).c31
            go_wp2_with fail
            exact bodyPost_ret (v := .tuple #[.agg #[.slice An k cn, .slice Ap m cp], .slice (some ⟨ga, 0, none⟩) k co]) (by simp [results, Try.results63, go_sem, y0, y1]) rfl FI.out
          · go_wp2_with fail
            refine (l01Next_any _ _ _ _ _ _ _ (st11.src.alloc _)).mono ?_
            rintro e w12 ⟨x, rfl, x0, x1, _, hs12, hg12⟩
            have x1' := x1 (by omega)
            clear x1
            obtain ⟨Z, rfl⟩ := Int.eq_ofNat_of_zero_le x0
            have bl := (hg12.block w11.heap.size (by simp) (by intro e; injection e; omega)).trans (heap_alloc_new w11 _)
            have cc := cell_blk bl Z
            have o12 := (os11.later (bel1 w11 (.cells #[.int .i64 30000, .int .i64 30001] 2))).lone fs hg12 (by omega)
            have c12 := o12.cell hXk
            have u12 := o12.unfrozen X
            have gr12 := only_trans (only_alloc grW (.cells #[.int .i64 30000, .int .i64 30001] 2)) hg12
            have OP : ∀ z : Int, I64 z → Own (w12.setCell ⟨ga, X, none⟩ (.int .i64 z)) (some ⟨ga, 0, none⟩) k co ((outL k ps zs m).set X z) := fun z hz => o12.store X hz
            have SP : ∀ z : Int, DA w g A n c bs w.heap.size b3 An k cn Ap m cp ns ps (w12.setCell ⟨ga, X, none⟩ (.int .i64 z)) := fun z => STR.out.next (only_put gr12 (b := ga) (by omega) X _) (hs12.put (b := ga) (by omega) (fun hn a ha => by have := hA8.out hn a ha; omega) X _)
            clear bl gr12 o12 cx ux
            have hX : Z = 0 ∨ Z = 1 := by omega
            rcases hX with rfl | rfl
            · simp at cc
              have stp := SP 30000
              have osp := OP 30000 ⟨by decide, by decide⟩
              have FI := FIN stp osp (fun a ha => by injection ha with ha; subst ha; show w.heap.size < ga; omega) hk7 hm (by omega)
              have y0 := (stp).c20
              have y1 := (stp).c21
              have v0 := (stp).f2 0
              have v1 := (stp).f2 1
              have z0 := (stp).c30
              have z1 := (stp).c31
              go_wp2_with fail
              exact bodyPost_ret (v := .tuple #[.agg #[.slice An k cn, .slice Ap m cp], .slice (some ⟨ga, 0, none⟩) k co]) (by simp [results, Try.results63, go_sem, y0, y1]) rfl FI.out
            · simp at cc
              have stp := SP 30001
              have osp := OP 30001 ⟨by decide, by decide⟩
              have FI := FIN stp osp (fun a ha => by injection ha with ha; subst ha; show w.heap.size < ga; omega) hk7 hm (by omega)
              have y0 := (stp).c20
              have y1 := (stp).c21
              have v0 := (stp).f2 0
              have v1 := (stp).f2 1
              have z0 := (stp).c30
              have z1 := (stp).c31
              go_wp2_with fail
              exact bodyPost_ret (v := .tuple #[.agg #[.slice An k cn, .slice Ap m cp], .slice (some ⟨ga, 0, none⟩) k co]) (by simp [results, Try.results63, go_sem, y0, y1]) rfl FI.out
          · have o3 := os11.later (bel1 w11 (.cells #[.int .i64 0] 2))
            have gr3 := only_alloc grW (.cells #[.int .i64 0] 2)
            have HTL := Lib.hid (st11.src.alloc (.cells #[.int .i64 0] 2))
            go_wp2_with (at_builtin; refine law_append _ rfl _ _ rfl _ _ co _ rfl o3 _ _ 0 ⟨by decide, by decide⟩ rfl (cell_new1 _ _ _) (by omega) ?_; intro A3 c3 w3 ho3 hg3 hb3; have f3 := fresh_app fs (by have := gr3.size; exact this) hb3; have s3 : Src w3 g A n c bs := HTL.out.new hg3 fs (by omega) (fun hn a ha => by have := hA8.out hn a ha; omega); have st3 := STR.out.next (only_new gr3 hg3 (fun i hi => fresh_row fs i hi)) s3; have FI := FIN st3 ho3 (fun a ha => by have := f3 a ha; omega) hk7 hm (by omega); have y0 := st3.c20; have y1 := st3.c21; have v0 := st3.f2 0; have v1 := st3.f2 1; have z0 := st3.c30; have z1 := st3.c31)
            exact bodyPost_ret (v := .tuple #[.agg #[.slice An k cn, .slice Ap m cp], .slice A3 (k + 1) c3]) (by simp [results, Try.results63, go_sem, y0, y1]) rfl FI.out
          · have e1 : (y == 0) = false := by simp; omega
            have e2 : (y == 1) = false := by simp; omega
            have e3 : (y == 2) = false := by simp; omega
            have FI := FIN st11 os11 (fun a ha => by injection ha with ha; subst ha; show w.heap.size < ga; omega) hk7 hm (by omega)
            have y0 := (st11).c20
            have y1 := (st11).c21
            have v0 := (st11).f2 0
            have v1 := (st11).f2 1
            have z0 := (st11).c30
            have z1 := (st11).c31
            go_wp2_with fail
            exact bodyPost_ret (v := .tuple #[.agg #[.slice An k cn, .slice Ap m cp], .slice (some ⟨ga, 0, none⟩) k co]) (by simp [results, Try.results63, go_sem, y0, y1]) rfl FI.out
  · have hq' : (q == 0) = false := by simp [hq]
    clear hq
    have k0 := st.c30
    have k1 := st.c31
    have ST0 := Lib.hid st
    clear st
    go_wp2_with fail
    rcases hv : netB ⟨ns, ps⟩ with _ | _
    · refine (specIsNetwork_is _ _ _ _ _ _ ⟨ns, ps⟩ _ _ ST0.out.net hv).mono ?_
      rintro e w8 ⟨rfl, b8⟩
      have st8 := ST0.out.later b8
      have x0 := st8.c30
      have x1 := st8.c31
      have n0 := st8.f2 0
      have n1 := st8.f2 1
      have n2 := st8.c20
      have n3 := st8.c21
      have hlt8 : w.heap.size < w8.heap.size := by have := st8.lt; have := st8.h3; omega
      have oL := own_lit2 ((w8.setCell ⟨w.heap.size, 0, none⟩ (.slice An k cn)).setCell ⟨w.heap.size, 1, none⟩ (.slice Ap m cp)) 1 (-1) ⟨by decide, by decide⟩ ⟨by decide, by decide⟩
      have hsz : ((w8.setCell ⟨w.heap.size, 0, none⟩ (.slice An k cn)).setCell ⟨w.heap.size, 1, none⟩ (.slice Ap m cp)).heap.size = w8.heap.size := by simp [World.setCell]
      rw [hsz] at oL
      have FI : Hid (DrawnS w g A n c bs (.returned (.tuple #[.agg #[.slice An k cn, .slice Ap m cp], .slice (some ⟨w8.heap.size, 0, none⟩) 2 2])) (((w8.setCell ⟨w.heap.size, 0, none⟩ (.slice An k cn)).setCell ⟨w.heap.size, 1, none⟩ (.slice Ap m cp)).alloc (.cells #[.int .i64 1, .int .i64 (-1)] 2))) := Lib.hid ⟨_, _, _, _, _, _, _, _, _, _, _, _, rfl, st8.fin2.1.later (bel1 _ _), oL, (fun a ha => by injection ha with ha; subst ha; show w.heap.size ≤ w8.heap.size; omega), hk7, hm, by omega, st8.fin2.2.1.alloc _, only_alloc st8.fin2.2.2 _⟩
      clear k0 k1 ST0 oL hsz
      go_wp2_with fail
      exact bodyPost_ret (v := .tuple #[.agg #[.slice An k cn, .slice Ap m cp], .slice (some ⟨w8.heap.size, 0, none⟩) 2 2]) (by simp [results, Try.results63, go_sem, n2, n3, hlt8]) rfl FI.out
    · refine (specIsNetwork_is _ _ _ _ _ _ ⟨ns, ps⟩ _ _ ST0.out.net hv).mono ?_
      rintro e w8 ⟨rfl, b8⟩
      have ST8 := Lib.hid (ST0.out.later b8)
      have hlt8 : w.heap.size < w8.heap.size := by have := ST8.out.lt; have := ST8.out.h3; omega
      have hg8 : g < w8.heap.size := ST8.out.src.lt
      have hA8 : Hid (0 < n → ∀ a, A = some a → a.block < w8.heap.size) := Lib.hid fun hn a ha => ST8.out.src.blk hn a ha
      have o0 := own_lit0 w8
      have s0 : Src (w8.alloc (.cells #[] 2)) g A n c bs := ST8.out.src.alloc _
      have g0 : w8.grownBy (w8.alloc (.cells #[] 2)) (some g) := only_alloc (World.grownBy.refl _ _) _
      have hk1 : 1 ≤ k := by have := netB_sizes hv; have := ST8.out.net.nodes.len; simp only at *; omega
      have hpl : Hid (ps.length = m) := Lib.hid ST8.out.net.pipes.len
      clear k0 k1 ST0
      go_wp2_with fail
      go_loopw [5, 6] (fun p i wr => ∃ (j c5 : Nat) (A5 : Option Addr) (zs : List Int), p = .slice A5 j c5 ∧ i = .int .i64 (j : Int) ∧ j ≤ m ∧ Own wr A5 j c5 zs ∧ Hid (∀ z ∈ zs, -15 ≤ z ∧ z ≤ 24) ∧ Fresh w8.heap.size A5 ∧ Src wr g A n c bs ∧ w8.grownBy wr (some g)) (fun _ i _ => m - (intOf i).toNat)
      case atStart => exact ⟨0, 0, some ⟨w8.heap.size, 0, none⟩, [], rfl, rfl, by omega, o0, Lib.hid (fun z hz => by cases hz), (fun a ha => by injection ha with ha; subst ha; exact Nat.le_refl _), s0, g0⟩
      case round =>
        clear o0 s0 g0
        obtain ⟨j, c5, A5, zs, rfl, rfl, hj, oo, hzr, fo, hs, hgr⟩ := hrel
        have str := ST8.out.next hgr hs
        have k0 := str.c30
        have k1 := str.c31
        have hsz := hgr.size
        by_cases hjm : j < m
        · have hji : (j : Int) < (m : Int) := by omega
          clear str
          go_wp2_with fail
          refine (l01Next_any _ _ _ _ _ _ _ hs).mono ?_
          rintro e w2 ⟨q, rfl, q0, q1, _, hs2, hg2⟩
          have q1' := q1 (by omega)
          clear q1
          have o2 := (oo.lone fo hg2 (by omega)).later (bel1 w2 (.cells #[.int .i64 (q - 15)] 2))
          have gr2 := only_alloc (only_trans hgr hg2) (.cells #[.int .i64 (q - 15)] 2)
          have hzr2 : Hid (∀ z ∈ zs ++ [q - 15], -15 ≤ z ∧ z ≤ 24) := Lib.hid (fun z hz => by
            rcases List.mem_append.1 hz with hz | hz
            · exact hzr.out z hz
            · rw [List.mem_singleton.1 hz]; omega)
          go_wp2_with (at_builtin; refine law_append _ rfl _ _ rfl A5 _ c5 _ rfl o2 _ _ (q - 15) ⟨by omega, by omega⟩ rfl (cell_new1 _ _ _) (by omega) ?_; intro A3 c3 w3 ho3 hg3 hb3)
          have s3 : Src w3 g A n c bs := (hs2.alloc _).new hg3 fo (by omega) (fun hn a ha => by have := hA8.out hn a ha; omega)
          have gr3 := only_new gr2 hg3 (fun i hi => fresh_row fo i hi)
          have f3 := fresh_app fo (by have := gr2.size; exact this) hb3
          clear o2 gr2 hg3 hb3
          go_roundw
          case rel => exact ⟨j + 1, c3, A3, _, rfl, by go_num, by omega, ho3, hzr2, f3, s3, gr3⟩
          case measure => simp [intOf]; omega
        · have hji : ¬ (j : Int) < (m : Int) := by omega
          have hfl : flowB ⟨ns, ps⟩ zs = true := flow_mk (by have := oo.len; have := hpl.out; show zs.length = ps.length; omega) hzr.out
          have STR := Lib.hid str
          clear str
          go_wp2_with fail
          refine (l05Out_any _ _ _ _ _ _ ⟨ns, ps⟩ _ _ _ zs _ STR.out.net oo.ints hv hfl).mono ?_
          rintro e w9 ⟨Ao, co, rfl, os, fs, b9⟩
          have st9 := STR.out.later b9
          have hw9 := b9.size
          clear k0 k1 oo fo hzr
          go_wp2_with fail
          refine (l01Next_any _ _ _ _ _ _ _ st9.src).mono ?_
          rintro e w10 ⟨x, rfl, x0, x1, x2, hs10, hg10⟩
          have x1' : x < (k : Int) := by
            rcases Int.lt_or_le 1 (k : Int) with hk | hk
            · exact x1 hk
            · have := x2 hk; omega
          clear x1 x2
          obtain ⟨X, rfl⟩ := Int.eq_ofNat_of_zero_le x0
          have st10 := st9.next hg10 hs10
          have os10 := os.lone fs hg10 (by omega)
          have hw10 := hg10.size
          go_wp2_with fail
          refine (l01Next_any _ _ _ _ _ _ _ st10.src).mono ?_
          rintro e w11 ⟨y, rfl, y0, y1, _, hs11, hg11⟩
          clear y1
          have st11 := st10.next hg11 hs11
          have os11 := os10.lone fs hg11 (by omega)
          have hw11 := hg11.size
          obtain ⟨ga, rfl, hga⟩ := os11.pos (by omega)
          have hfa := fs _ rfl
          simp only at hfa
          have hXk : X < k := by omega
          have grW := only_trans (only_trans (only_below (row := some g) b9) hg10) hg11
          clear st9 st10 os os10
          have cx := os11.cell hXk
          have ux := os11.unfrozen X
          have hy : y = 0 ∨ y = 1 ∨ y = 2 ∨ 3 ≤ y := by omega
          rcases hy with rfl | rfl | rfl | hy
          · have grp := only_put grW (b := ga) (by omega) X (.int .i64 (wrap64 (ig (outL k ps zs m) X + 1)))
            have srp := st11.src.put (b := ga) (by omega) (fun hn a ha => by have := hA8.out hn a ha; omega) X (.int .i64 (wrap64 (ig (outL k ps zs m) X + 1)))
            have stp := STR.out.next grp srp
            have osp := os11.store X (wrap_rng (ig (outL k ps zs m) X + 1))
            have FI := FIN stp osp (fun a ha => by injection ha with ha; subst ha; show w.heap.size < ga; omega) hk7 hm (by omega)
            have y0 := (stp).c20
            have y1 := (stp).c21
            have v0 := (stp).f2 0
            have v1 := (stp).f2 1
            have z0 := (stp).c30
            have z1 := (stp).c31
            go_wp2_with fail
            exact bodyPost_ret (v := .tuple #[.agg #[.slice An k cn, .slice Ap m cp], .slice (some ⟨ga, 0, none⟩) k co]) (by simp [results, Try.results63, go_sem, y0, y1]) rfl FI.out
          · go_wp2_with fail
            refine (l01Next_any _ _ _ _ _ _ _ (st11.src.alloc _)).mono ?_
            rintro e w12 ⟨x, rfl, x0, x1, _, hs12, hg12⟩
            have x1' := x1 (by omega)
            clear x1
            obtain ⟨Z, rfl⟩ := Int.eq_ofNat_of_zero_le x0
            have bl := (hg12.block w11.heap.size (by simp) (by intro e; injection e; omega)).trans (heap_alloc_new w11 _)
            have cc := cell_blk bl Z
            have o12 := (os11.later (bel1 w11 (.cells #[.int .i64 30000, .int .i64 30001] 2))).lone fs hg12 (by omega)
            have c12 := o12.cell hXk
            have u12 := o12.unfrozen X
            have gr12 := only_trans (only_alloc grW (.cells #[.int .i64 30000, .int .i64 30001] 2)) hg12
            have OP : ∀ z : Int, I64 z → Own (w12.setCell ⟨ga, X, none⟩ (.int .i64 z)) (some ⟨ga, 0, none⟩) k co ((outL k ps zs m).set X z) := fun z hz => o12.store X hz
            have SP : ∀ z : Int, DA w g A n c bs w.heap.size b3 An k cn Ap m cp ns ps (w12.setCell ⟨ga, X, none⟩ (.int .i64 z)) := fun z => STR.out.next (only_put gr12 (b := ga) (by omega) X _) (hs12.put (b := ga) (by omega) (fun hn a ha => by have := hA8.out hn a ha; omega) X _)
            clear bl gr12 o12 cx ux
            have hX : Z = 0 ∨ Z = 1 := by omega
            rcases hX with rfl | rfl
            · simp at cc
              have stp := SP 30000
              have osp := OP 30000 ⟨by decide, by decide⟩
              have FI := FIN stp osp (fun a ha => by injection ha with ha; subst ha; show w.heap.size < ga; omega) hk7 hm (by omega)
              have y0 := (stp).c20
              have y1 := (stp).c21
              have v0 := (stp).f2 0
              have v1 := (stp).f2 1
              have z0 := (stp).c30
              have z1 := (stp).c31
              go_wp2_with fail
              exact bodyPost_ret (v := .tuple #[.agg #[.slice An k cn, .slice Ap m cp], .slice (some ⟨ga, 0, none⟩) k co]) (by simp [results, Try.results63, go_sem, y0, y1]) rfl FI.out
            · simp at cc
              have stp := SP 30001
              have osp := OP 30001 ⟨by decide, by decide⟩
              have FI := FIN stp osp (fun a ha => by injection ha with ha; subst ha; show w.heap.size < ga; omega) hk7 hm (by omega)
              have y0 := (stp).c20
              have y1 := (stp).c21
              have v0 := (stp).f2 0
              have v1 := (stp).f2 1
              have z0 := (stp).c30
              have z1 := (stp).c31
              go_wp2_with fail
              exact bodyPost_ret (v := .tuple #[.agg #[.slice An k cn, .slice Ap m cp], .slice (some ⟨ga, 0, none⟩) k co]) (by simp [results, Try.results63, go_sem, y0, y1]) rfl FI.out
          · have o3 := os11.later (bel1 w11 (.cells #[.int .i64 0] 2))
            have gr3 := only_alloc grW (.cells #[.int .i64 0] 2)
            have HTL := Lib.hid (st11.src.alloc (.cells #[.int .i64 0] 2))
            go_wp2_with (at_builtin; refine law_append _ rfl _ _ rfl _ _ co _ rfl o3 _ _ 0 ⟨by decide, by decide⟩ rfl (cell_new1 _ _ _) (by omega) ?_; intro A3 c3 w3 ho3 hg3 hb3; have f3 := fresh_app fs (by have := gr3.size; exact this) hb3; have s3 : Src w3 g A n c bs := HTL.out.new hg3 fs (by omega) (fun hn a ha => by have := hA8.out hn a ha; omega); have st3 := STR.out.next (only_new gr3 hg3 (fun i hi => fresh_row fs i hi)) s3; have FI := FIN st3 ho3 (fun a ha => by have := f3 a ha; omega) hk7 hm (by omega); have y0 := st3.c20; have y1 := st3.c21; have v0 := st3.f2 0; have v1 := st3.f2 1; have z0 := st3.c30; have z1 := st3.c31)
            exact bodyPost_ret (v := .tuple #[.agg #[.slice An k cn, .slice Ap m cp], .slice A3 (k + 1) c3]) (by simp [results, Try.results63, go_sem, y0, y1]) rfl FI.out
          · have e1 : (y == 0) = false := by simp; omega
            have e2 : (y == 1) = false := by simp; omega
            have e3 : (y == 2) = false := by simp; omega
            have FI := FIN st11 os11 (fun a ha => by injection ha with ha; subst ha; show w.heap.size < ga; omega) hk7 hm (by omega)
            have y0 := (st11).c20
            have y1 := (st11).c21
            have v0 := (st11).f2 0
            have v1 := (st11).f2 1
            have z0 := (st11).c30
            have z1 := (st11).c31
            go_wp2_with fail
            exact bodyPost_ret (v := .tuple #[.agg #[.slice An k cn, .slice Ap m cp], .slice (some ⟨ga, 0, none⟩) k co]) (by simp [results, Try.results63, go_sem, y0, y1]) rfl FI.out

end Go.Proofs.Ytllblmndoigdlaa
