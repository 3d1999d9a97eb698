/- relaxing: the reference -/
import Derived.Test.YtllblmndoigdlaaGreatRe
import Derived.Test.YtllblmndoigdlaaGreatQ9
namespace Go.Proofs.YtllblmndoigdlaaGreat
open Go.RowKit

theorem stp_lt {net : Net} {z : Int} {s : Rst} {cs : List Int} (h : s.2 < 5000) : (lowB net s.1 cs z = true → stp net z s cs = (addL s.1 cs z, s.2 + 1)) ∧ (lowB net s.1 cs z = false → lowB net s.1 cs (-z) = true → stp net z s cs = (addL s.1 cs (-z), s.2 + 1)) ∧ (lowB net s.1 cs z = false → lowB net s.1 cs (-z) = false → stp net z s cs = s) := by
  unfold stp
  rw [if_pos h]
  refine ⟨fun h1 => by rw [h1]; rfl, fun h1 h2 => by rw [h1, h2]; rfl, fun h1 h2 => by rw [h1, h2]; rfl⟩

set_option maxRecDepth 100000 in
set_option maxHeartbeats 8000000 in
theorem l11Pass_any (A : Option Addr) (n c : Nat) (B : Option Addr) (m d : Nat) (net : Net) (Ab : Option Addr) (K cb B0 : Nat) (gs : List Nat) (L : List (List Int)) (C : Option Addr) (l e : Nat) (zs : List Int) (st t B1 : Nat) (z0 : List Int) (w : World) (h : NetAt w A n c B m d net) (hS : OwnS w Ab K cb m B0 gs L) (hz : Own w C l e zs) (hv : netB net = true) (hL : Bas net L) (hRI : RI net z0 (zs, t)) (hst : st ≤ 100000) (hC : Fresh B1 C) (hB1 : B1 ≤ w.heap.size) :
    Calls Tryz.prog 43 #[.agg #[.slice A n c, .slice B m d], .slice Ab K cb, .slice C l e, .int .i64 (st : Int), .int .i64 (5000 - (t : Int))] w fun e w' => ∃ A' c', e = .returned (.tuple #[.slice A' l c', .int .i64 (((pss net st (zs, t) L).2 : Int) - t)]) ∧ Own w' A' l c' (pss net st (zs, t) L).1 ∧ Fresh B1 A' ∧ Below w.heap.size w w' := by
  have HB := Lib.hid (bel1 w (.cells #[.slice A n c, .slice B m d] 27))
  have HLM : Hid (l = m ∧ m ≤ 40) := Lib.hid ⟨by have := flowB_len hRI.flow; have := h.pipes.len; have := hz.len; simp only at *; omega, by have := (netB_sizes hv).2.2; have := h.pipes.len; omega⟩
  have hKK := hS.cap
  have bx0 : BX (w.alloc (.cells #[.slice A n c, .slice B m d] 27)) w.heap.size A n c B m d := ⟨heap_alloc_new w _⟩
  obtain ⟨W, hW⟩ : ∃ W, W = w.alloc (.cells #[.slice A n c, .slice B m d] 27) := ⟨_, rfl⟩
  go_enter Tryz.func43, Tryz.ntmps43
  go_wp2_with fail
  rw [← hW] at bx0 HB ⊢
  clear hW
  have hzW := hz.later HB.out
  have oS := hS.later HB.out
  clear hz hS
  go_loopw [2, 12, 13] (fun f mv i wr => ∃ (j : Nat) (s : Rst) (A' : Option Addr) (c' : Nat), j ≤ K ∧ f = .slice A' l c' ∧ s = pssK net st (zs, t) L j ∧ mv = .int .i64 ((s.2 : Int) - t) ∧ i = .int .i64 j ∧ Own wr A' l c' s.1 ∧ Fresh B1 A' ∧ Below W.heap.size W wr) (fun _ _ i _ => K - (intOf i).toNat)
  case atStart => exact ⟨0, (zs, t), C, e, by omega, rfl, rfl, by show _ = Value.int IntKind.i64 ((t : Int) - t); congr 1; omega, rfl, hzW, hC, Below.refl _ _⟩
  case round =>
    obtain ⟨j, s, A', c', hj, rfl, hs, rfl, rfl, of, ff, hb⟩ := hrel
    clear hzW
    have hmo := pssK_mono net st (zs, t) L j
    have hli := pssK_lim (net := net) (z := st) (bas := L) (s := (zs, t)) hRI.le j
    have hri := hRI.pssK (z := st) hL j
    have hrle := hRI.le
    rw [← hs] at hmo hli hri
    simp only at hmo hrle
    have HS := Lib.hid hs
    clear hs
    have HFL := Lib.hid hri.flow
    by_cases hfull : s.2 < 5000
    · have hmv : ((s.2 : Int) - t) < 5000 - t := by omega
      by_cases hlt : j < K
      · have osr := oS.later hb
        obtain ⟨gb, rfl, hgb⟩ := osr.pos (by omega)
        obtain ⟨gc, cs, e1, e2, ocs, _, hgc⟩ := osr.at hlt
        have cgb := osr.cell e1
        have HCY := Lib.hid (hL.cyc cs (List.mem_of_getElem? e2))
        have HSC := Lib.hid (pssK_succ (net := net) (z := st) (s := (zs, t)) e2)
        have hst := stp_lt (net := net) (z := st) (s := s) (cs := cs) hfull
        have bxr := bx0.step hb
        have z0 := bxr.c0
        have z1 := bxr.c1
        have lt0 := bxr.lt
        have hki : (j : Int) < (K : Int) := by omega
        clear e1 e2 hri
        rcases h1 : lowB net s.1 cs st with _ | _
        · rcases h2 : lowB net s.1 cs (-st) with _ | _
          · have HS2 : Hid (s = pssK net st (zs, t) L (j + 1)) := Lib.hid (by rw [HSC.out, ← HS.out, hst.2.2 h1 h2])
            clear hst HSC
            go_wp2_with fail
            go_still_tail 7, (by kernel_rfl)
            change wpList _ _ _ _ _ wr.drew
            go_wp2_with fail
            refine (l10Lower_is _ _ _ _ _ _ net _ _ _ _ _ _ _ _ (st) _ _ (h.later (below_step HB.out hb.drew)) (of.later (Below.refl _ _).drew).ints (ocs.later (Below.refl _ _).drew).ints (by omega) hv HFL.out HCY.out h1).mono ?_
            rintro e w5 ⟨rfl, b5'⟩
            have b5 : Below wr.heap.size wr w5 := (Below.refl _ _).drew.trans b5'
            have hb5 := below_step hb b5
            have of5 := of.later b5
            have ocs5 := ocs.later b5
            have os5 := osr.later b5
            have cg5 := (b5.cell (p := ⟨gb, j, none⟩) hgb).trans cgb
            have y0 := (b5.cell (p := ⟨w.heap.size, 0, none⟩) lt0).trans z0
            have y1 := (b5.cell (p := ⟨w.heap.size, 1, none⟩) lt0).trans z1
            clear b5'
            clear z0 z1 cgb
            go_wp2_with fail
            go_still_tail 8, (by kernel_rfl)
            change wpList _ _ _ _ _ w5.drew
            go_wp2_with fail
            refine (l10Lower_is _ _ _ _ _ _ net _ _ _ _ _ _ _ _ (-st) _ _ (h.later (below_step HB.out hb5.drew)) (of5.later (Below.refl _ _).drew).ints (ocs5.later (Below.refl _ _).drew).ints (by omega) hv HFL.out HCY.out h2).mono ?_
            rintro e w6 ⟨rfl, b6'⟩
            have b6 : Below w5.heap.size w5 w6 := (Below.refl _ _).drew.trans b6'
            have hb6 := below_step hb5 b6
            have of6 := of5.later b6
            have ocs6 := ocs5.later b6
            have cg6 := (b6.cell (p := ⟨gb, j, none⟩) (Nat.lt_of_lt_of_le hgb b5.size)).trans cg5
            clear b6'
            clear y0 y1 cg5 cg6
            go_wp2_with fail
            go_roundw
            case rel => exact ⟨j + 1, s, A', c', by omega, rfl, HS2.out, rfl, by go_num, of6, ff, hb6⟩
            case measure => simp [intOf]; omega
          · have HS2 : Hid ((addL s.1 cs (-st), s.2 + 1) = pssK net st (zs, t) L (j + 1)) := Lib.hid (by rw [HSC.out, ← HS.out, hst.2.1 h1 h2])
            have HMV : Hid ((((s.2 + 1 : Nat) : Int) - t) = ((s.2 : Int) - t) + 1) := Lib.hid (by omega)
            clear hst HSC
            go_wp2_with fail
            go_still_tail 7, (by kernel_rfl)
            change wpList _ _ _ _ _ wr.drew
            go_wp2_with fail
            refine (l10Lower_is _ _ _ _ _ _ net _ _ _ _ _ _ _ _ (st) _ _ (h.later (below_step HB.out hb.drew)) (of.later (Below.refl _ _).drew).ints (ocs.later (Below.refl _ _).drew).ints (by omega) hv HFL.out HCY.out h1).mono ?_
            rintro e w5 ⟨rfl, b5'⟩
            have b5 : Below wr.heap.size wr w5 := (Below.refl _ _).drew.trans b5'
            have hb5 := below_step hb b5
            have of5 := of.later b5
            have ocs5 := ocs.later b5
            have os5 := osr.later b5
            have cg5 := (b5.cell (p := ⟨gb, j, none⟩) hgb).trans cgb
            have y0 := (b5.cell (p := ⟨w.heap.size, 0, none⟩) lt0).trans z0
            have y1 := (b5.cell (p := ⟨w.heap.size, 1, none⟩) lt0).trans z1
            clear b5'
            clear z0 z1 cgb
            go_wp2_with fail
            go_still_tail 8, (by kernel_rfl)
            change wpList _ _ _ _ _ w5.drew
            go_wp2_with fail
            refine (l10Lower_is _ _ _ _ _ _ net _ _ _ _ _ _ _ _ (-st) _ _ (h.later (below_step HB.out hb5.drew)) (of5.later (Below.refl _ _).drew).ints (ocs5.later (Below.refl _ _).drew).ints (by omega) hv HFL.out HCY.out h2).mono ?_
            rintro e w6 ⟨rfl, b6'⟩
            have b6 : Below w5.heap.size w5 w6 := (Below.refl _ _).drew.trans b6'
            have hb6 := below_step hb5 b6
            have of6 := of5.later b6
            have ocs6 := ocs5.later b6
            have cg6 := (b6.cell (p := ⟨gb, j, none⟩) (Nat.lt_of_lt_of_le hgb b5.size)).trans cg5
            clear b6'
            clear y0 y1 cg5
            go_wp2_with fail
            refine (l05Add_any _ _ _ _ _ _ _ _ (-st) _ of6.ints ocs6.ints (by have := HLM.out; omega) (by have := HLM.out; omega) (fun i => by have := flowB_all HFL.out i; omega) (fun i => by have := HCY.out.bnd i; omega) (by omega)).mono ?_
            rintro e w7 ⟨A7, c7, rfl, o7, f7, b7⟩
            have hb7 := below_step hb6 b7
            have f7' : Fresh B1 A7 := fresh_up f7 (by have := hb6.size; have := HB.out.size; omega)
            go_wp2_with fail
            go_roundw
            case rel => exact ⟨j + 1, _, A7, c7, by omega, rfl, HS2.out, by rw [HMV.out], by go_num, o7, f7', hb7⟩
            case measure => simp [intOf]; omega
        · have HS2 : Hid ((addL s.1 cs st, s.2 + 1) = pssK net st (zs, t) L (j + 1)) := Lib.hid (by rw [HSC.out, ← HS.out, hst.1 h1])
          have HMV : Hid ((((s.2 + 1 : Nat) : Int) - t) = ((s.2 : Int) - t) + 1) := Lib.hid (by omega)
          clear hst HSC
          go_wp2_with fail
          go_still_tail 7, (by kernel_rfl)
          change wpList _ _ _ _ _ wr.drew
          go_wp2_with fail
          refine (l10Lower_is _ _ _ _ _ _ net _ _ _ _ _ _ _ _ (st) _ _ (h.later (below_step HB.out hb.drew)) (of.later (Below.refl _ _).drew).ints (ocs.later (Below.refl _ _).drew).ints (by omega) hv HFL.out HCY.out h1).mono ?_
          rintro e w5 ⟨rfl, b5'⟩
          have b5 : Below wr.heap.size wr w5 := (Below.refl _ _).drew.trans b5'
          have hb5 := below_step hb b5
          have of5 := of.later b5
          have ocs5 := ocs.later b5
          have os5 := osr.later b5
          have cg5 := (b5.cell (p := ⟨gb, j, none⟩) hgb).trans cgb
          have y0 := (b5.cell (p := ⟨w.heap.size, 0, none⟩) lt0).trans z0
          have y1 := (b5.cell (p := ⟨w.heap.size, 1, none⟩) lt0).trans z1
          clear b5'
          clear z0 z1 cgb y0 y1
          go_wp2_with fail
          refine (l05Add_any _ _ _ _ _ _ _ _ (st) _ of5.ints ocs5.ints (by have := HLM.out; omega) (by have := HLM.out; omega) (fun i => by have := flowB_all HFL.out i; omega) (fun i => by have := HCY.out.bnd i; omega) (by omega)).mono ?_
          rintro e w7 ⟨A7, c7, rfl, o7, f7, b7⟩
          have hb7 := below_step hb5 b7
          have f7' : Fresh B1 A7 := fresh_up f7 (by have := hb5.size; have := HB.out.size; omega)
          go_wp2_with fail
          go_roundw
          case rel => exact ⟨j + 1, _, A7, c7, by omega, rfl, HS2.out, by rw [HMV.out], by go_num, o7, f7', hb7⟩
          case measure => simp [intOf]; omega
      · have hki : ¬ (j : Int) < (K : Int) := by omega
        have HE : Hid (pss net st (zs, t) L = s) := Lib.hid (by rw [HS.out, pssK_end (by have := oS.len; omega)])
        clear hri
        go_wp2_with fail
        go_ret2
        rw [HE.out]
        exact ⟨A', c', rfl, of, ff, below_step HB.out hb⟩
    · have HE : Hid (pss net st (zs, t) L = s) := Lib.hid (by rw [HS.out]; exact pssK_full (by rw [← HS.out]; omega))
      have hmv : ¬ ((s.2 : Int) - t) < 5000 - t := by omega
      clear hri
      by_cases hlt : j < K
      · have hki : (j : Int) < (K : Int) := by omega
        go_wp2_with fail
        go_ret2
        rw [HE.out]
        exact ⟨A', c', rfl, of, ff, below_step HB.out hb⟩
      · have hki : ¬ (j : Int) < (K : Int) := by omega
        go_wp2_with fail
        go_ret2
        rw [HE.out]
        exact ⟨A', c', rfl, of, ff, below_step HB.out hb⟩

end Go.Proofs.YtllblmndoigdlaaGreat
