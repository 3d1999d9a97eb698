/- relaxing: the program -/
import Derived.Test.YtllblmndoigdlaaRj
import Derived.Test.YtllblmndoigdlaaRh
import Derived.Test.YtllblmndoigdlaaRf
namespace Go.Proofs.Ytllblmndoigdlaa
open Go.RowKit

theorem step_bits {x : Int} (h1 : 1 ≤ x) (h2 : x ≤ 32768) : bits .and .i64 x (x - 1) = 0 ↔ stepB x = true := by
  obtain ⟨n, rfl⟩ := Int.eq_ofNat_of_zero_le (a := x) (by omega)
  have e : bits .and .i64 (n : Int) ((n : Int) - 1) = ((n &&& (n - 1) : Nat) : Int) := by
    have e1 : ((n : Int) - 1) = ((n - 1 : Nat) : Int) := by omega
    rw [e1]
    have hle : n &&& (n - 1) ≤ n := Nat.and_le_left
    have hm1 : n % 2 ^ 64 = n := Nat.mod_eq_of_lt (by omega)
    have hm2 : (n - 1) % 2 ^ 64 = n - 1 := Nat.mod_eq_of_lt (by omega)
    have e2 : (BitVec.ofInt IntKind.i64.bits (n : Int) &&& BitVec.ofInt IntKind.i64.bits ((n - 1 : Nat) : Int)).toNat = n &&& (n - 1) := by
      rw [BitVec.toNat_and, BitVec.ofInt_natCast, BitVec.ofInt_natCast, BitVec.toNat_ofNat, BitVec.toNat_ofNat]
      show (n % 2 ^ 64) &&& ((n - 1) % 2 ^ 64) = _
      rw [hm1, hm2]
    show IntKind.i64.wrap ((BitVec.ofInt IntKind.i64.bits (n : Int) &&& BitVec.ofInt IntKind.i64.bits ((n - 1 : Nat) : Int)).toNat : Int) = _
    rw [e2]
    exact wrap_id ⟨by omega, by omega⟩
  rw [e]
  unfold stepB
  rw [Int.toNat_natCast]
  simp
  omega
theorem step_bits2 {x : Int} (h1 : 1 ≤ x) (h2 : x ≤ 32768) : (stepB x = true → (bits .and .i64 x (x - 1) != 0) = false ∧ (bits .and .i64 x (wrap64 (x - 1)) != 0) = false) ∧ (stepB x = false → (bits .and .i64 x (x - 1) != 0) = true ∧ (bits .and .i64 x (wrap64 (x - 1)) != 0) = true) := by
  have e : wrap64 (x - 1) = x - 1 := w64_id ⟨by omega, by omega⟩
  rw [e]
  have := step_bits h1 h2
  refine ⟨fun h => ?_, fun h => ?_⟩
  · have := this.2 h; simp [this]
  · have : ¬ bits .and .i64 x (x - 1) = 0 := fun h' => by rw [this.1 h'] at h; cases h
    simp [this]
theorem OwnS.offR {w w' : World} {A : Option Addr} {n c m B : Nat} {gs : List Nat} {L : List (List Int)} {row : Option Nat} (h : OwnS w A n c m B gs L) (hg : w.grownBy w' row) (h1 : ∀ r, row = some r → r < B) (h2 : Fresh B A) : OwnS w' A n c m B gs L :=
  h.keep fun b hb' => by
    rcases hb' with h3 | ⟨a, ha, rfl⟩
    · exact hg.block _ (h.glt b h3) (fun e => by have := h1 b (by first | exact e | exact e.symm); have := h.lo b h3; omega)
    · exact hg.block _ (h.lt a ha) (fun e => by have := h1 a.block (by first | exact e | exact e.symm); have := h2 a ha; omega)
theorem BX.offR {w w' : World} {g : Nat} {A : Option Addr} {n c : Nat} {B : Option Addr} {m d : Nat} {row : Option Nat} (h : BX w g A n c B m d) (hg : w.grownBy w' row) (h1 : ∀ r, row = some r → r ≠ g) : BX w' g A n c B m d :=
  ⟨(hg.block _ h.lt (fun e => h1 g (by first | exact e | exact e.symm) rfl)).trans h.box⟩
theorem stp_full {net : Net} {z : Int} {s : Rst} {cs : List Int} (h : 5000 ≤ s.2) : stp net z s cs = s := by unfold stp; rw [if_neg (by omega)]

theorem grown_trans' {w0 w1 w2 : World} {row : Option Nat} (h1 : w0.grownBy w1 row) (h2 : w1.grownBy w2 row) : w0.grownBy w2 row := h1.trans h2
set_option maxRecDepth 100000 in
set_option maxHeartbeats 16000000 in
theorem relax_any (A : Option Addr) (n c : Nat) (B : Option Addr) (m d : Nat) (net : Net) (C : Option Addr) (l e : Nat) (zs : List Int) (st : Nat) (w : World) (h : NetAt w A n c B m d net) (hz : Ints w C l e zs) (hv : netB net = true) (hf : flowB net zs = true) (hst : st ≤ 100000) :
    Calls Try.prog 91 #[.agg #[.slice A n c, .slice B m d], .slice C l e, .int .i64 (st : Int)] w fun e w' => ∃ A' c', e = .returned (.tuple #[.slice A' l c', .int .i64 ((rlx net (basL net) st (zs, 0)).2 : Int)]) ∧ Own w' A' l c' (rlx net (basL net) st (zs, 0)).1 ∧ Fresh w.heap.size A' ∧ Below w.heap.size w w' := by
  have HB := Lib.hid (bel1 w (.cells #[.slice A n c, .slice B m d] 27))
  have ok := NetOK.of hv
  have HBB := Lib.hid (basL_bas ok)
  have HM40 : m ≤ 40 := by have := ok.m40; have := h.pipes.len; omega
  have hlm : l = m := by have := flowB_len hf; have := h.pipes.len; have := hz.len; omega
  have hKm := chords_le net
  have hl40 : l ≤ 40 := by omega
  have hpl := h.pipes.len
  have HLM := Lib.hid hlm
  have HKL : Hid ((netG net).chords.length ≤ l) := Lib.hid (by omega)
  clear hlm hKm hpl
  have bxW : BX (w.alloc (.cells #[.slice A n c, .slice B m d] 27)) w.heap.size A n c B m d := ⟨heap_alloc_new w _⟩
  go_enter Try.func91, Try.ntmps91
  go_wp2_with fail
  refine (slicesClone_any _ _ _ zs _ (hz.later HB.out) (by omega)).mono ?_
  rintro e w1 ⟨A8, c8, rfl, o8, f8, b1⟩
  have t1 := below_step HB.out b1
  have bx1 := bxW.step b1
  have k0 := bx1.c0
  have k1 := bx1.c1
  go_wp2_with fail
  refine (chordsOf_any _ _ _ _ _ _ net _ (h.later t1) ok).mono ?_
  rintro e w2 ⟨Ac, cc, rfl, oc, fc, b2⟩
  obtain ⟨K, hK⟩ : ∃ K, (netG net).chords.length = K := ⟨_, rfl⟩
  rw [hK] at oc ⊢
  have HKK := Lib.hid hK
  have HKM : Hid (K ≤ l) := Lib.hid (by rw [← hK]; exact HKL.out)
  have bx2 := bx1.step b2
  have T2 := Lib.hid (below_step t1 b2)
  clear hK k0 k1 bx1 bxW
  go_wp2_with fail
  go_loopw [9, 26] (fun o i wr => ∃ (k : Nat) (gs : List Nat) (Ab : Option Addr) (cb : Nat), k ≤ K ∧ o = .slice Ab k cb ∧ i = .int .i64 k ∧ OwnS wr Ab k cb m w2.heap.size gs ((basL net).take k) ∧ Fresh w2.heap.size Ab ∧ Below w2.heap.size w2 wr) (fun _ i _ => K - (intOf i).toNat)
  case atStart => exact ⟨0, [], none, 0, by omega, rfl, rfl, OwnS.nil _, (fun a ha => by cases ha), Below.refl _ _⟩
  case round =>
    obtain ⟨k, gs, Ab, cb, hk, rfl, rfl, ob, fb, hb⟩ := hrel
    by_cases hlt : k < K
    · have hlt' : k < (netG net).chords.length := by rw [HKK.out]; exact hlt
      obtain ⟨q, hq⟩ : ∃ q, (netG net).chords[k]? = some q := ⟨_, List.getElem?_eq_getElem hlt'⟩
      have HQ := Lib.hid (chord_mem hq)
      have HT := Lib.hid (basL_take hq)
      have oc1 := oc.later hb
      obtain ⟨ga, rfl, hga⟩ := oc1.pos (by omega)
      have c1 := oc1.cell hlt
      rw [nl_ig hlt', (List.getElem?_eq_some_iff.1 hq).2] at c1
      clear hq oc1
      have bxr := bx2.step hb
      have z0 := bxr.c0
      have z1 := bxr.c1
      have hki : (k : Int) < (K : Int) := by omega
      have hltA := ob.lt
      have hKl := HKM.out
      go_wp2_with fail
      refine (cycleOf_any _ _ _ _ _ _ net q _ (h.later (below_step T2.out hb)) ok HQ.out).mono ?_
      rintro e w5 ⟨Ay, rfl, oy, fy, b5⟩
      obtain ⟨gy, rfl, hgy⟩ := oy.pos (by have := HLM.out; omega)
      have hfy := fy _ rfl
      simp only at hfy
      have ob5 := ob.later b5
      have hbs := hb.size
      clear z0 z1 c1
      go_wp2_with (at_builtin; refine law_appendS _ rfl _ _ rfl Ab k cb _ rfl (ob5.later (bel1 _ _)).row _ _ m gy rfl (cell_new1 _ _ _) (by omega) ?_; intro A3 c3 w3 hr3 hg3 hb3)
      have t6 := below_step (below_step hb b5) (bel1 w5 (.cells #[rowV m gy] 28))
      have ob6 := ob5.later (bel1 w5 (.cells #[rowV m gy] 28))
      have oy6 := oy.later (bel1 w5 (.cells #[rowV m gy] 28))
      have hAy : ∀ a, Ab = some a → a.block ≠ gy := fun a ha => by have := hltA a ha; omega
      have o3 := ob6.push oy6 (by omega) hAy hr3 hg3 hb3
      rw [← HT.out] at o3
      have f3 := fresh_app' fb t6.size hb3
      have b3 := below_app t6 fb hg3
      clear ob ob5 ob6 oy oy6 hr3 hg3 hb3 t6
      go_roundw
      case rel => exact ⟨k + 1, gs ++ [gy], A3, c3, by omega, rfl, by go_num, o3, f3, b3⟩
      case measure => simp [intOf]; omega
    · have hkK : K = k := by omega
      have HE0 : Hid ((basL net).take k = basL net) := Lib.hid (by rw [List.take_of_length_le]; rw [basL_len, HKK.out, hkK]; exact Nat.le_refl _)
      rw [HE0.out] at ob
      subst hkK
      have hki : ¬ (K : Int) < (K : Int) := by omega
      clear hlt
      have T3 := Lib.hid (below_step T2.out hb)
      have bx3 := Lib.hid (bx2.step hb)
      have o83 := o8.later (below_step b2 hb)
      have OB := Lib.hid ob
      have FB := Lib.hid fb
      have HKb : K ≤ 9223372036854775807 := ob.cap
      have HROWA : Hid (∀ r, A8.map (·.block) = some r → w.heap.size < r ∧ r < w2.heap.size) := Lib.hid (fun r hr => by
        cases hA8 : A8 with
        | none => rw [hA8] at hr; cases hr
        | some a =>
          rw [hA8] at hr
          injection hr with hr
          have hr : a.block = r := hr
          have h1 := f8 a hA8
          have h2 := o8.lt a hA8
          have h3 := b2.size
          simp at h1
          omega)
      have F8 : Hid (Fresh w.heap.size A8) := Lib.hid (fresh_up f8 (by simp))
      have HSZ3 : Hid (w2.heap.size ≤ wr.heap.size) := Lib.hid hb.size
      clear ob fb hb b2 bx2 oc f8 o8
      obtain ⟨w3, hw3⟩ : ∃ w3, w3 = wr := ⟨_, rfl⟩
      subst hw3
      go_wp2_with fail
      go_loopw [2, 12] (fun sv mv wx => ∃ (st' : Nat) (s : Rst), sv = .int .i64 (st' : Int) ∧ mv = .int .i64 (s.2 : Int) ∧ st' ≤ 100000 ∧ Hid (rlx net (basL net) st' s = rlx net (basL net) st (zs, 0)) ∧ Hid (RI net zs s) ∧ Own wx A8 l c8 s.1 ∧ w3.grownBy wx (A8.map (·.block)) ∧ Below w.heap.size w wx) (fun sv _ _ => (intOf sv).toNat)
      case atStart => exact ⟨st, (zs, 0), rfl, rfl, hst, Lib.hid rfl, Lib.hid (RI.start hf), o83, World.grownBy.refl _ _, T3.out⟩
      case round =>
        obtain ⟨st', s, rfl, rfl, hst', hE, hI, ow, hg, hb⟩ := hrel
        clear o83
        by_cases h0 : st' = 0
        · have HE2 : Hid (rlx net (basL net) st (zs, 0) = s) := Lib.hid (by rw [← hE.out]; exact rlx_stop (.inl h0))
          have hi : ¬ (0 : Int) < (st' : Int) := by omega
          clear hE h0
          go_wp2_with fail
          go_ret2
          rw [HE2.out]
          exact ⟨A8, c8, rfl, ow, F8.out, hb⟩
        · have hi : (0 : Int) < (st' : Int) := by omega
          have hst1 : 0 < st' := by omega
          have hst0 : Hid (0 < st') := Lib.hid (by omega)
          clear h0
          go_wp2_with fail
          go_loopw [12, 13] (fun mv bv wx => ∃ (s : Rst) (b : Bool), mv = .int .i64 (s.2 : Int) ∧ bv = .bool b ∧ Hid (b = false → (pss net st' s (basL net)).2 = s.2) ∧ Hid (rlx net (basL net) st' s = rlx net (basL net) st (zs, 0)) ∧ Hid (RI net zs s) ∧ Own wx A8 l c8 s.1 ∧ w3.grownBy wx (A8.map (·.block)) ∧ Below w.heap.size w wx) (fun mv bv _ => 2 * (5000 - (intOf mv).toNat) + (match bv with | .bool true => 1 | _ => 0))
          case atStart => exact ⟨s, true, rfl, rfl, Lib.hid (fun h => by cases h), hE, hI, ow, hg, hb⟩
          case round =>
            clear hE hI ow hg hb
            obtain ⟨s, b, rfl, rfl, hP, hE, hI, ow, hg, hb⟩ := hrel
            rcases b with _ | _
            · have HE2 : Hid (rlx net (basL net) (st' / 2) s = rlx net (basL net) st (zs, 0)) := Lib.hid (by rw [← rlx_same (hP.out rfl)]; exact hE.out)
              clear hE hP
              go_wp2_with fail
              go_roundw
              case rel => exact ⟨st' / 2, s, by go_num, rfl, by omega, HE2, hI, ow, hg, hb⟩
              case measure => simp [intOf]; omega
            · go_wp2_with fail
              go_loopw [12, 13, 44] (fun mv bv iv wx => ∃ (j : Nat) (s1 : Rst) (b1 : Bool), j ≤ K ∧ mv = .int .i64 (s1.2 : Int) ∧ bv = .bool b1 ∧ iv = .int .i64 j ∧ Hid (b1 = true ↔ s1.2 ≠ s.2) ∧ Hid (s1 = pssK net st' s (basL net) j) ∧ Own wx A8 l c8 s1.1 ∧ w3.grownBy wx (A8.map (·.block)) ∧ Below w.heap.size w wx) (fun _ _ iv _ => K - (intOf iv).toNat)
              case atStart => exact ⟨0, s, false, by omega, rfl, rfl, rfl, Lib.hid (by simp), Lib.hid rfl, ow, hg, hb⟩
              case round =>
                clear ow hg hb
                obtain ⟨j, s1, b1, hj, rfl, rfl, rfl, hB, hS, ow4, hg4, hb4⟩ := hrel
                have HR1 : Hid (RI net zs s1) := Lib.hid (by rw [hS.out]; exact hI.out.pssK HBB.out j)
                have hle1 := HR1.out.le
                have HMO : Hid (s.2 ≤ s1.2) := Lib.hid (by rw [hS.out]; exact pssK_mono net st' s (basL net) j)
                by_cases hlt : j < K
                · have hm0 : 0 < l := by have := HKM.out; omega
                  obtain ⟨g8, rfl, hg8⟩ := ow4.pos hm0
                  have osr := OB.out.offR hg4 (fun r hr => (HROWA.out r hr).2) FB.out
                  have HROW : Hid (w.heap.size < g8 ∧ g8 < w2.heap.size) := Lib.hid (HROWA.out g8 rfl)
                  obtain ⟨gb, hgbe, hgb⟩ := osr.pos (by omega)
                  subst hgbe
                  obtain ⟨gc, cs, e1, e2, ocs4, hgcl, hgc⟩ := osr.at hlt
                  have HGC := Lib.hid hgcl
                  have cgb := osr.cell e1
                  have HCY := Lib.hid (HBB.out.cyc cs (List.mem_of_getElem? e2))
                  have HSC := Lib.hid (pssK_succ (net := net) (z := st') (s := s) e2)
                  have HLEN : Hid (s1.1.length = m) := Lib.hid (by have := flowB_len HR1.out.flow; have := h.pipes.len; omega)
                  have bx4 := bx3.out.offR hg4 (fun r hr e => by have := (HROWA.out r hr).1; omega)
                  have z0 := bx4.c0
                  have z1 := bx4.c1
                  have hki : (j : Int) < (K : Int) := by omega
                  clear osr e1 e2 hgcl
                  rcases h1 : lowB net s1.1 cs (st' : Int) with _ | _
                  · obtain ⟨vp, bp, hXp, hvbp⟩ := (chgR_low (net := net) (zs := s1.1) (cs := cs) (a := (st' : Int))).2 h1
                    have HXp := Lib.hid hXp
                    have HVBp := Lib.hid hvbp
                    clear hXp hvbp
                    go_wp2_with fail
                    refine (energyChange_any _ _ _ _ _ _ net _ _ _ s1.1 _ _ _ _ ((st' : Int)) _ (h.later hb4) ow4.ints ocs4.ints hv HR1.out.flow HCY.out ⟨by omega, by omega⟩).mono ?_
                    rintro e w5 ⟨rfl, b5⟩
                    have hb5 := below_step hb4 b5
                    have ow5 := ow4.later b5
                    have ocs5 := ocs4.later b5
                    have hg5 := grown_below hg4 b5
                    have bx5 := bx4.step b5
                    clear z0 z1
                    have z0 := bx5.c0
                    have z1 := bx5.c1
                    rw [HXp.out]
                    rcases bp with _ | _
                    · go_wp2_with fail
                      rcases h2 : lowB net s1.1 cs (-(st' : Int)) with _ | _
                      · obtain ⟨vq, bq, hXq, hvbq⟩ := (chgR_low (net := net) (zs := s1.1) (cs := cs) (a := -(st' : Int))).2 h2
                        have HXq := Lib.hid hXq
                        have HVBq := Lib.hid hvbq
                        clear hXq hvbq
                        refine (energyChange_any _ _ _ _ _ _ net _ _ _ s1.1 _ _ _ _ (-(st' : Int)) _ (h.later hb5) ow5.ints ocs5.ints hv HR1.out.flow HCY.out ⟨by omega, by omega⟩).mono ?_
                        rintro e w6 ⟨rfl, b6⟩
                        have hb6 := below_step hb5 b6
                        have ow6 := ow5.later b6
                        have ocs6 := ocs5.later b6
                        have hg6 := grown_below hg5 b6
                        have bx6 := bx5.step b6
                        clear z0 z1
                        have z0 := bx6.c0
                        have z1 := bx6.c1
                        rw [HXq.out]
                        rcases bq with _ | _
                        · clear z0 z1 cgb
                          have HS2 : Hid (s1 = pssK net st' s (basL net) (j + 1)) := Lib.hid (by
                            rw [HSC.out, ← hS.out]
                            rcases Nat.lt_or_ge s1.2 5000 with hf5 | hf5
                            · exact ((stp_lt (net := net) (z := st') (s := s1) (cs := cs) hf5).2.2 h1 h2).symm
                            · exact (stp_full hf5).symm)
                          clear hE hP
                          go_wp2_with fail
                          go_roundw
                          case rel => exact ⟨j + 1, s1, b1, by omega, rfl, rfl, by go_num, hB, HS2, ow6, hg6, hb6⟩
                          case measure => simp [intOf]; omega
                        · have hv0q := HVBq.out rfl
                          have hvlq : ¬ vq < 0 := by omega
                          clear z0 z1 cgb
                          have HS2 : Hid (s1 = pssK net st' s (basL net) (j + 1)) := Lib.hid (by
                            rw [HSC.out, ← hS.out]
                            rcases Nat.lt_or_ge s1.2 5000 with hf5 | hf5
                            · exact ((stp_lt (net := net) (z := st') (s := s1) (cs := cs) hf5).2.2 h1 h2).symm
                            · exact (stp_full hf5).symm)
                          clear hE hP
                          go_wp2_with fail
                          go_roundw
                          case rel => exact ⟨j + 1, s1, b1, by omega, rfl, rfl, by go_num, hB, HS2, ow6, hg6, hb6⟩
                          case measure => simp [intOf]; omega
                      · obtain ⟨vq, hvlq, hXq⟩ := (chgR_low (net := net) (zs := s1.1) (cs := cs) (a := -(st' : Int))).1 h2
                        have HXq := Lib.hid hXq
                        have hvgq : ¬ 0 ≤ vq := by omega
                        clear hXq
                        have HST := Lib.hid (fun h5 => (by rw [HSC.out, ← hS.out, (stp_lt (net := net) (z := st') (s := s1) (cs := cs) h5).2.1 h1 h2] : (addL s1.1 cs (-(st' : Int)), s1.2 + 1) = pssK net st' s (basL net) (j + 1)))
                        refine (energyChange_any _ _ _ _ _ _ net _ _ _ s1.1 _ _ _ _ (-(st' : Int)) _ (h.later hb5) ow5.ints ocs5.ints hv HR1.out.flow HCY.out ⟨by omega, by omega⟩).mono ?_
                        rintro e w6 ⟨rfl, b6⟩
                        have hb6 := below_step hb5 b6
                        have ow6 := ow5.later b6
                        have ocs6 := ocs5.later b6
                        have hg6 := grown_below hg5 b6
                        have bx6 := bx5.step b6
                        clear z0 z1
                        have z0 := bx6.c0
                        have z1 := bx6.c1
                        rw [HXq.out]
                        clear z0 z1 cgb
                        by_cases hfull : s1.2 = 5000
                        · have HE2 : Hid (rlx net (basL net) st (zs, 0) = s1) := Lib.hid (by rw [← hE.out, rlx_full hst0.out (j := j) (by rw [← hS.out]; omega), ← hS.out])
                          have hq5 : (((s1.2 : Int) == 5000) = true) := by simp; omega
                          have hq5' : (s1.2 : Int) = 5000 := by omega
                          have HQ5 := Lib.hid hq5'
                          clear hE hS hP HST
                          go_wp2_with fail
                          go_ret2
                          rw [HE2.out]
                          exact ⟨some ⟨g8, 0, none⟩, c8, (by rw [HQ5.out]; rfl), ow6, (fun a ha => by injection ha with ha; subst ha; show w.heap.size ≤ g8; have := HROW.out; omega), hb6⟩
                        · have hq5 : (((s1.2 : Int) == 5000) = false) := by simp; omega
                          have hq5' : ¬ (s1.2 : Int) = 5000 := by omega
                          have HS2 := Lib.hid (HST.out (by omega))
                          have HBK : Hid (s1.2 + 1 ≠ s.2) := Lib.hid (by have := HMO.out; omega)
                          have owz : Own w6 (some ⟨g8, 0, none⟩) l c8 (fcM s1.1 cs (-(st' : Int)) 0) := by rw [fcM_zero]; exact ow6
                          have hgz := World.grownBy.refl w6 (some g8)
                          have hle5 : s1.2 < 5000 := by omega
                          have HG := Lib.hid hg6
                          have OC := Lib.hid ocs6
                          have HBW := Lib.hid hb6
                          have WSZ : Hid (∀ b, b = g8 → b ≠ gc) := Lib.hid (fun b hb => by have := HROW.out; have := HGC.out; omega)
                          clear hE HST hP
                          go_wp2_with fail
                          go_loopw [85] (fun iv wr => ∃ i : Nat, i ≤ m ∧ iv = .int .i64 i ∧ Own wr (some ⟨g8, 0, none⟩) l c8 (fcM s1.1 cs (-(st' : Int)) i) ∧ w6.grownBy wr (some g8) ∧ Below w.heap.size w wr) (fun iv _ => m - (intOf iv).toNat)
                          case atStart => exact ⟨0, by omega, rfl, owz, hgz, HBW.out⟩
                          case round =>
                            obtain ⟨i, hi, rfl, owr, hgr, hbr⟩ := hrel
                            clear owz hgz
                            by_cases him : i < m
                            · have hil : i < l := by have := HLM.out; omega
                              have hil' : (i : Int) < (l : Int) := by omega
                              have ocr := OC.out.off hgr (fun a ha => by injection ha with ha; subst ha; intro e; exact (WSZ.out g8 rfl) e.symm)
                              have cy := ocr.cell him
                              have cw := owr.cell (j := i) (by have := HLM.out; omega)
                              rw [fcM_at (by have := owr.len; have := HLEN.out; omega)] at cw
                              have uw := owr.unfrozen i
                              have hbd := flowB_all HR1.out.flow i
                              have hu := HCY.out.bnd i
                              have hp : -100000 ≤ (-(st' : Int)) * ig cs i ∧ (-(st' : Int)) * ig cs i ≤ 100000 := by
                                rcases HCY.out.u i with h | h | h <;> rw [h] <;> omega
                              have os := owr.store i (z := ig s1.1 i + (-(st' : Int)) * ig cs i) ⟨by omega, by omega⟩
                              rw [fcM_set] at os
                              have hb2 := hbr.setCell (p := ⟨g8, i, none⟩) (by show w.heap.size ≤ g8; have := HROW.out; omega) (.int .i64 (ig s1.1 i + (-(st' : Int)) * ig cs i))
                              have g1 := grown_put (j := i) hgr (.int .i64 (ig s1.1 i + (-(st' : Int)) * ig cs i))
                              have hcm : ig cs i * (-(st' : Int)) = (-(st' : Int)) * ig cs i := Int.mul_comm _ _
                              have OS := Lib.hid os
                              have HB2 := Lib.hid hb2
                              have G1 := Lib.hid g1
                              have HCM := Lib.hid hcm
                              have hp' := hp
                              rw [← HCM.out] at hp'
                              rw [← HCM.out] at OS HB2 G1
                              clear os hb2 g1 owr hgr hbr ocr hcm hp hfull
                              go_wp2_with fail
                              go_roundw
                              case rel => exact ⟨i + 1, by omega, by go_num, OS.out, G1.out, HB2.out⟩
                              case measure => simp [intOf]; omega
                            · have him' : ¬ (i : Int) < (m : Int) := by omega
                              rw [fcM_end (by have := HLEN.out; omega)] at owr
                              have hgw := grown_trans' HG.out hgr
                              have HRR := Lib.hid HS2.out
                              clear hfull
                              go_wp2_with fail
                              go_roundw
                              case rel => exact ⟨j + 1, (addL s1.1 cs (-(st' : Int)), s1.2 + 1), true, by omega, by go_num, rfl, by go_num, Lib.hid ⟨fun _ => HBK.out, fun _ => rfl⟩, HS2, owr, hgw, hbr⟩
                              case measure => simp [intOf]; omega
                    · have hv0p := HVBp.out rfl
                      have hvlp : ¬ vp < 0 := by omega
                      go_wp2_with fail
                      rcases h2 : lowB net s1.1 cs (-(st' : Int)) with _ | _
                      · obtain ⟨vq, bq, hXq, hvbq⟩ := (chgR_low (net := net) (zs := s1.1) (cs := cs) (a := -(st' : Int))).2 h2
                        have HXq := Lib.hid hXq
                        have HVBq := Lib.hid hvbq
                        clear hXq hvbq
                        refine (energyChange_any _ _ _ _ _ _ net _ _ _ s1.1 _ _ _ _ (-(st' : Int)) _ (h.later hb5) ow5.ints ocs5.ints hv HR1.out.flow HCY.out ⟨by omega, by omega⟩).mono ?_
                        rintro e w6 ⟨rfl, b6⟩
                        have hb6 := below_step hb5 b6
                        have ow6 := ow5.later b6
                        have ocs6 := ocs5.later b6
                        have hg6 := grown_below hg5 b6
                        have bx6 := bx5.step b6
                        clear z0 z1
                        have z0 := bx6.c0
                        have z1 := bx6.c1
                        rw [HXq.out]
                        rcases bq with _ | _
                        · clear z0 z1 cgb
                          have HS2 : Hid (s1 = pssK net st' s (basL net) (j + 1)) := Lib.hid (by
                            rw [HSC.out, ← hS.out]
                            rcases Nat.lt_or_ge s1.2 5000 with hf5 | hf5
                            · exact ((stp_lt (net := net) (z := st') (s := s1) (cs := cs) hf5).2.2 h1 h2).symm
                            · exact (stp_full hf5).symm)
                          clear hE hP
                          go_wp2_with fail
                          go_roundw
                          case rel => exact ⟨j + 1, s1, b1, by omega, rfl, rfl, by go_num, hB, HS2, ow6, hg6, hb6⟩
                          case measure => simp [intOf]; omega
                        · have hv0q := HVBq.out rfl
                          have hvlq : ¬ vq < 0 := by omega
                          clear z0 z1 cgb
                          have HS2 : Hid (s1 = pssK net st' s (basL net) (j + 1)) := Lib.hid (by
                            rw [HSC.out, ← hS.out]
                            rcases Nat.lt_or_ge s1.2 5000 with hf5 | hf5
                            · exact ((stp_lt (net := net) (z := st') (s := s1) (cs := cs) hf5).2.2 h1 h2).symm
                            · exact (stp_full hf5).symm)
                          clear hE hP
                          go_wp2_with fail
                          go_roundw
                          case rel => exact ⟨j + 1, s1, b1, by omega, rfl, rfl, by go_num, hB, HS2, ow6, hg6, hb6⟩
                          case measure => simp [intOf]; omega
                      · obtain ⟨vq, hvlq, hXq⟩ := (chgR_low (net := net) (zs := s1.1) (cs := cs) (a := -(st' : Int))).1 h2
                        have HXq := Lib.hid hXq
                        have hvgq : ¬ 0 ≤ vq := by omega
                        clear hXq
                        have HST := Lib.hid (fun h5 => (by rw [HSC.out, ← hS.out, (stp_lt (net := net) (z := st') (s := s1) (cs := cs) h5).2.1 h1 h2] : (addL s1.1 cs (-(st' : Int)), s1.2 + 1) = pssK net st' s (basL net) (j + 1)))
                        refine (energyChange_any _ _ _ _ _ _ net _ _ _ s1.1 _ _ _ _ (-(st' : Int)) _ (h.later hb5) ow5.ints ocs5.ints hv HR1.out.flow HCY.out ⟨by omega, by omega⟩).mono ?_
                        rintro e w6 ⟨rfl, b6⟩
                        have hb6 := below_step hb5 b6
                        have ow6 := ow5.later b6
                        have ocs6 := ocs5.later b6
                        have hg6 := grown_below hg5 b6
                        have bx6 := bx5.step b6
                        clear z0 z1
                        have z0 := bx6.c0
                        have z1 := bx6.c1
                        rw [HXq.out]
                        clear z0 z1 cgb
                        by_cases hfull : s1.2 = 5000
                        · have HE2 : Hid (rlx net (basL net) st (zs, 0) = s1) := Lib.hid (by rw [← hE.out, rlx_full hst0.out (j := j) (by rw [← hS.out]; omega), ← hS.out])
                          have hq5 : (((s1.2 : Int) == 5000) = true) := by simp; omega
                          have hq5' : (s1.2 : Int) = 5000 := by omega
                          have HQ5 := Lib.hid hq5'
                          clear hE hS hP HST
                          go_wp2_with fail
                          go_ret2
                          rw [HE2.out]
                          exact ⟨some ⟨g8, 0, none⟩, c8, (by rw [HQ5.out]; rfl), ow6, (fun a ha => by injection ha with ha; subst ha; show w.heap.size ≤ g8; have := HROW.out; omega), hb6⟩
                        · have hq5 : (((s1.2 : Int) == 5000) = false) := by simp; omega
                          have hq5' : ¬ (s1.2 : Int) = 5000 := by omega
                          have HS2 := Lib.hid (HST.out (by omega))
                          have HBK : Hid (s1.2 + 1 ≠ s.2) := Lib.hid (by have := HMO.out; omega)
                          have owz : Own w6 (some ⟨g8, 0, none⟩) l c8 (fcM s1.1 cs (-(st' : Int)) 0) := by rw [fcM_zero]; exact ow6
                          have hgz := World.grownBy.refl w6 (some g8)
                          have hle5 : s1.2 < 5000 := by omega
                          have HG := Lib.hid hg6
                          have OC := Lib.hid ocs6
                          have HBW := Lib.hid hb6
                          have WSZ : Hid (∀ b, b = g8 → b ≠ gc) := Lib.hid (fun b hb => by have := HROW.out; have := HGC.out; omega)
                          clear hE HST hP
                          go_wp2_with fail
                          go_loopw [85] (fun iv wr => ∃ i : Nat, i ≤ m ∧ iv = .int .i64 i ∧ Own wr (some ⟨g8, 0, none⟩) l c8 (fcM s1.1 cs (-(st' : Int)) i) ∧ w6.grownBy wr (some g8) ∧ Below w.heap.size w wr) (fun iv _ => m - (intOf iv).toNat)
                          case atStart => exact ⟨0, by omega, rfl, owz, hgz, HBW.out⟩
                          case round =>
                            obtain ⟨i, hi, rfl, owr, hgr, hbr⟩ := hrel
                            clear owz hgz
                            by_cases him : i < m
                            · have hil : i < l := by have := HLM.out; omega
                              have hil' : (i : Int) < (l : Int) := by omega
                              have ocr := OC.out.off hgr (fun a ha => by injection ha with ha; subst ha; intro e; exact (WSZ.out g8 rfl) e.symm)
                              have cy := ocr.cell him
                              have cw := owr.cell (j := i) (by have := HLM.out; omega)
                              rw [fcM_at (by have := owr.len; have := HLEN.out; omega)] at cw
                              have uw := owr.unfrozen i
                              have hbd := flowB_all HR1.out.flow i
                              have hu := HCY.out.bnd i
                              have hp : -100000 ≤ (-(st' : Int)) * ig cs i ∧ (-(st' : Int)) * ig cs i ≤ 100000 := by
                                rcases HCY.out.u i with h | h | h <;> rw [h] <;> omega
                              have os := owr.store i (z := ig s1.1 i + (-(st' : Int)) * ig cs i) ⟨by omega, by omega⟩
                              rw [fcM_set] at os
                              have hb2 := hbr.setCell (p := ⟨g8, i, none⟩) (by show w.heap.size ≤ g8; have := HROW.out; omega) (.int .i64 (ig s1.1 i + (-(st' : Int)) * ig cs i))
                              have g1 := grown_put (j := i) hgr (.int .i64 (ig s1.1 i + (-(st' : Int)) * ig cs i))
                              have hcm : ig cs i * (-(st' : Int)) = (-(st' : Int)) * ig cs i := Int.mul_comm _ _
                              have OS := Lib.hid os
                              have HB2 := Lib.hid hb2
                              have G1 := Lib.hid g1
                              have HCM := Lib.hid hcm
                              have hp' := hp
                              rw [← HCM.out] at hp'
                              rw [← HCM.out] at OS HB2 G1
                              clear os hb2 g1 owr hgr hbr ocr hcm hp hfull
                              go_wp2_with fail
                              go_roundw
                              case rel => exact ⟨i + 1, by omega, by go_num, OS.out, G1.out, HB2.out⟩
                              case measure => simp [intOf]; omega
                            · have him' : ¬ (i : Int) < (m : Int) := by omega
                              rw [fcM_end (by have := HLEN.out; omega)] at owr
                              have hgw := grown_trans' HG.out hgr
                              have HRR := Lib.hid HS2.out
                              clear hfull
                              go_wp2_with fail
                              go_roundw
                              case rel => exact ⟨j + 1, (addL s1.1 cs (-(st' : Int)), s1.2 + 1), true, by omega, by go_num, rfl, by go_num, Lib.hid ⟨fun _ => HBK.out, fun _ => rfl⟩, HS2, owr, hgw, hbr⟩
                              case measure => simp [intOf]; omega
                  · obtain ⟨vp, hvlp, hXp⟩ := (chgR_low (net := net) (zs := s1.1) (cs := cs) (a := (st' : Int))).1 h1
                    have HXp := Lib.hid hXp
                    have hvgp : ¬ 0 ≤ vp := by omega
                    clear hXp
                    have HST := Lib.hid (fun h5 => (by rw [HSC.out, ← hS.out, (stp_lt (net := net) (z := st') (s := s1) (cs := cs) h5).1 h1] : (addL s1.1 cs ((st' : Int)), s1.2 + 1) = pssK net st' s (basL net) (j + 1)))
                    go_wp2_with fail
                    refine (energyChange_any _ _ _ _ _ _ net _ _ _ s1.1 _ _ _ _ ((st' : Int)) _ (h.later hb4) ow4.ints ocs4.ints hv HR1.out.flow HCY.out ⟨by omega, by omega⟩).mono ?_
                    rintro e w5 ⟨rfl, b5⟩
                    have hb5 := below_step hb4 b5
                    have ow5 := ow4.later b5
                    have ocs5 := ocs4.later b5
                    have hg5 := grown_below hg4 b5
                    have bx5 := bx4.step b5
                    clear z0 z1
                    have z0 := bx5.c0
                    have z1 := bx5.c1
                    rw [HXp.out]
                    clear z0 z1 cgb
                    by_cases hfull : s1.2 = 5000
                    · have HE2 : Hid (rlx net (basL net) st (zs, 0) = s1) := Lib.hid (by rw [← hE.out, rlx_full hst0.out (j := j) (by rw [← hS.out]; omega), ← hS.out])
                      have hq5 : (((s1.2 : Int) == 5000) = true) := by simp; omega
                      have hq5' : (s1.2 : Int) = 5000 := by omega
                      have HQ5 := Lib.hid hq5'
                      clear hE hS hP HST
                      go_wp2_with fail
                      go_ret2
                      rw [HE2.out]
                      exact ⟨some ⟨g8, 0, none⟩, c8, (by rw [HQ5.out]; rfl), ow5, (fun a ha => by injection ha with ha; subst ha; show w.heap.size ≤ g8; have := HROW.out; omega), hb5⟩
                    · have hq5 : (((s1.2 : Int) == 5000) = false) := by simp; omega
                      have hq5' : ¬ (s1.2 : Int) = 5000 := by omega
                      have HS2 := Lib.hid (HST.out (by omega))
                      have HBK : Hid (s1.2 + 1 ≠ s.2) := Lib.hid (by have := HMO.out; omega)
                      have owz : Own w5 (some ⟨g8, 0, none⟩) l c8 (fcM s1.1 cs ((st' : Int)) 0) := by rw [fcM_zero]; exact ow5
                      have hgz := World.grownBy.refl w5 (some g8)
                      have hle5 : s1.2 < 5000 := by omega
                      have HG := Lib.hid hg5
                      have OC := Lib.hid ocs5
                      have HBW := Lib.hid hb5
                      have WSZ : Hid (∀ b, b = g8 → b ≠ gc) := Lib.hid (fun b hb => by have := HROW.out; have := HGC.out; omega)
                      clear hE HST hP
                      go_wp2_with fail
                      go_loopw [85] (fun iv wr => ∃ i : Nat, i ≤ m ∧ iv = .int .i64 i ∧ Own wr (some ⟨g8, 0, none⟩) l c8 (fcM s1.1 cs ((st' : Int)) i) ∧ w5.grownBy wr (some g8) ∧ Below w.heap.size w wr) (fun iv _ => m - (intOf iv).toNat)
                      case atStart => exact ⟨0, by omega, rfl, owz, hgz, HBW.out⟩
                      case round =>
                        obtain ⟨i, hi, rfl, owr, hgr, hbr⟩ := hrel
                        clear owz hgz
                        by_cases him : i < m
                        · have hil : i < l := by have := HLM.out; omega
                          have hil' : (i : Int) < (l : Int) := by omega
                          have ocr := OC.out.off hgr (fun a ha => by injection ha with ha; subst ha; intro e; exact (WSZ.out g8 rfl) e.symm)
                          have cy := ocr.cell him
                          have cw := owr.cell (j := i) (by have := HLM.out; omega)
                          rw [fcM_at (by have := owr.len; have := HLEN.out; omega)] at cw
                          have uw := owr.unfrozen i
                          have hbd := flowB_all HR1.out.flow i
                          have hu := HCY.out.bnd i
                          have hp : -100000 ≤ ((st' : Int)) * ig cs i ∧ ((st' : Int)) * ig cs i ≤ 100000 := by
                            rcases HCY.out.u i with h | h | h <;> rw [h] <;> omega
                          have os := owr.store i (z := ig s1.1 i + ((st' : Int)) * ig cs i) ⟨by omega, by omega⟩
                          rw [fcM_set] at os
                          have hb2 := hbr.setCell (p := ⟨g8, i, none⟩) (by show w.heap.size ≤ g8; have := HROW.out; omega) (.int .i64 (ig s1.1 i + ((st' : Int)) * ig cs i))
                          have g1 := grown_put (j := i) hgr (.int .i64 (ig s1.1 i + ((st' : Int)) * ig cs i))
                          have hcm : ig cs i * ((st' : Int)) = ((st' : Int)) * ig cs i := Int.mul_comm _ _
                          have OS := Lib.hid os
                          have HB2 := Lib.hid hb2
                          have G1 := Lib.hid g1
                          have HCM := Lib.hid hcm
                          have hp' := hp
                          rw [← HCM.out] at hp'
                          rw [← HCM.out] at OS HB2 G1
                          clear os hb2 g1 owr hgr hbr ocr hcm hp hfull
                          go_wp2_with fail
                          go_roundw
                          case rel => exact ⟨i + 1, by omega, by go_num, OS.out, G1.out, HB2.out⟩
                          case measure => simp [intOf]; omega
                        · have him' : ¬ (i : Int) < (m : Int) := by omega
                          rw [fcM_end (by have := HLEN.out; omega)] at owr
                          have hgw := grown_trans' HG.out hgr
                          have HRR := Lib.hid HS2.out
                          clear hfull
                          go_wp2_with fail
                          go_roundw
                          case rel => exact ⟨j + 1, (addL s1.1 cs ((st' : Int)), s1.2 + 1), true, by omega, by go_num, rfl, by go_num, Lib.hid ⟨fun _ => HBK.out, fun _ => rfl⟩, HS2, owr, hgw, hbr⟩
                          case measure => simp [intOf]; omega
                · have hki : ¬ (j : Int) < (K : Int) := by omega
                  have HEnd : Hid (s1 = pss net st' s (basL net)) := Lib.hid (by rw [hS.out, pssK_end (by rw [basL_len, HKK.out]; omega)])
                  have HE2 : Hid (rlx net (basL net) st' s1 = rlx net (basL net) st (zs, 0)) := Lib.hid (by rw [HEnd.out, ← rlx_pass hst0.out]; exact hE.out)
                  have HP2 : Hid (b1 = false → (pss net st' s1 (basL net)).2 = s1.2) := Lib.hid (fun hb1 => by
                    have e1 : s1.2 = s.2 := by
                      rcases Nat.lt_trichotomy s1.2 s.2 with hx | hx | hx
                      · have := hB.out.2 (by omega); rw [hb1] at this; cases this
                      · exact hx
                      · have := hB.out.2 (by omega); rw [hb1] at this; cases this
                    have e2 : (pss net st' s (basL net)).2 = s.2 := by rw [← HEnd.out]; exact e1
                    have e3 := ((pss_facts net st' (basL net) s).2.1 e2).1
                    have e4 : s1 = s := by rw [HEnd.out, e3]
                    rw [e4]; exact e2)
                  have hbm : b1 = true → s1.2 ≠ s.2 := hB.out.1
                  have hmo := HMO.out
                  clear hE hS hB hP
                  go_wp2_with fail
                  go_roundw
                  case rel => exact ⟨s1, b1, rfl, rfl, HP2, HE2, HR1, ow4, hg4, hb4⟩
                  case measure =>
                    rcases b1 with _ | _
                    · simp [intOf]; omega
                    · have := hbm rfl
                      simp [intOf]; omega

theorem rRelaxFlows_len (net : Net) (zs : List Int) (x : Int) (_h : zs.length ≤ 1048576) : (rRelaxFlows net zs x).1.length ≤ 1048576 := by
  unfold rRelaxFlows
  by_cases h0 : codeF net zs = 0
  · rw [if_pos h0]
    split
    · obtain ⟨hv, hf⟩ := codeF_zero h0
      have h1 := flowB_len (rlx_inv (basL_bas (NetOK.of hv)) (st := x.toNat) (RI.start hf)).1.flow
      have h2 := (netB_sizes hv).2.2
      show (rlx _ _ _ _).1.length ≤ _
      omega
    · simp
  · rw [if_neg h0]; simp

set_option maxRecDepth 100000 in
set_option maxHeartbeats 4000000 in
theorem implRelaxFlows_any (A : Option Addr) (n c : Nat) (B : Option Addr) (m d : Nat) (net : Net) (C : Option Addr) (l e : Nat) (zs : List Int) (x : Int) (w : World) (h : NetAt w A n c B m d net) (hz : Ints w C l e zs) (hx : I64 x) :
    Calls Try.prog 36 #[.agg #[.slice A n c, .slice B m d], .slice C l e, .int .i64 x] w fun e w' => RetLII w (rRelaxFlows net zs x) e w' := by
  have HB := Lib.hid (bel1 w (.cells #[.slice A n c, .slice B m d] 27))
  by_cases h0 : codeF net zs = 0
  · obtain ⟨hv, hf⟩ := codeF_zero h0
    rcases hs : stepB x with _ | _
    · have HR : Hid (rRelaxFlows net zs x = ([], 0, 2)) := Lib.hid (by unfold rRelaxFlows; rw [if_pos h0, hs]; rfl)
      rcases hin : inB x 1 32768 with _ | _
      · go_enter Try.func36, Try.ntmps36
        go_wp2_with fail
        refine (checkFlows_is _ _ _ _ _ _ _ _ _ net zs _ _ (h.later HB.out) (hz.later HB.out) h0).mono ?_
        rintro e w1 ⟨rfl, b1⟩
        have t1 := below_step HB.out b1
        have s1 := b1
        obtain ⟨k0, k1⟩ := box_cells s1
        go_wp2_with (go_at_call 76; refine (within_is _ _ _ _ _ hin).mono ?_; rintro e w' ⟨rfl, rfl⟩)
        go_ret3
        exact retLII_nil rfl HR.out t1
      · obtain ⟨hr1, hr2⟩ := inB_iff'.1 hin
        obtain ⟨hbt, hbt2⟩ := (step_bits2 hr1 hr2).2 hs
        go_enter Try.func36, Try.ntmps36
        go_wp2_with fail
        refine (checkFlows_is _ _ _ _ _ _ _ _ _ net zs _ _ (h.later HB.out) (hz.later HB.out) h0).mono ?_
        rintro e w1 ⟨rfl, b1⟩
        have t1 := below_step HB.out b1
        have s1 := b1
        obtain ⟨k0, k1⟩ := box_cells s1
        go_wp2_with (go_at_call 76; refine (within_is _ _ _ _ _ hin).mono ?_; rintro e w' ⟨rfl, rfl⟩)
        go_ret3
        exact retLII_nil rfl HR.out t1
    · obtain ⟨hbt, hbt2⟩ := (step_bits2 (stepB_rng hs).1 (stepB_rng hs).2).1 hs
      have hin : inB x 1 32768 = true := inB_iff'.2 (stepB_rng hs)
      obtain ⟨hx1, hx2⟩ := stepB_rng hs
      obtain ⟨st, rfl⟩ := Int.eq_ofNat_of_zero_le (a := x) (by omega)
      have HR : Hid (rRelaxFlows net zs (st : Int) = ((rlx net (basL net) st (zs, 0)).1, ((rlx net (basL net) st (zs, 0)).2 : Int), 0)) := Lib.hid (by unfold rRelaxFlows; rw [if_pos h0, hs, if_pos rfl, Int.toNat_natCast])
      go_enter Try.func36, Try.ntmps36
      go_wp2_with fail
      refine (checkFlows_is _ _ _ _ _ _ _ _ _ net zs _ _ (h.later HB.out) (hz.later HB.out) h0).mono ?_
      rintro e w1 ⟨rfl, b1⟩
      have t1 := below_step HB.out b1
      have s1 := b1
      obtain ⟨k0, k1⟩ := box_cells s1
      go_wp2_with (go_at_call 76; refine (within_is _ _ _ _ _ hin).mono ?_; rintro e w' ⟨rfl, rfl⟩)
      refine (relax_any _ _ _ _ _ _ net _ _ _ zs st _ (h.later t1) (hz.later t1) hv hf (by omega)).mono ?_
      rintro e w2 ⟨Ao, co, rfl, oo, fo, b2⟩
      clear k0 k1
      have t2 := below_step t1 b2
      have s2 := below_step s1 b2
      obtain ⟨k0, k1⟩ := box_cells s2
      go_wp2_with fail
      go_ret3
      exact retLII_own rfl HR.out oo (fresh_up fo (by have := HB.out.size; have := t1.size; omega)) t2
  · obtain ⟨k, hk⟩ : ∃ k, codeF net zs = k := ⟨_, rfl⟩
    rw [hk] at h0
    have hne : (k != 0) = true := by simp [h0]
    have hne2 : (k == 0) = false := by simp [h0]
    have HR : Hid (rRelaxFlows net zs x = ([], 0, k)) := Lib.hid (by unfold rRelaxFlows; rw [hk, if_neg h0])
    go_enter Try.func36, Try.ntmps36
    go_wp2_with fail
    refine (checkFlows_is _ _ _ _ _ _ _ _ _ net zs _ _ (h.later HB.out) (hz.later HB.out) hk).mono ?_
    rintro e w1 ⟨rfl, b1⟩
    have t1 := below_step HB.out b1
    have s1 := b1
    obtain ⟨k0, k1⟩ := box_cells s1
    go_wp2_with (go_at_call 76; refine (within_is _ _ _ _ _ hin).mono ?_; rintro e w' ⟨rfl, rfl⟩)
    go_ret3
    exact retLII_nil rfl HR.out t1

end Go.Proofs.Ytllblmndoigdlaa
