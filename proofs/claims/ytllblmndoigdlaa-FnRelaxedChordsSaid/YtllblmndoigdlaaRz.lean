/- RelaxChord, the program -/
import Derived.Test.YtllblmndoigdlaaRy
import Derived.Test.YtllblmndoigdlaaVq
import Derived.Test.YtllblmndoigdlaaRh
import Derived.Test.YtllblmndoigdlaaJ4
namespace Go.Proofs.Ytllblmndoigdlaa
open Go.RowKit

set_option maxRecDepth 100000 in
set_option maxHeartbeats 16000000 in
theorem implRelaxChord_any (A : Option Addr) (n c : Nat) (B : Option Addr) (m d : Nat) (net : Net) (C : Option Addr) (l e : Nat) (zs : List Int) (x : Int) (w : World) (h : NetAt w A n c B m d net) (hz : Ints w C l e zs) (_hx : I64 x) :
    Calls Try.prog 41 #[.agg #[.slice A n c, .slice B m d], .slice C l e, .int .i64 x] w fun e w' => RetLI w (rRelaxChord net zs x) e w' := by
  have HB := Lib.hid (bel1 w (.cells #[.slice A n c, .slice B m d] 27))
  have bxW : BX (w.alloc (.cells #[.slice A n c, .slice B m d] 27)) w.heap.size A n c B m d := ⟨heap_alloc_new w _⟩
  by_cases h0 : codeC net zs x = 0
  · obtain ⟨hv, hf, q, rfl, hq, hqm⟩ := codeC_zero h0
    have ok := NetOK.of hv
    have hlm : m = l := by have := flowB_len hf; have := h.pipes.len; have := hz.len; omega
    subst hlm
    have HPL := Lib.hid h.pipes.len
    have hm40 : m ≤ 40 := by have := ok.m40; have := h.pipes.len; omega
    have hqm2 : q < m := by have := h.pipes.len; omega
    obtain ⟨cs, hcs⟩ : ∃ cs, cycL net q = cs := ⟨_, rfl⟩
    obtain ⟨r, hr⟩ : ∃ r, bestL net zs cs = r := ⟨_, rfl⟩
    have hcy : Cyc net cs := by rw [← hcs]; exact cycL_cyc ok hq
    have hself : ig cs q ≠ 0 := by rw [← hcs, cycL_self ok hq]; decide
    have hrb := bestL_rng hf hcy
    rw [hr] at hrb
    obtain ⟨_, _, hr0, hr1⟩ := hrb
    have HR : Hid (rRelaxChord net zs q = (addL zs cs r, 0)) := Lib.hid (by unfold rRelaxChord; rw [if_pos h0, ← hr, ← hcs]; rfl)
    have HCY := Lib.hid hcy
    have HV := Lib.hid hv
    have HF := Lib.hid hf
    have HSF := Lib.hid hself
    have HBE := Lib.hid hr
    have HQ := Lib.hid hqm
    have HCS := Lib.hid hcs
    clear hcy hself hr hqm hcs
    go_enter Try.func41, Try.ntmps41
    go_wp2_with fail
    refine (checkChord_is _ _ _ _ _ _ net _ _ _ zs _ _ _ (h.later HB.out) (hz.later HB.out) h0).mono ?_
    rintro e w1 ⟨rfl, b1⟩
    have t1 := below_step HB.out b1
    have bx1 := bxW.step b1
    have k0 := bx1.c0
    have k1 := bx1.c1
    clear bxW b1
    go_wp2_with fail
    refine (cycleOf_any _ _ _ _ _ _ net q _ (h.later t1) ok hq).mono ?_
    rintro e w2 ⟨Ay, rfl, oy, fy, b2⟩
    rw [HCS.out] at oy
    have t2 := below_step t1 b2
    have bx2 := bx1.step b2
    obtain ⟨gy, rfl, hgy⟩ := oy.pos (by omega)
    clear k0 k1 bx1 b2 t1 hq h0 hv hf fy HCS
    go_wp2_with fail
    go_loopw [10, 11, 30] (fun s t i wr => ∃ k : Nat, k ≤ m ∧ s = .int .i64 (loK zs cs k) ∧ t = .int .i64 (hiK zs cs k) ∧ i = .int .i64 k ∧ Below w2.heap.size w2 wr) (fun _ _ i _ => m - (intOf i).toNat)
    case atStart => exact ⟨0, by omega, rfl, rfl, rfl, Below.refl _ _⟩
    case round =>
      obtain ⟨k, hk, rfl, rfl, rfl, hb⟩ := hrel
      by_cases hlt : k < m
      · have hki : (k : Int) < (m : Int) := by omega
        have cy := (oy.later hb).cell hlt
        obtain ⟨bz, offz, rfl, hblz, hcz⟩ := (hz.later (below_step t2 hb)).cells (by omega)
        have cz := hcz k hlt
        have hLH := lohi_zero HF.out HCY.out k
        have hVb := flowB_all HF.out k
        have HL := Lib.hid (loK_succ zs cs k)
        have HH := Lib.hid (hiK_succ zs cs k)
        have hu := HCY.out.u k
        clear hcz
        generalize loK zs cs k = LO at *
        generalize hiK zs cs k = HI at *
        generalize ig zs k = V at *
        rcases hu with h1 | h1 | h1
        · rw [h1] at cy
          have e1 : -30000 - (-1 : Int) * V = V - 30000 := by omega
          have e2 : 30000 - (-1 : Int) * V = V + 30000 := by omega
          have HL1 : Hid (loK zs cs (k + 1) = if LO < V - 30000 then V - 30000 else LO) := Lib.hid (by rw [HL.out, h1, if_neg (by decide), e1])
          have HH1 : Hid (hiK zs cs (k + 1) = if V + 30000 < HI then V + 30000 else HI) := Lib.hid (by rw [HH.out, h1, if_neg (by decide), e2])
          clear HL HH h1 e1 e2
          go_wp2_with fail
          go_quiet (fail)
          go_wp2_with fail
          go_roundw
          case rel => exact ⟨k + 1, by omega, by rw [HL1.out]; refine congrArg (Value.int .i64) ?_; split <;> omega, by rw [HH1.out]; refine congrArg (Value.int .i64) ?_; split <;> omega, by go_num, below_drew hb _⟩
          case measure => simp [intOf]; omega
        · rw [h1] at cy
          have HL2 : Hid (loK zs cs (k + 1) = LO) := Lib.hid (by rw [HL.out, h1, if_pos rfl])
          have HH2 : Hid (hiK zs cs (k + 1) = HI) := Lib.hid (by rw [HH.out, h1, if_pos rfl])
          clear HL HH h1
          go_wp2_with fail
          go_roundw
          case rel => exact ⟨k + 1, by omega, by rw [HL2.out], by rw [HH2.out], by go_num, hb⟩
          case measure => simp [intOf]; omega
        · rw [h1] at cy
          have e1 : -30000 - (1 : Int) * V = -30000 - V := by omega
          have e2 : 30000 - (1 : Int) * V = 30000 - V := by omega
          have HL1 : Hid (loK zs cs (k + 1) = if LO < -30000 - V then -30000 - V else LO) := Lib.hid (by rw [HL.out, h1, if_neg (by decide), e1])
          have HH1 : Hid (hiK zs cs (k + 1) = if 30000 - V < HI then 30000 - V else HI) := Lib.hid (by rw [HH.out, h1, if_neg (by decide), e2])
          clear HL HH h1 e1 e2
          go_wp2_with fail
          go_quiet (fail)
          go_wp2_with fail
          go_roundw
          case rel => exact ⟨k + 1, by omega, by rw [HL1.out]; refine congrArg (Value.int .i64) ?_; split <;> omega, by rw [HH1.out]; refine congrArg (Value.int .i64) ?_; split <;> omega, by go_num, below_drew hb _⟩
          case measure => simp [intOf]; omega
      · have hkm : k = m := by omega
        subst hkm
        have hki : ¬ (k : Int) < (k : Int) := by omega
        have hLo : loK zs cs net.pipes.length = loK zs cs k := by rw [HPL.out]
        have hHi : hiK zs cs net.pipes.length = hiK zs cs k := by rw [HPL.out]
        generalize loK zs cs k = LO at *
        generalize hiK zs cs k = HI at *
        have HLo := Lib.hid hLo
        have HHi := Lib.hid hHi
        have t3 := below_step t2 hb
        have bx3 := bx2.step hb
        have oy3 := oy.later hb
        have k0 := bx3.c0
        have k1 := bx3.c1
        clear hLo hHi
        go_wp2_with fail
        refine (bestAmount_any _ _ _ _ _ _ net _ _ _ zs _ _ _ cs q LO HI r _ (h.later t3) (hz.later t3) oy3.ints HV.out HF.out HCY.out HQ.out HSF.out HLo.out HHi.out HBE.out).mono ?_
        rintro e w4 ⟨rfl, b4⟩
        have t4 := below_step t3 b4
        have oy4 := oy3.later b4
        clear k0 k1 bx3 oy3 t3 b4
        go_wp2_with fail
        refine (slicesClone_any _ _ _ zs _ (hz.later t4) (by omega)).mono ?_
        rintro e w5 ⟨Ao, co, rfl, ow, fo, b5⟩
        have t5 := below_step t4 b5
        have oy5 := oy4.later b5
        have hgy4 := oy4.lt _ rfl
        simp only at hgy4
        obtain ⟨go_, rfl, hgo⟩ := ow.pos (by omega)
        have hfo := fo _ rfl
        simp only at hfo
        have hw4 := t4.size
        have owz : Own w5 (some ⟨go_, 0, none⟩) k co (fcM zs cs r 0) := by rw [fcM_zero]; exact ow
        have hgz := World.grownBy.refl w5 (some go_)
        have HLEN := Lib.hid ow.len
        clear ow fo oy4 b5 t4
        go_wp2_with fail
        go_loopw [79] (fun i wr => ∃ j : Nat, j ≤ k ∧ i = .int .i64 (j : Int) ∧ Own wr (some ⟨go_, 0, none⟩) k co (fcM zs cs r j) ∧ w5.grownBy wr (some go_) ∧ Below w.heap.size w wr) (fun i _ => k - (intOf i).toNat)
        case atStart => exact ⟨0, by omega, rfl, owz, hgz, t5⟩
        case round =>
          obtain ⟨j, hj, rfl, owr, hgr, hbr⟩ := hrel
          clear owz hgz
          by_cases hjk : j < k
          · have hji : (j : Int) < (k : Int) := by omega
            have oyr := oy5.other hgr (fun a ha e => by injection ha with ha; subst ha; injection e with e; have e2 : gy = go_ := e; omega)
            have cy := oyr.cell hjk
            have cw := owr.cell hjk
            rw [fcM_at (by have := HLEN.out; omega)] at cw
            have uw := owr.unfrozen j
            have hbd := flowB_all HF.out j
            have hu := HCY.out.bnd j
            have hp : -60000 ≤ r * ig cs j ∧ r * ig cs j ≤ 60000 := by
              rcases HCY.out.u j with h | h | h <;> rw [h] <;> omega
            have os := owr.store j (z := ig zs j + r * ig cs j) ⟨by omega, by omega⟩
            rw [fcM_set] at os
            have hb2 := hbr.setCell (p := ⟨go_, j, none⟩) (by show w.heap.size ≤ go_; omega) (.int .i64 (ig zs j + r * ig cs j))
            have g1 := grown_put (j := j) hgr (.int .i64 (ig zs j + r * ig cs j))
            have hcm : ig cs j * r = r * ig cs j := Int.mul_comm _ _
            have OS := Lib.hid os
            have HB2 := Lib.hid hb2
            have G1 := Lib.hid g1
            have HCM := Lib.hid hcm
            have hp' := hp
            rw [← HCM.out] at hp'
            rw [← HCM.out] at OS HB2 G1
            clear os hb2 g1 owr hgr hbr oyr hcm hp
            go_wp2_with fail
            go_roundw
            case rel => exact ⟨j + 1, by omega, by go_num, OS.out, G1.out, HB2.out⟩
            case measure => simp [intOf]; omega
          · have hji : ¬ (j : Int) < (k : Int) := by omega
            rw [fcM_end (by have := HLEN.out; omega)] at owr
            have f5 : Fresh w.heap.size (some (⟨go_, 0, none⟩ : Addr)) := fun a ha => by injection ha with ha; subst ha; show w.heap.size ≤ go_; omega
            go_wp2_with fail
            go_ret2
            exact retLI_own rfl HR.out owr f5 hbr
  · obtain ⟨K, hK⟩ : ∃ K, codeC net zs x = K := ⟨_, rfl⟩
    rw [hK] at h0
    have hne : (K != 0) = true := by simp [h0]
    have HR : Hid (rRelaxChord net zs x = ([], K)) := Lib.hid (by unfold rRelaxChord; rw [hK, if_neg h0])
    clear h0
    go_enter Try.func41, Try.ntmps41
    go_wp2_with fail
    refine (checkChord_is _ _ _ _ _ _ net _ _ _ zs _ _ _ (h.later HB.out) (hz.later HB.out) hK).mono ?_
    rintro e w1 ⟨rfl, b1⟩
    have t1 := below_step HB.out b1
    clear hK
    go_wp2_with fail
    go_ret2
    exact retLI_nil rfl HR.out t1

end Go.Proofs.Ytllblmndoigdlaa
