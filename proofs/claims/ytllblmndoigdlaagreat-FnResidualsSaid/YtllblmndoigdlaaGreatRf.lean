/- IsRelaxed -/
import Derived.Test.YtllblmndoigdlaaGreatRe
namespace Go.Proofs.YtllblmndoigdlaaGreat
open Go.RowKit

theorem run_index2 (x y : Int) (w : World) : (Instr.index 49 (.agg #[.int .i64 x, .int .i64 y]) (.int .i64 0)).run Tryz.prog w = .ok (.int .i64 x) w ∧ (Instr.index 49 (.agg #[.int .i64 x, .int .i64 y]) (.int .i64 1)).run Tryz.prog w = .ok (.int .i64 y) w := by
  constructor
  · simp [Instr.index, run_underlying Tryz.underlying49, asIntOf, go_sem]
  · simp [Instr.index, run_underlying Tryz.underlying49, asIntOf, go_sem]

/-- no cycle among the first k lowers the energy -/
def Calm (net : Net) (zs : List Int) (k : Nat) : Prop := ∀ cs ∈ (basL net).take k, lowB net zs cs 1 = false ∧ lowB net zs cs (-1) = false
theorem Calm.zero (net : Net) (zs : List Int) : Calm net zs 0 := fun cs h => by simp at h
theorem Calm.succ {net : Net} {zs : List Int} {k q : Nat} (h : Calm net zs k) (hq : (netG net).chords[k]? = some q) (h1 : lowB net zs (cycL net q) 1 = false) (h2 : lowB net zs (cycL net q) (-1) = false) : Calm net zs (k + 1) := fun cs hc => by
  rw [basL_take hq, List.mem_append, List.mem_singleton] at hc
  rcases hc with hc | rfl
  · exact h cs hc
  · exact ⟨h1, h2⟩
def Low2 (net : Net) (zs cs : List Int) (j : Nat) : Prop := (1 ≤ j → lowB net zs cs 1 = false) ∧ (2 ≤ j → lowB net zs cs (-1) = false)
theorem Low2.zero (net : Net) (zs cs : List Int) : Low2 net zs cs 0 := ⟨fun h => absurd h (by omega), fun h => absurd h (by omega)⟩
theorem Low2.one {net : Net} {zs cs : List Int} (h : lowB net zs cs 1 = false) : Low2 net zs cs 1 := ⟨fun _ => h, fun h => absurd h (by omega)⟩
theorem Low2.two {net : Net} {zs cs : List Int} (h : Low2 net zs cs 1) (h2 : lowB net zs cs (-1) = false) : Low2 net zs cs 2 := ⟨fun _ => h.1 (Nat.le_refl _), fun _ => h2⟩
theorem Calm.fin {net : Net} {zs : List Int} {k : Nat} (hv : netB net = true) (hf : flowB net zs = true) (h : Calm net zs k) (hk : (netG net).chords.length ≤ k) : rIsRelaxed net zs = true :=
  rIsRelaxed_iff.2 ⟨hv, hf, fun cs hc => h cs (by rw [List.take_of_length_le (by rw [basL_len]; exact hk)]; exact hc)⟩
theorem relaxed_no {net : Net} {zs : List Int} {q : Nat} {a : Int} (hq : q ∈ (netG net).chords) (ha : a = 1 ∨ a = -1) (h : lowB net zs (cycL net q) a = true) : rIsRelaxed net zs = false := by
  cases hx : rIsRelaxed net zs
  · rfl
  · have := (rIsRelaxed_iff.1 hx).2.2 (cycL net q) (List.mem_map.2 ⟨q, hq, rfl⟩)
    rcases ha with rfl | rfl
    · rw [this.1] at h; cases h
    · rw [this.2] at h; cases h
theorem chgR_low {net : Net} {zs cs : List Int} {a : Int} : (lowB net zs cs a = true → ∃ v : Int, v < 0 ∧ chgR net zs cs a = (v, true)) ∧ (lowB net zs cs a = false → ∃ (v : Int) (b : Bool), chgR net zs cs a = (v, b) ∧ (b = true → 0 ≤ v)) := by
  unfold lowB chgR
  cases hO : okK zs cs a net.pipes.length
  · exact ⟨fun h => by simp at h, fun _ => ⟨0, false, rfl, fun h => by cases h⟩⟩
  · exact ⟨fun h => ⟨_, by simpa using h, rfl⟩, fun h => ⟨_, true, rfl, fun _ => by simpa using h⟩⟩

set_option maxRecDepth 100000 in
set_option maxHeartbeats 8000000 in
theorem implIsRelaxed_any (A : Option Addr) (n c : Nat) (B : Option Addr) (m d : Nat) (net : Net) (C : Option Addr) (l e : Nat) (zs : List Int) (w : World) (h : NetAt w A n c B m d net) (hz : Ints w C l e zs) :
    Calls Tryz.prog 6 #[.agg #[.slice A n c, .slice B m d], .slice C l e] w fun e w' => e = .returned (.bool (rIsRelaxed net zs)) ∧ Below w.heap.size w w' := by
  have HB := Lib.hid (bel1 w (.cells #[.slice A n c, .slice B m d] 27))
  have bxW : BX (w.alloc (.cells #[.slice A n c, .slice B m d] 27)) w.heap.size A n c B m d := ⟨heap_alloc_new w _⟩
  rcases hv : netB net with _ | _
  · have HR : Hid (rIsRelaxed net zs = false) := Lib.hid (by unfold rIsRelaxed; rw [hv]; rfl)
    go_enter Tryz.func6, Tryz.ntmps6
    go_wp2_with fail
    refine (implIsNetwork_is _ _ _ _ _ _ net _ _ (h.later HB.out) hv).mono ?_
    rintro e w1 ⟨rfl, b1⟩
    have t1 := below_step HB.out b1
    have s1 := b1
    obtain ⟨k0, k1⟩ := box_cells s1
    go_wp2_with fail
    go_ret
    exact ⟨ret_bool HR.out.symm, t1⟩
  · have ok := NetOK.of hv
    rcases hf : flowB net zs with _ | _
    · have HR : Hid (rIsRelaxed net zs = false) := Lib.hid (by unfold rIsRelaxed; rw [hv, hf]; rfl)
      go_enter Tryz.func6, Tryz.ntmps6
      go_wp2_with fail
      refine (implIsNetwork_is _ _ _ _ _ _ net _ _ (h.later HB.out) hv).mono ?_
      rintro e w1 ⟨rfl, b1⟩
      have t1 := below_step HB.out b1
      have s1 := b1
      obtain ⟨k0, k1⟩ := box_cells s1
      go_wp2_with fail
      refine (isFlowList_is _ _ _ _ _ _ _ _ _ net _ _ _ (h.later t1) (hz.later t1) hf).mono ?_
      rintro e w2 ⟨rfl, b2⟩
      clear k0 k1
      have t2 := below_step t1 b2
      have s2 := below_step s1 b2
      obtain ⟨k0, k1⟩ := box_cells s2
      go_wp2_with fail
      go_ret
      exact ⟨ret_bool HR.out.symm, t2⟩
    · go_enter Tryz.func6, Tryz.ntmps6
      go_wp2_with fail
      refine (implIsNetwork_is _ _ _ _ _ _ net _ _ (h.later HB.out) hv).mono ?_
      rintro e w1 ⟨rfl, b1⟩
      have t1 := below_step HB.out b1
      have s1 := b1
      obtain ⟨k0, k1⟩ := box_cells s1
      go_wp2_with fail
      refine (isFlowList_is _ _ _ _ _ _ _ _ _ net _ _ _ (h.later t1) (hz.later t1) hf).mono ?_
      rintro e w2 ⟨rfl, b2⟩
      clear k0 k1
      have t2 := below_step t1 b2
      have s2 := below_step s1 b2
      obtain ⟨k0, k1⟩ := box_cells s2
      go_wp2_with fail
      refine (chordsOf_any _ _ _ _ _ _ net _ (h.later t2) ok).mono ?_
      rintro e w3 ⟨Ac, cc, rfl, oc, fc, b3⟩
      clear k0 k1
      have t3 := below_step t2 b3
      have s3 := below_step s2 b3
      obtain ⟨k0, k1⟩ := box_cells s3
      obtain ⟨K, hK⟩ : ∃ K, (netG net).chords.length = K := ⟨_, rfl⟩
      have hK40 : K ≤ 40 := by have := chords_le net; have := ok.m40; omega
      rw [hK] at oc ⊢
      have HKK := Lib.hid hK
      have bx3 := ((bxW.step b1).step b2).step b3
      have T3 := Lib.hid t3
      clear hK k0 k1
      go_wp2_with fail
      go_loopw [24] (fun i wr => ∃ k : Nat, k ≤ K ∧ i = .int .i64 k ∧ Hid (Calm net zs k) ∧ Below w3.heap.size w3 wr) (fun i _ => K - (intOf i).toNat)
      case atStart => exact ⟨0, by omega, rfl, Lib.hid (Calm.zero net zs), Below.refl _ _⟩
      case round =>
        obtain ⟨k, hk, rfl, hC, hb⟩ := hrel
        by_cases hlt : k < K
        · have hlt' : k < (netG net).chords.length := by rw [HKK.out]; exact hlt
          obtain ⟨q, hq⟩ : ∃ q, (netG net).chords[k]? = some q := ⟨_, List.getElem?_eq_getElem hlt'⟩
          have HQ := Lib.hid (chord_mem hq)
          have HQK := Lib.hid hq
          have oc1 := oc.later hb
          obtain ⟨ga, rfl, hga⟩ := oc1.pos (by omega)
          have c1 := oc1.cell hlt
          rw [nl_ig hlt', (List.getElem?_eq_some_iff.1 hq).2] at c1
          clear hq oc1
          have bxr := bx3.step hb
          have z0 := bxr.c0
          have z1 := bxr.c1
          go_wp2_with fail
          refine (cycleOf_any _ _ _ _ _ _ net q _ (h.later (below_step T3.out hb)) ok HQ.out).mono ?_
          rintro e w5 ⟨Ay, rfl, oy, fy, b5⟩
          have hb5 := below_step hb b5
          have bx5 := bxr.step b5
          clear z0 z1 c1
          go_wp2_with fail
          go_loopw [32] (fun i wr => ∃ j : Nat, j ≤ 2 ∧ i = .int .i64 j ∧ Hid (Low2 net zs (cycL net q) j) ∧ Below w5.heap.size w5 wr) (fun i _ => 2 - (intOf i).toNat)
          case atStart => exact ⟨0, by omega, rfl, Lib.hid (Low2.zero _ _ _), Below.refl _ _⟩
          case round =>
            obtain ⟨j, hj, rfl, hH, hbi⟩ := hrel
            have hbr := below_step hb5 hbi
            have bxi := bx5.step hbi
            have z0 := bxi.c0
            have z1 := bxi.c1
            obtain ⟨hx0, hx1⟩ := run_index2 1 (-1) wr
            have hj3 : j = 0 ∨ j = 1 ∨ j = 2 := by omega
            rcases hj3 with rfl | rfl | rfl
            · obtain ⟨HLt, HLf⟩ := chgR_low (net := net) (zs := zs) (cs := cycL net q) (a := 1)
              rcases hlow : lowB net zs (cycL net q) (1) with _ | _
              · obtain ⟨v, b, hX, hvb⟩ := HLf hlow
                have HX := Lib.hid hX
                have HLW := Lib.hid hlow
                have HVB := Lib.hid hvb
                clear hX HLt HLf hlow hvb
                go_wp2_with fail
                refine (energyChange_any _ _ _ _ _ _ net _ _ _ zs _ _ _ _ (1) _ (h.later (below_step T3.out hbr)) (hz.later (below_step T3.out hbr)) (oy.later hbi).ints hv hf (cycL_cyc ok HQ.out) ⟨by decide, by decide⟩).mono ?_
                rintro e w6 ⟨rfl, b6⟩
                rw [HX.out]
                have hbi6 := below_step hbi b6
                clear z0 z1
                rcases b with _ | _
                · go_wp2_with fail
                  go_roundw
                  case rel => exact ⟨1, by omega, by go_num, Lib.hid (Low2.one HLW.out), hbi6⟩
                  case measure => simp [intOf]
                · have hv0 := HVB.out rfl
                  have hvl : ¬ v < 0 := by omega
                  go_wp2_with fail
                  go_roundw
                  case rel => exact ⟨1, by omega, by go_num, Lib.hid (Low2.one HLW.out), hbi6⟩
                  case measure => simp [intOf]
              · obtain ⟨v, hvl, hX⟩ := HLt hlow
                have HX := Lib.hid hX
                have HR : Hid (rIsRelaxed net zs = false) := Lib.hid (relaxed_no HQ.out (.inl rfl) hlow)
                clear hX HLt HLf hlow
                go_wp2_with fail
                refine (energyChange_any _ _ _ _ _ _ net _ _ _ zs _ _ _ _ (1) _ (h.later (below_step T3.out hbr)) (hz.later (below_step T3.out hbr)) (oy.later hbi).ints hv hf (cycL_cyc ok HQ.out) ⟨by decide, by decide⟩).mono ?_
                rintro e w6 ⟨rfl, b6⟩
                rw [HX.out]
                have t6 := below_step (below_step T3.out hbr) b6
                clear z0 z1
                go_wp2_with fail
                go_ret
                exact ⟨ret_bool HR.out.symm, t6⟩
            · obtain ⟨HLt, HLf⟩ := chgR_low (net := net) (zs := zs) (cs := cycL net q) (a := -1)
              rcases hlow : lowB net zs (cycL net q) (-1) with _ | _
              · obtain ⟨v, b, hX, hvb⟩ := HLf hlow
                have HX := Lib.hid hX
                have HLW := Lib.hid hlow
                have HVB := Lib.hid hvb
                clear hX HLt HLf hlow hvb
                go_wp2_with fail
                refine (energyChange_any _ _ _ _ _ _ net _ _ _ zs _ _ _ _ (-1) _ (h.later (below_step T3.out hbr)) (hz.later (below_step T3.out hbr)) (oy.later hbi).ints hv hf (cycL_cyc ok HQ.out) ⟨by decide, by decide⟩).mono ?_
                rintro e w6 ⟨rfl, b6⟩
                rw [HX.out]
                have hbi6 := below_step hbi b6
                clear z0 z1
                rcases b with _ | _
                · go_wp2_with fail
                  go_roundw
                  case rel => exact ⟨2, by omega, by go_num, Lib.hid (hH.out.two HLW.out), hbi6⟩
                  case measure => simp [intOf]
                · have hv0 := HVB.out rfl
                  have hvl : ¬ v < 0 := by omega
                  go_wp2_with fail
                  go_roundw
                  case rel => exact ⟨2, by omega, by go_num, Lib.hid (hH.out.two HLW.out), hbi6⟩
                  case measure => simp [intOf]
              · obtain ⟨v, hvl, hX⟩ := HLt hlow
                have HX := Lib.hid hX
                have HR : Hid (rIsRelaxed net zs = false) := Lib.hid (relaxed_no HQ.out (.inr rfl) hlow)
                clear hX HLt HLf hlow
                go_wp2_with fail
                refine (energyChange_any _ _ _ _ _ _ net _ _ _ zs _ _ _ _ (-1) _ (h.later (below_step T3.out hbr)) (hz.later (below_step T3.out hbr)) (oy.later hbi).ints hv hf (cycL_cyc ok HQ.out) ⟨by decide, by decide⟩).mono ?_
                rintro e w6 ⟨rfl, b6⟩
                rw [HX.out]
                have t6 := below_step (below_step T3.out hbr) b6
                clear z0 z1
                go_wp2_with fail
                go_ret
                exact ⟨ret_bool HR.out.symm, t6⟩
            · have HC2 := Lib.hid (hC.out.succ HQK.out (hH.out.1 (by omega)) (hH.out.2 (by omega)))
              clear z0 z1 hH
              go_wp2_with fail
              go_roundw
              case rel => exact ⟨k + 1, by omega, by go_num, HC2, hbr⟩
              case measure => simp [intOf]; omega
        · have HR : Hid (rIsRelaxed net zs = true) := Lib.hid (hC.out.fin hv hf (by rw [HKK.out]; omega))
          clear hC
          go_wp2_with fail
          go_ret
          exact ⟨ret_bool HR.out.symm, below_step T3.out hb⟩

end Go.Proofs.YtllblmndoigdlaaGreat
