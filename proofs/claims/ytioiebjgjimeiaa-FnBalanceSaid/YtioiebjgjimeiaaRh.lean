/- IsCirculation, ChordFlows, FromChords -/
import Derived.Test.YtioiebjgjimeiaaRa
namespace Go.Proofs.Ytioiebjgjimeiaa
open Go.RowKit

theorem chF_take {net : Net} {zs : List Int} {k q : Nat} (h : (netG net).chords[k]? = some q) : (chF net zs).take (k + 1) = (chF net zs).take k ++ [ig zs q] := by
  rw [List.take_add_one]
  congr 1
  unfold chF
  rw [List.getElem?_map, h]; rfl
theorem rChordFlows_len (net : Net) (zs : List Int) (_h : zs.length ≤ 1048576) : (rChordFlows net zs).1.length ≤ 1048576 := by
  unfold rChordFlows
  by_cases h0 : codeF net zs = 0
  · rw [if_pos h0]
    have := (netB_sizes (codeF_zero h0).1).2.2
    have := chords_le net
    show (chF _ _).length ≤ _
    rw [chF_len]; omega
  · rw [if_neg h0]; simp

set_option maxRecDepth 100000 in
set_option maxHeartbeats 2000000 in
theorem implIsCirculation_any (A : Option Addr) (n c : Nat) (B : Option Addr) (m d : Nat) (net : Net) (C : Option Addr) (l e : Nat) (zs : List Int) (w : World) (h : NetAt w A n c B m d net) (hz : Ints w C l e zs) :
    Calls Try.prog 30 #[.agg #[.slice A n c, .slice B m d], .slice C l e] w fun e w' => e = .returned (.bool (rIsCirc net zs)) ∧ Below w.heap.size w w' := by
  have HB := Lib.hid (bel1 w (.cells #[.slice A n c, .slice B m d] 27))
  rcases hv : netB net with _ | _
  · have HR : Hid (rIsCirc net zs = false) := Lib.hid (by unfold rIsCirc; rw [hv]; rfl)
    go_enter Try.func30, Try.ntmps30
    go_wp2_with fail
    refine (implIsNetwork_is _ _ _ _ _ _ net _ _ (h.later HB.out) hv).mono ?_
    rintro e w1 ⟨rfl, b1⟩
    have t1 := below_step HB.out b1
    have s1 := b1
    obtain ⟨k0, k1⟩ := box_cells s1
    go_wp2_with fail
    go_ret
    exact ⟨ret_bool HR.out.symm, t1⟩
  · rcases hf : flowB net zs with _ | _
    · have HR : Hid (rIsCirc net zs = false) := Lib.hid (by unfold rIsCirc; rw [hv, hf]; rfl)
      go_enter Try.func30, Try.ntmps30
      go_wp2_with fail
      refine (implIsNetwork_is _ _ _ _ _ _ net _ _ (h.later HB.out) hv).mono ?_
      rintro e w1 ⟨rfl, b1⟩
      have t1 := below_step HB.out b1
      have s1 := b1
      obtain ⟨k0, k1⟩ := box_cells s1
      go_wp2_with fail
      refine (isFlowList_is _ _ _ _ _ _ _ _ _ net _ _ _ (h.later t1) (hz.later t1) hf).mono ?_
      rintro e w2 ⟨rfl, b2⟩
      clear k0 k1
      have t2 := below_step t1 b2
      have s2 := below_step s1 b2
      obtain ⟨k0, k1⟩ := box_cells s2
      go_wp2_with fail
      go_ret
      exact ⟨ret_bool HR.out.symm, t2⟩
    · rcases hZ : allB (outL n net.pipes zs m) 0 0 with _ | _
      · have HR : Hid (rIsCirc net zs = false) := Lib.hid (by unfold rIsCirc; rw [hv, hf, h.nodes.len, h.pipes.len, hZ]; rfl)
        have HZ := Lib.hid hZ
        clear hZ
        go_enter Try.func30, Try.ntmps30
        go_wp2_with fail
        refine (implIsNetwork_is _ _ _ _ _ _ net _ _ (h.later HB.out) hv).mono ?_
        rintro e w1 ⟨rfl, b1⟩
        have t1 := below_step HB.out b1
        have s1 := b1
        obtain ⟨k0, k1⟩ := box_cells s1
        go_wp2_with fail
        refine (isFlowList_is _ _ _ _ _ _ _ _ _ net _ _ _ (h.later t1) (hz.later t1) hf).mono ?_
        rintro e w2 ⟨rfl, b2⟩
        clear k0 k1
        have t2 := below_step t1 b2
        have s2 := below_step s1 b2
        obtain ⟨k0, k1⟩ := box_cells s2
        go_wp2_with fail
        refine (outflows_any _ _ _ _ _ _ net _ _ _ zs _ (h.later t2) (hz.later t2) hv hf).mono ?_
        rintro e w3 ⟨Ao, co, rfl, oo, fo, b3⟩
        clear k0 k1
        have t3 := below_step t2 b3
        have s3 := below_step s2 b3
        obtain ⟨k0, k1⟩ := box_cells s3
        go_wp2_with fail
        refine (allWithin_any _ _ _ _ _ _ _ oo.ints).mono ?_
        rintro e w' ⟨rfl, rfl⟩
        clear k0 k1
        obtain ⟨k0, k1⟩ := box_cells s3
        rw [HZ.out]
        go_wp2_with fail
        go_ret
        exact ⟨ret_bool HR.out.symm, t3⟩
      · have HR : Hid (rIsCirc net zs = true) := Lib.hid (by unfold rIsCirc; rw [hv, hf, h.nodes.len, h.pipes.len, hZ]; rfl)
        have HZ := Lib.hid hZ
        clear hZ
        go_enter Try.func30, Try.ntmps30
        go_wp2_with fail
        refine (implIsNetwork_is _ _ _ _ _ _ net _ _ (h.later HB.out) hv).mono ?_
        rintro e w1 ⟨rfl, b1⟩
        have t1 := below_step HB.out b1
        have s1 := b1
        obtain ⟨k0, k1⟩ := box_cells s1
        go_wp2_with fail
        refine (isFlowList_is _ _ _ _ _ _ _ _ _ net _ _ _ (h.later t1) (hz.later t1) hf).mono ?_
        rintro e w2 ⟨rfl, b2⟩
        clear k0 k1
        have t2 := below_step t1 b2
        have s2 := below_step s1 b2
        obtain ⟨k0, k1⟩ := box_cells s2
        go_wp2_with fail
        refine (outflows_any _ _ _ _ _ _ net _ _ _ zs _ (h.later t2) (hz.later t2) hv hf).mono ?_
        rintro e w3 ⟨Ao, co, rfl, oo, fo, b3⟩
        clear k0 k1
        have t3 := below_step t2 b3
        have s3 := below_step s2 b3
        obtain ⟨k0, k1⟩ := box_cells s3
        go_wp2_with fail
        refine (allWithin_any _ _ _ _ _ _ _ oo.ints).mono ?_
        rintro e w' ⟨rfl, rfl⟩
        clear k0 k1
        obtain ⟨k0, k1⟩ := box_cells s3
        rw [HZ.out]
        go_wp2_with fail
        go_ret
        exact ⟨ret_bool HR.out.symm, t3⟩

/-! ### FromChords -/
theorem own_fc0 {net : Net} {zs : List Int} {m c : Nat} {w : World} {A : Option Addr} (hm : net.pipes.length = m) (h : Own w A m c (List.replicate m 0)) : Own w A m c (fcK net zs 0) := by
  have e : fcK net zs 0 = List.replicate m 0 := by show List.replicate net.pipes.length 0 = _; rw [hm]
  rw [e]; exact h
theorem fc_bnd {net : Net} {zs : List Int} (ok : NetOK net) (hz : allB zs (-30000) 30000 = true) {k : Nat} (hk : k ≤ 40) (j : Nat) : -1200000 ≤ ig (fcK net zs k) j ∧ ig (fcK net zs k) j ≤ 1200000 := by
  have h1 : ∀ j, -30000 ≤ ig zs j ∧ ig zs j ≤ 30000 := fun j => by
    rcases Nat.lt_or_ge j zs.length with hj | hj
    · exact allB_at hz j hj
    · rw [ig_ge hj]; omega
  have := fcK_bnd ok h1 k j
  have h2 : (30000 : Int) * k ≤ 1200000 := by omega
  omega
/-- the inner loop: the first i pipes have been added -/
def fcM (fs cs : List Int) (a : Int) (i : Nat) : List Int := mapTo fs.length (fun j => if j < i then ig fs j + a * ig cs j else ig fs j)
theorem fcM_zero (fs cs : List Int) (a : Int) : fcM fs cs a 0 = fs := ext_ig (mapTo_len _ _) fun j hj => by rw [fcM, mapTo_len] at hj; rw [fcM, mapTo_ig hj]; simp
theorem fcM_set {fs cs : List Int} {a : Int} {k : Nat} : (fcM fs cs a k).set k (ig fs k + a * ig cs k) = fcM fs cs a (k + 1) := mapTo_set fun v _ => by
  by_cases e : k = v
  · subst e; rw [if_pos rfl, if_pos (by omega)]
  · rw [if_neg e]
    by_cases h : v < k
    · rw [if_pos h, if_pos (by omega)]
    · rw [if_neg h, if_neg (by omega)]
theorem fcM_end {fs cs : List Int} {a : Int} {k : Nat} (h : fs.length ≤ k) : fcM fs cs a k = addL fs cs a := List.map_congr_left fun v hv => by
  have := List.mem_range.1 hv
  rw [if_pos (by omega)]
theorem fcM_at {fs cs : List Int} {a : Int} {k : Nat} (h : k < fs.length) : ig (fcM fs cs a k) k = ig fs k := by rw [fcM, mapTo_ig h, if_neg (by omega)]

structure FcOK (net : Net) (zs : List Int) (k : Nat) : Prop where
  bnd : ∀ j, -(30000 * (k : Int)) ≤ ig (fcK net zs k) j ∧ ig (fcK net zs k) j ≤ 30000 * k
  rng : ∀ j, j < k → inB (ig zs j) (-30000) 30000 = true
theorem FcOK.zero (net : Net) (zs : List Int) : FcOK net zs 0 := ⟨fun j => by
    have : ig (fcK net zs 0) j = 0 := by
      unfold fcK ig
      rw [List.getD_eq_getElem?_getD]
      by_cases h : j < net.pipes.length
      · rw [List.getElem?_eq_getElem (by simpa using h)]; simp
      · rw [List.getElem?_eq_none (by simpa using h)]; rfl
    rw [this]; omega, fun j h => absurd h (by omega)⟩
theorem FcOK.succ {net : Net} {zs : List Int} {k q : Nat} (ok : NetOK net) (hq : (netG net).chords[k]? = some q) (h : FcOK net zs k) (hz : inB (ig zs k) (-30000) 30000 = true) : FcOK net zs (k + 1) := ⟨fun j => by
    have h1 := h.bnd j
    have h2 := inB_iff'.1 hz
    rw [fcK_succ hq, addL_ig' (by rw [cycL_len, fcK_len])]
    rcases (cycL_cyc ok (chord_mem hq)).u j with hu | hu | hu <;> rw [hu] <;> omega, fun j hj => by
    by_cases e : j = k
    · rw [e]; exact hz
    · exact h.rng j (by omega)⟩
theorem fc_two {net : Net} {zs : List Int} (hv : netB net = true) (hl : zs.length = (netG net).chords.length) (h : allB zs (-30000) 30000 = false ∨ allB (fcK net zs (netG net).chords.length) (-30000) 30000 = false) : rFromChords net zs = ([], 2) := by
  unfold rFromChords
  rw [hv, if_pos rfl, if_pos hl]
  cases hA : allB zs (-30000) 30000
  · rfl
  · rw [if_pos rfl]
    rcases h with h | h
    · rw [hA] at h; cases h
    · rw [h]; rfl
theorem fc_at {zs : List Int} {k : Nat} (hk : k < zs.length) (h : inB (ig zs k) (-30000) 30000 = false) : allB zs (-30000) 30000 = false := by
  cases hA : allB zs (-30000) 30000
  · rfl
  · rw [inB_iff'.2 (allB_at hA k hk)] at h; cases h
theorem fc_fin {net : Net} {zs : List Int} (hv : netB net = true) (hl : zs.length = (netG net).chords.length) (hA : ∀ j, j < zs.length → inB (ig zs j) (-30000) 30000 = true) (h : allB (fcK net zs (netG net).chords.length) (-30000) 30000 = true) : rFromChords net zs = (fcK net zs (netG net).chords.length, 0) := by
  unfold rFromChords
  rw [hv, if_pos rfl, if_pos hl, allB_yes (k := zs.length) (Nat.le_refl _) hA, if_pos rfl, h, if_pos rfl]
theorem fc_flow (net : Net) (zs : List Int) (k : Nat) : flowB net (fcK net zs k) = allB (fcK net zs k) (-30000) 30000 := by
  unfold flowB
  rw [fcK_len]; simp

end Go.Proofs.Ytioiebjgjimeiaa
