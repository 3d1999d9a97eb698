/- checks: nodes, levels, connected networks; IsEven -/
import Derived.Test.YtioiebjgjimeiaaI2
namespace Go.Proofs.Ytioiebjgjimeiaa
open Go.RowKit

def rIsEven (net : Net) (zs : List Int) : Bool := netB net && supB net zs && evB net zs

set_option maxHeartbeats 2000000 in
theorem implIsEven_any (A : Option Addr) (n c : Nat) (B : Option Addr) (m d : Nat) (net : Net) (C : Option Addr) (l e : Nat) (zs : List Int) (w : World) (h : NetAt w A n c B m d net) (hz : Ints w C l e zs) :
    Calls Try.prog 28 #[.agg #[.slice A n c, .slice B m d], .slice C l e] w fun e w' => e = .returned (.bool (rIsEven net zs)) ∧ Below w.heap.size w w' := by
  have HB := Lib.hid (bel1 w (.cells #[.slice A n c, .slice B m d] 27))
  rcases hv : netB net with _ | _
  · have HR : Hid (rIsEven net zs = false) := Lib.hid (by unfold rIsEven; rw [hv]; rfl)
    go_enter Try.func28, Try.ntmps28
    go_wp2_with fail
    refine (implIsNetwork_is _ _ _ _ _ _ net _ _ (h.later HB.out) hv).mono ?_
    rintro e w1 ⟨rfl, b1⟩
    have t1 := below_step HB.out b1
    have s1 := b1
    obtain ⟨k0, k1⟩ := box_cells s1
    go_wp2_with fail
    go_ret
    exact ⟨ret_bool HR.out.symm, t1⟩
  · rcases hs : supB net zs with _ | _
    · have HR : Hid (rIsEven net zs = false) := Lib.hid (by unfold rIsEven; rw [hv, hs]; rfl)
      go_enter Try.func28, Try.ntmps28
      go_wp2_with fail
      refine (implIsNetwork_is _ _ _ _ _ _ net _ _ (h.later HB.out) hv).mono ?_
      rintro e w1 ⟨rfl, b1⟩
      have t1 := below_step HB.out b1
      have s1 := b1
      obtain ⟨k0, k1⟩ := box_cells s1
      go_wp2_with fail
      refine (areSupplies_is _ _ _ _ _ _ _ _ _ net zs _ _ (h.later t1) (hz.later t1) hs).mono ?_
      rintro e w2 ⟨rfl, b2⟩
      clear k0 k1
      have t2 := below_step t1 b2
      have s2 := below_step s1 b2
      obtain ⟨k0, k1⟩ := box_cells s2
      go_wp2_with fail
      go_ret
      exact ⟨ret_bool HR.out.symm, t2⟩
    · have HR : Hid (rIsEven net zs = evB net zs) := Lib.hid (by unfold rIsEven; rw [hv, hs]; rfl)
      obtain ⟨b, hE⟩ : ∃ b, evB net zs = b := ⟨_, rfl⟩
      rw [hE] at HR
      go_enter Try.func28, Try.ntmps28
      go_wp2_with fail
      refine (implIsNetwork_is _ _ _ _ _ _ net _ _ (h.later HB.out) hv).mono ?_
      rintro e w1 ⟨rfl, b1⟩
      have t1 := below_step HB.out b1
      have s1 := b1
      obtain ⟨k0, k1⟩ := box_cells s1
      go_wp2_with fail
      refine (areSupplies_is _ _ _ _ _ _ _ _ _ net zs _ _ (h.later t1) (hz.later t1) hs).mono ?_
      rintro e w2 ⟨rfl, b2⟩
      clear k0 k1
      have t2 := below_step t1 b2
      have s2 := below_step s1 b2
      obtain ⟨k0, k1⟩ := box_cells s2
      go_wp2_with fail
      refine (isEven_is _ _ _ _ _ _ net _ _ _ zs _ _ (h.later t2) (hz.later t2) (NetOK.of hv) hs hE).mono ?_
      rintro e w3 ⟨rfl, b3⟩
      clear k0 k1
      have t3 := below_step t2 b3
      have s3 := below_step s2 b3
      obtain ⟨k0, k1⟩ := box_cells s3
      go_wp2_with fail
      go_ret
      exact ⟨ret_bool HR.out.symm, t3⟩

set_option maxHeartbeats 2000000 in
theorem specIsEven_any (A : Option Addr) (n c : Nat) (B : Option Addr) (m d : Nat) (net : Net) (C : Option Addr) (l e : Nat) (zs : List Int) (w : World) (h : NetAt w A n c B m d net) (hz : Ints w C l e zs) :
    Calls Try.prog 19 #[.agg #[.slice A n c, .slice B m d], .slice C l e] w fun e w' => e = .returned (.bool (rIsEven net zs)) ∧ Below w.heap.size w w' := by
  have HB := Lib.hid (bel1 w (.cells #[.slice A n c, .slice B m d] 27))
  rcases hv : netB net with _ | _
  · have HR : Hid (rIsEven net zs = false) := Lib.hid (by unfold rIsEven; rw [hv]; rfl)
    go_enter Try.func19, Try.ntmps19
    go_wp2_with fail
    refine (specIsNetwork_is _ _ _ _ _ _ net _ _ (h.later HB.out) hv).mono ?_
    rintro e w1 ⟨rfl, b1⟩
    have t1 := below_step HB.out b1
    have s1 := b1
    obtain ⟨k0, k1⟩ := box_cells s1
    go_wp2_with fail
    go_ret
    exact ⟨ret_bool HR.out.symm, t1⟩
  · rcases hs : supB net zs with _ | _
    · have HR : Hid (rIsEven net zs = false) := Lib.hid (by unfold rIsEven; rw [hv, hs]; rfl)
      go_enter Try.func19, Try.ntmps19
      go_wp2_with fail
      refine (specIsNetwork_is _ _ _ _ _ _ net _ _ (h.later HB.out) hv).mono ?_
      rintro e w1 ⟨rfl, b1⟩
      have t1 := below_step HB.out b1
      have s1 := b1
      obtain ⟨k0, k1⟩ := box_cells s1
      go_wp2_with fail
      refine (l06List_is _ _ _ _ _ _ _ _ _ net zs _ _ (h.later t1) (hz.later t1) hs).mono ?_
      rintro e w2 ⟨rfl, b2⟩
      clear k0 k1
      have t2 := below_step t1 b2
      have s2 := below_step s1 b2
      obtain ⟨k0, k1⟩ := box_cells s2
      go_wp2_with fail
      go_ret
      exact ⟨ret_bool HR.out.symm, t2⟩
    · have HR : Hid (rIsEven net zs = evB net zs) := Lib.hid (by unfold rIsEven; rw [hv, hs]; rfl)
      obtain ⟨b, hE⟩ : ∃ b, evB net zs = b := ⟨_, rfl⟩
      rw [hE] at HR
      go_enter Try.func19, Try.ntmps19
      go_wp2_with fail
      refine (specIsNetwork_is _ _ _ _ _ _ net _ _ (h.later HB.out) hv).mono ?_
      rintro e w1 ⟨rfl, b1⟩
      have t1 := below_step HB.out b1
      have s1 := b1
      obtain ⟨k0, k1⟩ := box_cells s1
      go_wp2_with fail
      refine (l06List_is _ _ _ _ _ _ _ _ _ net zs _ _ (h.later t1) (hz.later t1) hs).mono ?_
      rintro e w2 ⟨rfl, b2⟩
      clear k0 k1
      have t2 := below_step t1 b2
      have s2 := below_step s1 b2
      obtain ⟨k0, k1⟩ := box_cells s2
      go_wp2_with fail
      refine (l06Even_is _ _ _ _ _ _ net _ _ _ zs _ _ (h.later t2) (hz.later t2) (NetOK.of hv) hs hE).mono ?_
      rintro e w3 ⟨rfl, b3⟩
      clear k0 k1
      have t3 := below_step t2 b3
      have s3 := below_step s2 b3
      obtain ⟨k0, k1⟩ := box_cells s3
      go_wp2_with fail
      go_ret
      exact ⟨ret_bool HR.out.symm, t3⟩

def levB (x : Int) : Bool := inB x (-500000000000000000) 500000000000000000
theorem levB_lim {x : Int} (h : levB x = true) : -500000000000000000 ≤ x ∧ x ≤ 500000000000000000 := by unfold levB inB at h; simp at h; exact h
set_option maxHeartbeats 1000000 in
theorem isLevel_is (x : Int) (b : Bool) (w : World) (hb : levB x = b) : Calls Try.prog 107 #[.int .i64 x] w fun e w' => e = .returned (.bool b) ∧ w = w' := by
  go_enter Try.func107, Try.ntmps107
  go_wp2_with fail
  refine (within_is _ _ _ _ _ hb).mono ?_
  rintro e w' ⟨rfl, rfl⟩
  go_wp2_with fail
  go_ret
  exact ⟨rfl, rfl⟩

set_option maxHeartbeats 1000000 in
theorem l07Level_is (x : Int) (b : Bool) (w : World) (hb : levB x = b) : Calls Try.prog 102 #[.int .i64 x] w fun e w' => e = .returned (.bool b) ∧ w = w' := by
  go_enter Try.func102, Try.ntmps102
  go_wp2_with fail
  refine (l01In_any _ _ _ _).mono ?_
  rintro e w' ⟨rfl, rfl⟩
  rw [show inB x (-500000000000000000) 500000000000000000 = b from hb]
  go_wp2_with fail
  go_ret
  exact ⟨rfl, rfl⟩

/-- the code of a network and nodes -/
def codeN (net : Net) (xs : List Int) : Int := if netB net then (if allB xs 0 ((net.nodes.length : Int) - 1) then 0 else 2) else 1

set_option maxHeartbeats 2000000 in
theorem checkNodes_is (A : Option Addr) (n c : Nat) (B : Option Addr) (m d : Nat) (net : Net) (C : Option Addr) (l e : Nat) (xs : List Int) (r : Int) (w : World) (h : NetAt w A n c B m d net) (hz : Ints w C l e xs) (hr : codeN net xs = r) :
    Calls Try.prog 160 #[.agg #[.slice A n c, .slice B m d], .slice C l e] w fun e w' => e = .returned (.int .i64 r) ∧ Below w.heap.size w w' := by
  have HB := Lib.hid (bel1 w (.cells #[.slice A n c, .slice B m d] 27))
  rcases hv : netB net with _ | _
  · have HR : Hid (1 = r) := Lib.hid (by rw [← hr]; unfold codeN; rw [hv]; rfl)
    clear hr
    go_enter Try.func160, Try.ntmps160
    go_wp2_with fail
    refine (implIsNetwork_is _ _ _ _ _ _ net _ _ (h.later HB.out) hv).mono ?_
    rintro e w1 ⟨rfl, b1⟩
    go_wp2_with fail
    go_ret
    exact ⟨ret_int HR.out, below_step HB.out b1⟩
  · have hnl := h.nodes.len
    have HA : Hid ((if allB xs 0 ((n : Int) - 1) then 0 else 2) = r) := Lib.hid (by rw [← hr]; unfold codeN; rw [hv, hnl]; rfl)
    have hn24 : n ≤ 24 := by have := (netB_sizes hv).2.1; omega
    have hlen := Lib.hid hz.len
    have hzle := hz.le
    have hzcap := hz.cap
    clear hr hnl
    go_enter Try.func160, Try.ntmps160
    go_wp2_with fail
    refine (implIsNetwork_is _ _ _ _ _ _ net _ _ (h.later HB.out) hv).mono ?_
    rintro e w1 ⟨rfl, b1⟩
    have t1 := below_step HB.out b1
    go_wp2_with fail
    go_loopw [12] (fun i wr => ∃ k : Nat, k ≤ l ∧ i = .int .i64 k ∧ Hid (∀ j, j < k → inB (ig xs j) 0 ((n : Int) - 1) = true) ∧ Below (w.alloc (.cells #[.slice A n c, .slice B m d] 27)).heap.size (w.alloc (.cells #[.slice A n c, .slice B m d] 27)) wr) (fun i _ => l - (intOf i).toNat)
    case atStart => exact ⟨0, by omega, rfl, Lib.hid (fun j hj => absurd hj (by omega)), b1⟩
    case round =>
      obtain ⟨k, hk, rfl, hq, hb⟩ := hrel
      have tw := below_step HB.out hb
      by_cases hlt : k < l
      · obtain ⟨bb, off, rfl, hbl, hc⟩ := (hz.later tw).cells (by omega)
        have hck := hc k hlt
        obtain ⟨k0, k1⟩ := box_cells hb
        clear hc
        rcases hin : inB (ig xs k) 0 ((n : Int) - 1) with _ | _
        · have HR : Hid (2 = r) := Lib.hid (by rw [← HA.out, allB_no (k := k) (by rw [hlen.out]; exact hlt) hin]; rfl)
          go_wp2_with fail
          refine (isNodeOf_is _ _ _ _ _ _ _ _ _ (by omega) hin).mono ?_
          rintro e w2 ⟨rfl, b2⟩
          go_wp2_with fail
          go_ret
          exact ⟨ret_int HR.out, below_step tw b2⟩
        · go_wp2_with fail
          refine (isNodeOf_is _ _ _ _ _ _ _ _ _ (by omega) hin).mono ?_
          rintro e w2 ⟨rfl, b2⟩
          go_wp2_with fail
          go_roundw
          case rel => exact ⟨k + 1, by omega, by go_num, Lib.hid (fun j hj => by
            rcases Nat.lt_or_ge j k with h' | h'
            · exact hq.out j h'
            · have : j = k := by omega
              subst this; exact hin), below_step hb b2⟩
          case measure => simp [intOf]; omega
      · have HR : Hid (0 = r) := Lib.hid (by rw [← HA.out, allB_yes (k := k) (by rw [hlen.out]; omega) hq.out]; rfl)
        go_wp2_with fail
        go_ret
        exact ⟨ret_int HR.out, tw⟩

/-- the code of a network that must be connected, a flow list, a level and nodes -/
def codeT (net : Net) (zs : List Int) (level : Int) (xs : List Int) : Int :=
  if codeF net zs = 0 then (if allB xs 0 ((net.nodes.length : Int) - 1) && levB level then (if (netG net).conn then 0 else 5) else 2) else codeF net zs
theorem codeT_cases (net : Net) (zs : List Int) (level : Int) (xs : List Int) :
    (codeF net zs ≠ 0 ∧ codeT net zs level xs = codeF net zs) ∨ (codeF net zs = 0 ∧ codeN net xs = 2 ∧ codeT net zs level xs = 2) ∨ (codeF net zs = 0 ∧ codeN net xs = 0 ∧ allB xs 0 ((net.nodes.length : Int) - 1) = true ∧ levB level = false ∧ codeT net zs level xs = 2) ∨
    (codeF net zs = 0 ∧ codeN net xs = 0 ∧ allB xs 0 ((net.nodes.length : Int) - 1) = true ∧ levB level = true ∧ (netG net).conn = false ∧ codeT net zs level xs = 5) ∨ (codeF net zs = 0 ∧ codeN net xs = 0 ∧ allB xs 0 ((net.nodes.length : Int) - 1) = true ∧ levB level = true ∧ (netG net).conn = true ∧ codeT net zs level xs = 0) := by
  by_cases h0 : codeF net zs = 0
  · have hv := (codeF_zero h0).1
    unfold codeT codeN
    rw [if_pos h0, hv]
    cases h1 : allB xs 0 ((net.nodes.length : Int) - 1) <;> cases h2 : levB level <;> cases h3 : (netG net).conn <;> simp [h0]
  · exact .inl ⟨h0, by unfold codeT; rw [if_neg h0]⟩
theorem codeT_zero {net : Net} {zs : List Int} {level : Int} {xs : List Int} (h : codeT net zs level xs = 0) : netB net = true ∧ flowB net zs = true ∧ allB xs 0 ((net.nodes.length : Int) - 1) = true ∧ levB level = true ∧ (netG net).conn = true := by
  rcases codeT_cases net zs level xs with ⟨h0, e⟩ | ⟨h0, h1, e⟩ | ⟨h0, h1, h2, h3, e⟩ | ⟨h0, h1, h2, h3, h4, e⟩ | ⟨h0, h1, h2, h3, h4, e⟩
  · rw [e] at h; exact absurd h h0
  · omega
  · omega
  · omega
  · exact ⟨(codeF_zero h0).1, (codeF_zero h0).2, h2, h3, h4⟩

set_option maxHeartbeats 2000000 in
theorem checkForest_is (A : Option Addr) (n c : Nat) (B : Option Addr) (m d : Nat) (net : Net) (C : Option Addr) (l e : Nat) (zs : List Int) (level : Int) (C2 : Option Addr) (l2 e2 : Nat) (zs2 : List Int) (r : Int) (w : World) (h : NetAt w A n c B m d net) (hz : Ints w C l e zs) (hz2 : Ints w C2 l2 e2 zs2) (hr : codeT net zs level zs2 = r) :
    Calls Try.prog 95 #[.agg #[.slice A n c, .slice B m d], .slice C l e, .int .i64 level, .slice C2 l2 e2] w fun e w' => e = .returned (.int .i64 r) ∧ Below w.heap.size w w' := by
  have HB := Lib.hid (bel1 w (.cells #[.slice A n c, .slice B m d] 27))
  rcases codeT_cases net zs level zs2 with ⟨hF0, e⟩ | ⟨hF, hN, e⟩ | ⟨hF, hN, _, hL, e⟩ | ⟨hF, hN, _, hL, hC, e⟩ | ⟨hF, hN, _, hL, hC, e⟩
  · obtain ⟨k, hF⟩ : ∃ k, codeF net zs = k := ⟨_, rfl⟩
    have HR : Hid (k = r) := Lib.hid (by rw [← hr, e, hF])
    have hne : (k != 0) = true := by rw [hF] at hF0; simp [hF0]
    clear hr e hF0
    go_enter Try.func95, Try.ntmps95
    go_wp2_with fail
    refine (checkFlows_is _ _ _ _ _ _ _ _ _ net zs _ _ (h.later HB.out) (hz.later HB.out) hF).mono ?_
    rintro e w1 ⟨rfl, b1⟩
    have t1 := below_step HB.out b1
    have s1 := b1
    obtain ⟨k0, k1⟩ := box_cells s1
    go_wp2_with fail
    go_ret
    exact ⟨ret_int HR.out, t1⟩
  · have HR : Hid (2 = r) := Lib.hid (by rw [← hr, e])
    clear hr e
    go_enter Try.func95, Try.ntmps95
    go_wp2_with fail
    refine (checkFlows_is _ _ _ _ _ _ _ _ _ net zs _ _ (h.later HB.out) (hz.later HB.out) hF).mono ?_
    rintro e w1 ⟨rfl, b1⟩
    have t1 := below_step HB.out b1
    have s1 := b1
    obtain ⟨k0, k1⟩ := box_cells s1
    go_wp2_with fail
    refine (checkNodes_is _ _ _ _ _ _ net _ _ _ zs2 _ _ (h.later t1) (hz2.later t1) hN).mono ?_
    rintro e w2 ⟨rfl, b2⟩
    clear k0 k1
    have t2 := below_step t1 b2
    have s2 := below_step s1 b2
    obtain ⟨k0, k1⟩ := box_cells s2
    go_wp2_with fail
    go_ret
    exact ⟨ret_int HR.out, t2⟩
  · have HR : Hid (2 = r) := Lib.hid (by rw [← hr, e])
    clear hr e
    go_enter Try.func95, Try.ntmps95
    go_wp2_with fail
    refine (checkFlows_is _ _ _ _ _ _ _ _ _ net zs _ _ (h.later HB.out) (hz.later HB.out) hF).mono ?_
    rintro e w1 ⟨rfl, b1⟩
    have t1 := below_step HB.out b1
    have s1 := b1
    obtain ⟨k0, k1⟩ := box_cells s1
    go_wp2_with fail
    refine (checkNodes_is _ _ _ _ _ _ net _ _ _ zs2 _ _ (h.later t1) (hz2.later t1) hN).mono ?_
    rintro e w2 ⟨rfl, b2⟩
    clear k0 k1
    have t2 := below_step t1 b2
    have s2 := below_step s1 b2
    obtain ⟨k0, k1⟩ := box_cells s2
    go_wp2_with fail
    refine (isLevel_is _ _ _ hL).mono ?_
    rintro e w' ⟨rfl, rfl⟩
    clear k0 k1
    obtain ⟨k0, k1⟩ := box_cells s2
    go_wp2_with fail
    go_ret
    exact ⟨ret_int HR.out, t2⟩
  · have HR : Hid (5 = r) := Lib.hid (by rw [← hr, e])
    have hv := (codeF_zero hF).1
    clear hr e
    go_enter Try.func95, Try.ntmps95
    go_wp2_with fail
    refine (checkFlows_is _ _ _ _ _ _ _ _ _ net zs _ _ (h.later HB.out) (hz.later HB.out) hF).mono ?_
    rintro e w1 ⟨rfl, b1⟩
    have t1 := below_step HB.out b1
    have s1 := b1
    obtain ⟨k0, k1⟩ := box_cells s1
    go_wp2_with fail
    refine (checkNodes_is _ _ _ _ _ _ net _ _ _ zs2 _ _ (h.later t1) (hz2.later t1) hN).mono ?_
    rintro e w2 ⟨rfl, b2⟩
    clear k0 k1
    have t2 := below_step t1 b2
    have s2 := below_step s1 b2
    obtain ⟨k0, k1⟩ := box_cells s2
    go_wp2_with fail
    refine (isLevel_is _ _ _ hL).mono ?_
    rintro e w' ⟨rfl, rfl⟩
    clear k0 k1
    obtain ⟨k0, k1⟩ := box_cells s2
    go_wp2_with fail
    refine (isConnected_is _ _ _ _ _ _ net _ _ (h.later t2) (NetOK.of hv) hC).mono ?_
    rintro e w4 ⟨rfl, b4⟩
    clear k0 k1
    have t4 := below_step t2 b4
    have s4 := below_step s2 b4
    obtain ⟨k0, k1⟩ := box_cells s4
    go_wp2_with fail
    go_ret
    exact ⟨ret_int HR.out, t4⟩
  · have HR : Hid (0 = r) := Lib.hid (by rw [← hr, e])
    have hv := (codeF_zero hF).1
    clear hr e
    go_enter Try.func95, Try.ntmps95
    go_wp2_with fail
    refine (checkFlows_is _ _ _ _ _ _ _ _ _ net zs _ _ (h.later HB.out) (hz.later HB.out) hF).mono ?_
    rintro e w1 ⟨rfl, b1⟩
    have t1 := below_step HB.out b1
    have s1 := b1
    obtain ⟨k0, k1⟩ := box_cells s1
    go_wp2_with fail
    refine (checkNodes_is _ _ _ _ _ _ net _ _ _ zs2 _ _ (h.later t1) (hz2.later t1) hN).mono ?_
    rintro e w2 ⟨rfl, b2⟩
    clear k0 k1
    have t2 := below_step t1 b2
    have s2 := below_step s1 b2
    obtain ⟨k0, k1⟩ := box_cells s2
    go_wp2_with fail
    refine (isLevel_is _ _ _ hL).mono ?_
    rintro e w' ⟨rfl, rfl⟩
    clear k0 k1
    obtain ⟨k0, k1⟩ := box_cells s2
    go_wp2_with fail
    refine (isConnected_is _ _ _ _ _ _ net _ _ (h.later t2) (NetOK.of hv) hC).mono ?_
    rintro e w4 ⟨rfl, b4⟩
    clear k0 k1
    have t4 := below_step t2 b4
    have s4 := below_step s2 b4
    obtain ⟨k0, k1⟩ := box_cells s4
    go_wp2_with fail
    go_ret
    exact ⟨ret_int HR.out, t4⟩

end Go.Proofs.Ytioiebjgjimeiaa
