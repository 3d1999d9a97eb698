/- checks: nodes, levels, connected networks; IsEven -/
import Derived.Test.YtfiikbcffpcbkaaI2
namespace Go.Proofs.Ytfiikbcffpcbkaa
open Go.RowKit

def rIsEven (net : Net) (zs : List Int) : Bool := netB net && supB net zs && evB net zs

set_option maxHeartbeats 2000000 in
theorem implIsEven_any (A : Option Addr) (n c : Nat) (B : Option Addr) (m d : Nat) (net : Net) (C : Option Addr) (l e : Nat) (zs : List Int) (w : World) (h : NetAt w A n c B m d net) (hz : Ints w C l e zs) :
    Calls Try.prog 31 #[.agg #[.slice A n c, .slice B m d], .slice C l e] w fun e w' => e = .returned (.bool (rIsEven net zs)) ∧ Below w.heap.size w w' := by
  have HB := Lib.hid (bel1 w (.cells #[.slice A n c, .slice B m d] 27))
  rcases hv : netB net with _ | _
  · have HR : Hid (rIsEven net zs = false) := Lib.hid (by unfold rIsEven; rw [hv]; rfl)
    go_enter Try.func31, Try.ntmps31
    go_wp2_with fail
    refine (implIsNetwork_is _ _ _ _ _ _ net _ _ (h.later HB.out) hv).mono ?_
    rintro e w1 ⟨rfl, b1⟩
    have t1 := below_step HB.out b1
    have s1 := b1
    obtain ⟨k0, k1⟩ := box_cells s1
    go_wp2_with fail
    go_ret
    exact ⟨ret_bool HR.out.symm, t1⟩
  · rcases hs : supB net zs with _ | _
    · have HR : Hid (rIsEven net zs = false) := Lib.hid (by unfold rIsEven; rw [hv, hs]; rfl)
      go_enter Try.func31, Try.ntmps31
      go_wp2_with fail
      refine (implIsNetwork_is _ _ _ _ _ _ net _ _ (h.later HB.out) hv).mono ?_
      rintro e w1 ⟨rfl, b1⟩
      have t1 := below_step HB.out b1
      have s1 := b1
      obtain ⟨k0, k1⟩ := box_cells s1
      go_wp2_with fail
      refine (areSupplies_is _ _ _ _ _ _ _ _ _ net zs _ _ (h.later t1) (hz.later t1) hs).mono ?_
      rintro e w2 ⟨rfl, b2⟩
      clear k0 k1
      have t2 := below_step t1 b2
      have s2 := below_step s1 b2
      obtain ⟨k0, k1⟩ := box_cells s2
      go_wp2_with fail
      go_ret
      exact ⟨ret_bool HR.out.symm, t2⟩
    · have HR : Hid (rIsEven net zs = evB net zs) := Lib.hid (by unfold rIsEven; rw [hv, hs]; rfl)
      obtain ⟨b, hE⟩ : ∃ b, evB net zs = b := ⟨_, rfl⟩
      rw [hE] at HR
      go_enter Try.func31, Try.ntmps31
      go_wp2_with fail
      refine (implIsNetwork_is _ _ _ _ _ _ net _ _ (h.later HB.out) hv).mono ?_
      rintro e w1 ⟨rfl, b1⟩
      have t1 := below_step HB.out b1
      have s1 := b1
      obtain ⟨k0, k1⟩ := box_cells s1
      go_wp2_with fail
      refine (areSupplies_is _ _ _ _ _ _ _ _ _ net zs _ _ (h.later t1) (hz.later t1) hs).mono ?_
      rintro e w2 ⟨rfl, b2⟩
      clear k0 k1
      have t2 := below_step t1 b2
      have s2 := below_step s1 b2
      obtain ⟨k0, k1⟩ := box_cells s2
      go_wp2_with fail
      refine (isEven_is _ _ _ _ _ _ net _ _ _ zs _ _ (h.later t2) (hz.later t2) (NetOK.of hv) hs hE).mono ?_
      rintro e w3 ⟨rfl, b3⟩
      clear k0 k1
      have t3 := below_step t2 b3
      have s3 := below_step s2 b3
      obtain ⟨k0, k1⟩ := box_cells s3
      go_wp2_with fail
      go_ret
      exact ⟨ret_bool HR.out.symm, t3⟩

set_option maxHeartbeats 2000000 in
theorem specIsEven_any (A : Option Addr) (n c : Nat) (B : Option Addr) (m d : Nat) (net : Net) (C : Option Addr) (l e : Nat) (zs : List Int) (w : World) (h : NetAt w A n c B m d net) (hz : Ints w C l e zs) :
    Calls Try.prog 32 #[.agg #[.slice A n c, .slice B m d], .slice C l e] w fun e w' => e = .returned (.bool (rIsEven net zs)) ∧ Below w.heap.size w w' := by
  have HB := Lib.hid (bel1 w (.cells #[.slice A n c, .slice B m d] 27))
  rcases hv : netB net with _ | _
  · have HR : Hid (rIsEven net zs = false) := Lib.hid (by unfold rIsEven; rw [hv]; rfl)
    go_enter Try.func32, Try.ntmps32
    go_wp2_with fail
    refine (specIsNetwork_is _ _ _ _ _ _ net _ _ (h.later HB.out) hv).mono ?_
    rintro e w1 ⟨rfl, b1⟩
    have t1 := below_step HB.out b1
    have s1 := b1
    obtain ⟨k0, k1⟩ := box_cells s1
    go_wp2_with fail
    go_ret
    exact ⟨ret_bool HR.out.symm, t1⟩
  · rcases hs : supB net zs with _ | _
    · have HR : Hid (rIsEven net zs = false) := Lib.hid (by unfold rIsEven; rw [hv, hs]; rfl)
      go_enter Try.func32, Try.ntmps32
      go_wp2_with fail
      refine (specIsNetwork_is _ _ _ _ _ _ net _ _ (h.later HB.out) hv).mono ?_
      rintro e w1 ⟨rfl, b1⟩
      have t1 := below_step HB.out b1
      have s1 := b1
      obtain ⟨k0, k1⟩ := box_cells s1
      go_wp2_with fail
      refine (l06List_is _ _ _ _ _ _ _ _ _ net zs _ _ (h.later t1) (hz.later t1) hs).mono ?_
      rintro e w2 ⟨rfl, b2⟩
      clear k0 k1
      have t2 := below_step t1 b2
      have s2 := below_step s1 b2
      obtain ⟨k0, k1⟩ := box_cells s2
      go_wp2_with fail
      go_ret
      exact ⟨ret_bool HR.out.symm, t2⟩
    · have HR : Hid (rIsEven net zs = evB net zs) := Lib.hid (by unfold rIsEven; rw [hv, hs]; rfl)
      obtain ⟨b, hE⟩ : ∃ b, evB net zs = b := ⟨_, rfl⟩
      rw [hE] at HR
      go_enter Try.func32, Try.ntmps32
      go_wp2_with fail
      refine (specIsNetwork_is _ _ _ _ _ _ net _ _ (h.later HB.out) hv).mono ?_
      rintro e w1 ⟨rfl, b1⟩
      have t1 := below_step HB.out b1
      have s1 := b1
      obtain ⟨k0, k1⟩ := box_cells s1
      go_wp2_with fail
      refine (l06List_is _ _ _ _ _ _ _ _ _ net zs _ _ (h.later t1) (hz.later t1) hs).mono ?_
      rintro e w2 ⟨rfl, b2⟩
      clear k0 k1
      have t2 := below_step t1 b2
      have s2 := below_step s1 b2
      obtain ⟨k0, k1⟩ := box_cells s2
      go_wp2_with fail
      refine (l06Even_is _ _ _ _ _ _ net _ _ _ zs _ _ (h.later t2) (hz.later t2) (NetOK.of hv) hs hE).mono ?_
      rintro e w3 ⟨rfl, b3⟩
      clear k0 k1
      have t3 := below_step t2 b3
      have s3 := below_step s2 b3
      obtain ⟨k0, k1⟩ := box_cells s3
      go_wp2_with fail
      go_ret
      exact ⟨ret_bool HR.out.symm, t3⟩

def levB (x : Int) : Bool := inB x (-500000000000000000) 500000000000000000
theorem levB_lim {x : Int} (h : levB x = true) : -500000000000000000 ≤ x ∧ x ≤ 500000000000000000 := by unfold levB inB at h; simp at h; exact h

/-- the code of a network and nodes -/
def codeN (net : Net) (xs : List Int) : Int := if netB net then (if allB xs 0 ((net.nodes.length : Int) - 1) then 0 else 2) else 1

/-- the code of a network that must be connected, a flow list, a level and nodes -/
def codeT (net : Net) (zs : List Int) (level : Int) (xs : List Int) : Int :=
  if codeF net zs = 0 then (if allB xs 0 ((net.nodes.length : Int) - 1) && levB level then (if (netG net).conn then 0 else 5) else 2) else codeF net zs
theorem codeT_cases (net : Net) (zs : List Int) (level : Int) (xs : List Int) :
    (codeF net zs ≠ 0 ∧ codeT net zs level xs = codeF net zs) ∨ (codeF net zs = 0 ∧ codeN net xs = 2 ∧ codeT net zs level xs = 2) ∨ (codeF net zs = 0 ∧ codeN net xs = 0 ∧ allB xs 0 ((net.nodes.length : Int) - 1) = true ∧ levB level = false ∧ codeT net zs level xs = 2) ∨
    (codeF net zs = 0 ∧ codeN net xs = 0 ∧ allB xs 0 ((net.nodes.length : Int) - 1) = true ∧ levB level = true ∧ (netG net).conn = false ∧ codeT net zs level xs = 5) ∨ (codeF net zs = 0 ∧ codeN net xs = 0 ∧ allB xs 0 ((net.nodes.length : Int) - 1) = true ∧ levB level = true ∧ (netG net).conn = true ∧ codeT net zs level xs = 0) := by
  by_cases h0 : codeF net zs = 0
  · have hv := (codeF_zero h0).1
    unfold codeT codeN
    rw [if_pos h0, hv]
    cases h1 : allB xs 0 ((net.nodes.length : Int) - 1) <;> cases h2 : levB level <;> cases h3 : (netG net).conn <;> simp [h0]
  · exact .inl ⟨h0, by unfold codeT; rw [if_neg h0]⟩
theorem codeT_zero {net : Net} {zs : List Int} {level : Int} {xs : List Int} (h : codeT net zs level xs = 0) : netB net = true ∧ flowB net zs = true ∧ allB xs 0 ((net.nodes.length : Int) - 1) = true ∧ levB level = true ∧ (netG net).conn = true := by
  rcases codeT_cases net zs level xs with ⟨h0, e⟩ | ⟨h0, h1, e⟩ | ⟨h0, h1, h2, h3, e⟩ | ⟨h0, h1, h2, h3, h4, e⟩ | ⟨h0, h1, h2, h3, h4, e⟩
  · rw [e] at h; exact absurd h h0
  · omega
  · omega
  · omega
  · exact ⟨(codeF_zero h0).1, (codeF_zero h0).2, h2, h3, h4⟩

end Go.Proofs.Ytfiikbcffpcbkaa
