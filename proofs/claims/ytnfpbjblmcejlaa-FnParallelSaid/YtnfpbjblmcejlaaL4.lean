/- the law FnParallel -/
import Derived.Test.YtnfpbjblmcejlaaE
import Derived.Test.YtnfpbjblmcejlaaDr9
namespace Go.Proofs.Ytnfpbjblmcejlaa
open Go.RowKit

set_option maxHeartbeats 400000 in
theorem big_any (A : Option Addr) (n c : Nat) (w : World) :
    Calls Try.prog 24 #[.slice A n c] w fun e w' => e = .returned (.bool (decide (4096 < n))) ∧ w = w' := by
  by_cases h : 4096 < n
  · go_enter Try.func24, Try.ntmps24
    go_wp2_with fail
    go_ret
    exact ⟨ret_bool (by simp [h]; omega), rfl⟩
  · go_enter Try.func24, Try.ntmps24
    go_wp2_with fail
    go_ret
    exact ⟨ret_bool (by simp [h]; omega), rfl⟩

theorem par_zero {zs : List Int} (hr : Res zs) (hn : zs.length ≤ 8) : par zs 0 = 0 := by
  rw [par_eq hr hn (by omega) (by omega)]
  have : ∀ zs : List Int, sum0 (drv zs 0) = 0 := by
    intro zs
    induction zs with
    | nil => rfl
    | cons z zs ih =>
      have e : rt 0 = 0 := (rt_unique (by omega) (by omega) (by omega)).symm
      simp only [drv, List.map_cons, sum0_cons, Int.zero_ediv, e] at ih ⊢
      omega
  exact this zs

set_option maxHeartbeats 2000000 in
theorem lawParallel_any (A : Option Addr) (n c : Nat) (bs : List Int) (w : World) (h : Bytes w A n c bs) :
    Calls Try.prog 9 #[.slice A n c] w fun e w' => e = .returned (.bool true) ∧ Below w.heap.size w w' := by
  by_cases hbig : 4096 < n
  · have hb' : decide (4096 < n) = true := by simp [hbig]
    go_enter Try.func9, Try.ntmps9
    go_wp2_with (go_at_call 24; refine (big_any _ _ _ _).mono ?_; rintro e w' ⟨rfl, rfl⟩)
    go_ret
    exact ⟨rfl, Below.refl _ _⟩
  · have hb' : decide (4096 < n) = false := by simp [hbig]
    go_enter Try.func9, Try.ntmps9
    go_wp2_with fail
    refine (big_any _ _ _ _).mono ?_
    rintro e w' ⟨rfl, rfl⟩
    go_wp2_with fail
    refine (DrawDropFor_any _ _ _ _ _ h).mono ?_
    rintro e w1 ⟨A1, n1, c1, zs, f, rfl, o1, hn1, hf, b1⟩
    obtain ⟨d, hd0⟩ := isDrop_ex zs f
    have hd := Lib.hid hd0
    clear hd0
    go_wp2_with fail
    refine (implDropFor_any _ _ _ _ _ d _ o1.ints hd.out).mono ?_
    rintro e w2 ⟨rfl, b2⟩
    have i2 := o1.ints.later b2
    go_wp2_with fail
    refine (specDropFor_any _ _ _ _ _ d _ i2 hd.out).mono ?_
    rintro e w' ⟨rfl, rfl⟩
    by_cases hok : (dropR zs f d).2 = 0
    · have hz : codeR zs = 0 := by
        unfold dropR at hok
        split at hok
        · assumption
        · exact absurd hok ‹_›
      have hfb : inB f 0 30000 = true := by
        unfold dropR at hok
        rw [if_pos hz] at hok
        split at hok
        · assumption
        · simp at hok
      have hL := hd.out hz hfb
      obtain ⟨l1, l8, hr⟩ := codeR_ok hz
      obtain ⟨f0, f1⟩ := inB_iff.1 hfb
      obtain ⟨d0, d1⟩ := hL.bound hr l1 f0 f1
      have E := dropR_ok (d := d) hz hfb
      have hdin : inB d 0 1000000000000000000 = true := inB_iff.2 ⟨d0, by omega⟩
      have EP := parR_ok hz hdin
      have hge := hL.2.2.1
      clear hok hfb
      rw [E]
      have Hz := Lib.hid hz
      clear hz E
      go_wp2_with fail
      refine (implParallel_any _ _ _ _ _ _ i2).mono ?_
      rintro e w3 ⟨rfl, b3⟩
      rw [EP]
      clear EP
      have i3 := i2.later b3
      by_cases hd0 : d = 0
      · have hf0 : f = 0 := by subst hd0; rw [par_zero hr l8] at hge; omega
        subst hd0
        subst hf0
        go_wp2_with fail
        go_ret
        exact ⟨rfl, below_step (below_step b1 b2) b3⟩
      · have hd0' : (d == 0) = false := by simp [hd0]
        have EP2 := Lib.hid (parR_ok Hz.out (show inB (d - 1) 0 1000000000000000000 = true from inB_iff.2 ⟨by omega, by omega⟩))
        have hlt := hL.2.2.2 (d - 1) (by omega) (by omega)
        clear hd0
        go_wp2_with fail
        refine (implParallel_any _ _ _ _ _ _ i3).mono ?_
        rintro e w4 ⟨rfl, b4⟩
        rw [EP2.out]
        go_wp2_with fail
        go_ret
        exact ⟨rfl, below_step (below_step (below_step b1 b2) b3) b4⟩
    · have hne : ((dropR zs f d).2 != 0) = true := by simp [hok]
      clear hok
      go_wp2_with fail
      go_ret
      exact ⟨rfl, below_step b1 b2⟩
end Go.Proofs.Ytnfpbjblmcejlaa
