/- the law FnExactIsWithin -/
import Derived.Test.YtlinofehnpmbgaaW
import Derived.Test.YtlinofehnpmbgaaLs
namespace Go.Proofs.Ytlinofehnpmbgaa
open Go.RowKit

set_option maxRecDepth 100000 in
set_option maxHeartbeats 2000000 in
theorem lawIsWithin_any (A : Option Addr) (n c : Nat) (B : Option Addr) (m d : Nat) (net : Net) (C : Option Addr) (l e : Nat) (zs : List Int) (w : World) (h : NetAt w A n c B m d net) (hz : Ints w C l e zs) :
    Calls Try.prog 6 #[.agg #[.slice A n c, .slice B m d], .slice C l e] w fun e w' => e = .returned (.bool true) ∧ Below w.heap.size w w' := by
  have s0 := LS.start w A n c B m d
  by_cases hl : 1048576 < l
  · go_enter Try.func6, Try.ntmps6
    go_wp2_with fail
    go_ret
    exact ⟨rfl, s0.below⟩
  · have ee := eqL_self zs
    go_enter Try.func6, Try.ntmps6
    go_wp2_with fail
    refine (szNetwork_any _ _ _ _ _ _ net _ (h.later s0.below)).mono ?_
    rintro e w1 ⟨r, rfl, hr, b1⟩
    have s1 := s0.step b1
    by_cases hr0 : r < 0
    · clear hr
      go_wp2_with fail
      go_ret
      exact ⟨rfl, s1.below⟩
    · obtain ⟨hn, hm⟩ := hr (by omega)
      have p0 := s1.c0
      have p1 := s1.c1
      clear hr
      go_wp2_with fail
      refine (toNetwork_any _ _ _ _ _ _ net _ (h.later s1.below) hn hm).mono ?_
      rintro e w2 ⟨A2, c2, B2, d2, rfl, o2, _, _, b2⟩
      have s2 := s1.step b2
      clear p0 p1
      go_wp2_with fail
      refine (toInt64S_any _ _ _ _ _ (hz.later s2.below) (by omega)).mono ?_
      rintro e w3 ⟨C3, e3, rfl, o3, _, b3⟩
      have s3 := s2.step b3
      go_wp2_with fail
      refine (specIsWithin_any _ _ _ _ _ _ _ _ _ net zs _ (o2.later b3).net o3.ints).mono ?_
      rintro e w4 ⟨rfl, b4⟩
      have s4 := s3.step b4
      have p0 := s4.c0
      have p1 := s4.c1
      go_wp2_with fail
      refine (toNetwork_any _ _ _ _ _ _ net _ (h.later s4.below) hn hm).mono ?_
      rintro e w5 ⟨A5, c5, B5, d5, rfl, o5, _, _, b5⟩
      have s5 := s4.step b5
      have b6 := bel1 w5 (.cells #[.slice A5 n c5, .slice B5 m d5] 47)
      have s6 := s5.step b6
      have x6 : BX (w5.alloc (.cells #[.slice A5 n c5, .slice B5 m d5] 47)) w5.heap.size A5 n c5 B5 m d5 := ⟨heap_alloc_new _ _⟩
      have o6 := o5.later b6
      clear p0 p1
      go_wp2_with fail
      refine (toInt64S_any _ _ _ _ _ (hz.later s6.below) (by omega)).mono ?_
      rintro e w7 ⟨C7, e7, rfl, o7, _, b7⟩
      have s7 := s6.step b7
      have x7 := x6.step b7
      have q0 := x7.c0
      have q1 := x7.c1
      have o57 := o6.later b7
      go_wp2_with fail
      refine (implIsWithin_any _ _ _ _ _ _ _ _ _ net zs _ o57.net o7.ints).mono ?_
      rintro e w8 ⟨rfl, b8⟩
      have s8 := s7.step b8
      have x8 := x7.step b8
      have o8 := o57.later b8
      have o78 := o7.later b8
      have S8 := Lib.hid s8
      have X8 := Lib.hid x8
      have p0 := s8.c0
      have p1 := s8.c1
      clear q0 q1
      have q0 := x8.c0
      have q1 := x8.c1
      have hxs := x8.lt
      go_wp2_with fail
      go_region_with (first | (go_at_call 37; refine (toNetwork_any _ _ _ _ _ _ net _ (by exact h.later s8.below.drew) hn hm).mono ?_; rintro e w9 ⟨A9, c9, B9, d9, rfl, o9, _, _, b9⟩; have x9 := X8.out.step ((Below.refl _ _).drew.trans b9); have r0 := x9.c0; have r1 := x9.c1) | (go_at_call 39; refine (eqNetwork_any _ _ _ _ _ _ _ _ _ _ net _ (by exact (o8.later ((Below.refl _ _).drew.trans b9)).net) (by exact o9.net)).mono ?_; rintro e w10 ⟨rfl, b10⟩))
      all_goals
        have t10 : Below w8.heap.size w8 w10 := below_step ((Below.refl _ _).drew.trans b9) b10
        have s10 := S8.out.step t10
        have o710 := o78.later t10
        go_wp2_with fail
        refine (toInt64S_any _ _ _ _ _ (hz.later s10.below) (by omega)).mono ?_
        rintro e w11 ⟨C11, e11, rfl, o11, _, b11⟩
        go_wp2_with fail
        refine (eqInt64S_any _ _ _ _ _ _ _ _ _ (o710.later b11).ints o11.ints).mono ?_
        rintro e w' ⟨rfl, q, rfl⟩
        go_wp2_with fail
        go_ret
        exact ⟨rfl, below_drew (s10.step b11).below _⟩

end Go.Proofs.Ytlinofehnpmbgaa
