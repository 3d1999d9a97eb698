/- the law FnExactDropOf -/
import Derived.Test.YtlinofehnpmbgaaF3
import Derived.Test.YtlinofehnpmbgaaLs
namespace Go.Proofs.Ytlinofehnpmbgaa
open Go.RowKit

set_option maxRecDepth 100000 in
set_option maxHeartbeats 8000000 in
theorem lawDropOf_any (A : Option Addr) (n c : Nat) (B : Option Addr) (m d : Nat) (net : Net) (x1 : Int) (x2 : Int) (w : World) (h : NetAt w A n c B m d net) (hx1 : I64 x1) (hx2 : I64 x2) :
    Calls Try.prog 7 #[.agg #[.slice A n c, .slice B m d], .int .i64 x1, .int .i64 x2] w fun e w' => e = .returned (.bool true) ∧ Below w.heap.size w w' := by
  have s0 := LS.start w A n c B m d
  have spec' := fun A n c B m d w h0   => specDropOf_any A n c B m d net x1 x2 w h0 hx1 hx2
  have impl' := fun A n c B m d w h0   => implDropOf_any A n c B m d net x1 x2 w h0 hx1 hx2
  obtain ⟨R, hR⟩ : ∃ R, R = (rDropOf net x1 x2).1 := ⟨_, rfl⟩
  obtain ⟨K, hK⟩ : ∃ K, K = (rDropOf net x1 x2).2 := ⟨_, rfl⟩
  simp only [← hR, ← hK] at spec' impl'
  clear hR hK
  have SP := Lib.hid spec'
  have IM := Lib.hid impl'
  clear spec' impl'
  go_enter Try.func7, Try.ntmps7
  go_wp2_with fail
  refine (szNetwork_any _ _ _ _ _ _ net _ (h.later s0.below)).mono ?_
  rintro e w1 ⟨r, rfl, hr, b1⟩
  have s1 := s0.step b1
  by_cases hr0 : r < 0
  · clear hr
    go_wp2_with fail
    go_ret
    exact ⟨rfl, s1.below⟩
  · obtain ⟨hn, hm⟩ := hr (by omega)
    clear hr
    have p0 := s1.c0
    have p1 := s1.c1
    go_wp2_with fail
    refine (toNetwork_any _ _ _ _ _ _ net _ (h.later s1.below) hn hm).mono ?_
    rintro e w2 ⟨AS, cS, BS, dS, rfl, oS, faS, fbS, b2⟩
    clear p0 p1
    have s2 := s1.step b2
    go_wp2_with fail
    refine (SP.out _ _ _ _ _ _ _ oS.net).mono ?_
    rintro e w3 ⟨rfl, b3⟩
    have s3 := s2.step b3
    have oS_3 := oS.later b3
    have p0 := s3.c0
    have p1 := s3.c1
    go_wp2_with fail
    refine (toNetwork_any _ _ _ _ _ _ net _ (h.later s3.below) hn hm).mono ?_
    rintro e w4 ⟨AX, cX, BX, dX, rfl, oX, faX, fbX, b4⟩
    clear p0 p1
    have s4 := s3.step b4
    have b5 := bel1 w4 (.cells #[.slice AX n cX, .slice BX m dX] 47)
    have x5 : Go.Proofs.Ytlinofehnpmbgaa.BX (w4.alloc (.cells #[.slice AX n cX, .slice BX m dX] 47)) w4.heap.size AX n cX BX m dX := ⟨heap_alloc_new _ _⟩
    have s5 := s4.step b5
    have oX_5 := oX.later b5
    have q0 := x5.c0
    have q1 := x5.c1
    go_wp2_with fail
    refine (IM.out _ _ _ _ _ _ _ oX_5.net).mono ?_
    rintro e w6 ⟨rfl, b6⟩
    have s6 := s5.step b6
    have oX_6 := oX_5.later b6
    have x6 := x5.step b6
    clear q0 q1
    have S8 := Lib.hid s6
    have X8 := Lib.hid x6
    have p0 := s6.c0
    have p1 := s6.c1
    have q0 := x6.c0
    have q1 := x6.c1
    have hxs := x6.lt
    go_wp2_with fail
    go_region_with (first | (go_at_call 37; refine (toNetwork_any _ _ _ _ _ _ net _ (by exact h.later s6.below.drew) hn hm).mono ?_; rintro e w7 ⟨A9, c9, B9, d9, rfl, o9, _, _, b7⟩; have x9 := X8.out.step ((Below.refl _ _).drew.trans b7); have r0 := x9.c0; have r1 := x9.c1) | (go_at_call 39; refine (eqNetwork_any _ _ _ _ _ _ _ _ _ _ net _ (by exact (oX_6.later ((Below.refl _ _).drew.trans b7)).net) (by exact o9.net)).mono ?_; rintro e w8 ⟨rfl, b8⟩))
    all_goals
      have b9 : Below (World.heap w6).size w6 w8 := below_step ((Below.refl _ _).drew.trans b7) b8
      try clear p0 p1
      try clear q0 q1
      try clear r0 r1
      clear x9 o9
      have s9 := s6.step b9
      have oX_9 := oX_6.later b9
      have x9 := x6.step b9
      go_wp2_with fail
      go_ret
      exact ⟨rfl, s9.below⟩

end Go.Proofs.Ytlinofehnpmbgaa
