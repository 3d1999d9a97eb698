/- the laws FnExactParallelFlow, FnExactDropFor -/
import Derived.Test.YtnfpbjblmcejlaaE
namespace Go.Proofs.Ytnfpbjblmcejlaa
open Go.RowKit

set_option maxHeartbeats 1000000 in
theorem lawParallelFlow_any (A : Option Addr) (n c : Nat) (zs : List Int) (d : Int) (w : World) (h : Ints w A n c zs) (_hd : I64 d) :
    Calls Try.prog 7 #[.slice A n c, .int .i64 d] w fun e w' => e = .returned (.bool true) ∧ Below w.heap.size w w' := by
  by_cases hn : 1048576 < n
  · go_enter Try.func7, Try.ntmps7
    go_wp2_with fail
    go_ret
    exact ⟨rfl, Below.refl _ _⟩
  · have he : eqL zs zs = true := by simp [eqL]
    go_enter Try.func7, Try.ntmps7
    go_wp2_with fail
    refine (toInt64S_any _ _ _ _ _ h (by omega)).mono ?_
    rintro e w1 ⟨A1, c1, rfl, o1, f1, b1⟩
    go_wp2_with fail
    refine (specParallel_any _ _ _ _ _  _ o1.ints ).mono ?_
    rintro e w' ⟨rfl, rfl⟩
    go_wp2_with fail
    refine (toInt64S_any _ _ _ _ _ (h.later b1) (by omega)).mono ?_
    rintro e w2 ⟨A2, c2, rfl, o2, f2, b2⟩
    go_wp2_with fail
    refine (implParallel_any _ _ _ _ _  _ o2.ints ).mono ?_
    rintro e w3 ⟨rfl, b3⟩
    go_wp2_with fail
    have b13 := below_step (below_step b1 b2) b3
    refine (toInt64S_any _ _ _ _ _ (h.later b13) (by omega)).mono ?_
    rintro e w4 ⟨A4, c4, rfl, o4, f4, b4⟩
    go_wp2_with fail
    refine (eqInt64S_any _ _ _ _ _ _ _ _ _ ((o2.later b3).later b4).ints o4.ints).mono ?_
    rintro e w' ⟨rfl, q, rfl⟩
    go_wp2_with fail
    go_ret
    exact ⟨rfl, below_drew (below_step b13 b4) _⟩

set_option maxHeartbeats 1000000 in
theorem lawDropFor_any (A : Option Addr) (n c : Nat) (zs : List Int) (d : Int) (w : World) (h : Ints w A n c zs) (_hd : I64 d) :
    Calls Try.prog 8 #[.slice A n c, .int .i64 d] w fun e w' => e = .returned (.bool true) ∧ Below w.heap.size w w' := by
  by_cases hn : 1048576 < n
  · go_enter Try.func8, Try.ntmps8
    go_wp2_with fail
    go_ret
    exact ⟨rfl, Below.refl _ _⟩
  · have he : eqL zs zs = true := by simp [eqL]
    obtain ⟨dd, hdd0⟩ := isDrop_ex zs d
    have hdd := Lib.hid hdd0
    clear hdd0
    go_enter Try.func8, Try.ntmps8
    go_wp2_with fail
    refine (toInt64S_any _ _ _ _ _ h (by omega)).mono ?_
    rintro e w1 ⟨A1, c1, rfl, o1, f1, b1⟩
    go_wp2_with fail
    refine (specDropFor_any _ _ _ _ _ dd _ o1.ints hdd.out).mono ?_
    rintro e w' ⟨rfl, rfl⟩
    go_wp2_with fail
    refine (toInt64S_any _ _ _ _ _ (h.later b1) (by omega)).mono ?_
    rintro e w2 ⟨A2, c2, rfl, o2, f2, b2⟩
    go_wp2_with fail
    refine (implDropFor_any _ _ _ _ _ dd _ o2.ints hdd.out).mono ?_
    rintro e w3 ⟨rfl, b3⟩
    go_wp2_with fail
    have b13 := below_step (below_step b1 b2) b3
    refine (toInt64S_any _ _ _ _ _ (h.later b13) (by omega)).mono ?_
    rintro e w4 ⟨A4, c4, rfl, o4, f4, b4⟩
    go_wp2_with fail
    refine (eqInt64S_any _ _ _ _ _ _ _ _ _ ((o2.later b3).later b4).ints o4.ints).mono ?_
    rintro e w' ⟨rfl, q, rfl⟩
    go_wp2_with fail
    go_ret
    exact ⟨rfl, below_drew (below_step b13 b4) _⟩
end Go.Proofs.Ytnfpbjblmcejlaa
