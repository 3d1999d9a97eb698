/- the law FnExactSplitFlow -/
import Derived.Test.YtlinofehnpmbgaaSp
namespace Go.Proofs.Ytlinofehnpmbgaa
open Go.RowKit

theorem Own.apart {w w' : World} {A X : Option Addr} {n c B : Nat} {zs : List Int} (h : Own w A n c zs) (hf : Fresh B A) (hg : w.grownBy w' (X.map (·.block))) (hx : ∀ a, X = some a → a.block < B) : Own w' A n c zs :=
  h.keep fun a ha => hg.block _ (h.lt a ha) (fun e => by
    cases X with
    | none => cases e
    | some x => have := hf a ha; have := hx x rfl; simp at e; omega)
theorem Own.apart' {w w' : World} {A X : Option Addr} {n c B : Nat} {zs : List Int} (h : Own w A n c zs) (hf : ∀ a, A = some a → a.block < B) (hg : w.grownBy w' (X.map (·.block))) (hx : Fresh B X) : Own w' A n c zs :=
  h.keep fun a ha => hg.block _ (h.lt a ha) (fun e => by
    cases X with
    | none => cases e
    | some x => have := hf a ha; have := hx x rfl; simp at e; omega)
theorem below_mark {w w1 w2 : World} {X : Option Addr} (h : Below w.heap.size w w1) (hg : w1.grownBy w2 (X.map (·.block))) (hf : Fresh w.heap.size X) : Below w.heap.size w w2 := h.grown hg h.size (fresh_row hf)
theorem eqL_self (zs : List Int) : eqL zs zs = true := by simp [eqL]
theorem fresh_up {B B' : Nat} {A : Option Addr} (h : Fresh B A) (hb : B' ≤ B) : Fresh B' A := fun a ha => Nat.le_trans hb (h a ha)
theorem lt_up {B B' : Nat} {A : Option Addr} (h : ∀ a, A = some a → a.block < B) (hb : B ≤ B') : ∀ a, A = some a → a.block < B' := fun a ha => Nat.lt_of_lt_of_le (h a ha) hb

set_option maxHeartbeats 4000000 in
theorem lawSplitFlow_any (A : Option Addr) (n c : Nat) (zs : List Int) (f : Int) (w : World) (h : Ints w A n c zs) (_hf : I64 f) :
    Calls Try.prog 3 #[.slice A n c, .int .i64 f] w fun e w' => e = .returned (.bool true) ∧ Below w.heap.size w w' := by
  by_cases hn : 1048576 < n
  · go_enter Try.func3, Try.ntmps3
    go_wp2_with fail
    go_ret
    exact ⟨rfl, Below.refl _ _⟩
  · have e1 := eqL_self zs
    obtain ⟨d, hd0⟩ := isDrop_ex zs f
    have hd := Lib.hid hd0
    clear hd0
    have hrl : (splitR zs f d).length ≤ 1048576 := by
      have := h.len
      unfold splitR
      split
      · rw [splitL_len]; omega
      · simp
    obtain ⟨R, hR⟩ : ∃ R, R = splitR zs f d := ⟨_, rfl⟩
    obtain ⟨C, hC⟩ : ∃ C, C = (dropR zs f d).2 := ⟨_, rfl⟩
    have spec' := fun A n c w h => specSplit_any A n c zs f d w h hd.out
    have impl' := fun A n c w h => implSplit_any A n c zs f d w h hd.out
    rw [← hR] at hrl
    simp only [← hR, ← hC] at spec' impl'
    clear hR hC
    have e2 := eqL_self R
    have SP := Lib.hid spec'
    have IM := Lib.hid impl'
    clear spec' impl'
    go_enter Try.func3, Try.ntmps3
    go_wp2_with fail
    refine (toInt64S_any _ _ _ _ _ h (by omega)).mono ?_
    rintro e w1 ⟨A1, c1, rfl, o1, f1, b1⟩
    go_wp2_with fail
    refine (SP.out _ _ _ _ o1.ints).mono ?_
    rintro e w2 ⟨AW, cW, rfl, oW, fW, b2⟩
    have t2 := below_step b1 b2
    go_wp2_with fail
    refine (toInt64S_any _ _ _ _ _ (h.later t2) (by omega)).mono ?_
    rintro e w3 ⟨AX, cX, rfl, oX, fX, b3⟩
    have t3 := below_step t2 b3
    have lX := oX.lt
    have oW3 := oW.later b3
    have lW := oW.lt
    go_wp2_with fail
    refine (IM.out _ _ _ _ oX.ints).mono ?_
    rintro e w4 ⟨AG, cG, rfl, oG, fG, b4⟩
    have t4 := below_step t3 b4
    have oX4 := oX.later b4
    have oW4 := oW3.later b4
    have lG := oG.lt
    go_wp2_with fail
    refine (eqInt64S_any _ _ _ _ _ _ _ _ _ oG.ints oW4.ints).mono ?_
    rintro e w5 ⟨rfl, q5, rfl⟩
    have b5 := below_drew (Below.refl w4.heap.size w4) q5
    have t5 := below_step t4 b5
    go_wp2_with fail
    refine (toInt64S_any _ _ _ _ _ (h.later t5) (by omega)).mono ?_
    rintro e w6 ⟨A6, c6, rfl, o6, f6, b6⟩
    have t6 := below_step t5 b6
    have oX6 := (oX4.later b5).later b6
    have oW6 := (oW4.later b5).later b6
    have oG6 := (oG.later b5).later b6
    go_wp2_with fail
    refine (eqInt64S_any _ _ _ _ _ _ _ _ _ oX6.ints o6.ints).mono ?_
    rintro e w7 ⟨rfl, q7, rfl⟩
    have b7 := below_drew (Below.refl w6.heap.size w6) q7
    have t7 := below_step t6 b7
    have oX7 := oX6.later b7
    have oW7 := oW6.later b7
    have oG7 := oG6.later b7
    go_wp2_with fail
    refine (markInt64S_any _ _ _ _ 1 _ oX7 (by omega) (by omega) (by omega)).mono ?_
    rintro e w8 ⟨rfl, oX8, g8⟩
    have s12 := b1.size
    have s23 := b2.size
    have s34 := b3.size
    have fX' : Fresh w.heap.size AX := fresh_up fX (by omega)
    have t8 := below_mark t7 g8 fX'
    have oG8 := oG7.apart fG g8 lX
    have oW8 := oW7.apart' lW g8 fX
    go_wp2_with fail
    refine (eqInt64S_any _ _ _ _ _ _ _ _ _ oG8.ints oW8.ints).mono ?_
    rintro e w9 ⟨rfl, q9, rfl⟩
    have b9 := below_drew (Below.refl w8.heap.size w8) q9
    have t9 := below_step t8 b9
    have oG9 := oG8.later b9
    have oW9 := oW8.later b9
    go_wp2_with fail
    refine (markInt64S_any _ _ _ _ 1 _ oG9 (by omega) (by omega) (by omega)).mono ?_
    rintro e w10 ⟨rfl, oG10, g10⟩
    have t10 := below_mark t9 g10 (fresh_up fG (by omega))
    have oW10 := oW9.apart' (lt_up lW (by omega)) g10 fG
    go_wp2_with fail
    refine (heldInt64S_any _ _ _ 1 _ oG10.ints (by omega) (by omega) (by omega)).mono ?_
    rintro e w' ⟨rfl, rfl⟩
    go_wp2_with fail
    refine (toInt64S_any _ _ _ _ _ (h.later t10) (by omega)).mono ?_
    rintro e w11 ⟨A11, c11, rfl, o11, f11, b11⟩
    have t11 := below_step t10 b11
    have oG11 := oG10.later b11
    have oW11 := oW10.later b11
    go_wp2_with fail
    refine (IM.out _ _ _ _ o11.ints).mono ?_
    rintro e w12 ⟨A12, c12, rfl, o12, f12, b12⟩
    have t12 := below_step t11 b12
    have oG12 := oG11.later b12
    have oW12 := oW11.later b12
    go_wp2_with fail
    refine (eqInt64S_any _ _ _ _ _ _ _ _ _ o12.ints oW12.ints).mono ?_
    rintro e w13 ⟨rfl, q13, rfl⟩
    have b13 := below_drew (Below.refl w12.heap.size w12) q13
    have t13 := below_step t12 b13
    have oG13 := oG12.later b13
    go_wp2_with fail
    refine (heldInt64S_any _ _ _ 1 _ oG13.ints (by omega) (by omega) (by omega)).mono ?_
    rintro e w' ⟨rfl, rfl⟩
    go_wp2_with fail
    go_ret
    exact ⟨rfl, t13⟩

end Go.Proofs.Ytlinofehnpmbgaa
