/- the law FnDrops -/
import Derived.Test.YtndieicmjdkojaaK8
import Derived.Test.YtndieicmjdkojaaJ1
import Derived.Test.YtndieicmjdkojaaF3
namespace Go.Proofs.Ytndieicmjdkojaa
open Go.RowKit

theorem wrap64_id {z : Int} (h : I64 z) : wrap64 z = z := by unfold I64 at h; unfold wrap64; omega
theorem sumW_one {L : List Int} {X : Nat} {D : Int} (hX : X < L.length) (hD : I64 D) (h : ∀ j, j < L.length → ig L j = if j = X then D else 0) : sumW L = D := by
  have key : ∀ k, k ≤ L.length → sumW (L.take k) = if X < k then D else 0 := by
    intro k
    induction k with
    | zero => intro _; simp [sumW]
    | succ k ih =>
      intro hk
      rw [sumW_snoc (by omega), ih (by omega), h k (by omega)]
      by_cases e : k = X
      · subst e
        rw [if_neg (by omega), if_pos rfl, if_pos (by omega), Int.zero_add]; exact wrap64_id hD
      · by_cases h1 : X < k
        · rw [if_pos h1, if_neg e, if_pos (by omega), Int.add_zero]; exact wrap64_id hD
        · rw [if_neg h1, if_neg e, if_neg (by omega), Int.add_zero]; exact wrap64_id ⟨by decide, by decide⟩
  have := key L.length (Nat.le_refl _)
  rw [List.take_length, if_pos hX] at this; exact this
theorem drp_neg (k q : Int) : drp k (-q) = -(drp k q) := by
  unfold drp
  rw [ab_neg, Int.neg_mul, Int.mul_neg]
theorem rDropOf_zero {net : Net} {x q : Int} (h : (rDropOf net x q).2 = 0) : netB net = true ∧ inB x 0 ((net.pipes.length : Int) - 1) = true ∧ inB q (-30000) 30000 = true ∧ rDropOf net x q = (drp (pp net.pipes x.toNat).k q, 0) := by
  unfold rDropOf at h ⊢
  cases h1 : netB net
  · rw [h1] at h; simp at h
  · cases h2 : inB x 0 ((net.pipes.length : Int) - 1) <;> cases h3 : inB q (-30000) 30000 <;> rw [h1, h2, h3] at h <;> simp at h ⊢
/-- a flow list with one flow -/
def oneF (m X : Nat) (y : Int) : List Int := (List.replicate m 0).set X y
theorem oneF_len (m X : Nat) (y : Int) : (oneF m X y).length = m := by simp [oneF]
theorem oneF_ig {m X : Nat} {y : Int} (hX : X < m) (j : Nat) : ig (oneF m X y) j = if j = X then y else 0 := by
  unfold oneF
  rw [ig_set]
  by_cases e : j = X
  · subst e; rw [if_pos ⟨rfl, by simpa using hX⟩, if_pos rfl]
  · rw [if_neg (fun h => e h.1.symm), if_neg e]
    rcases Nat.lt_or_ge j m with hj | hj
    · rw [ig_lt (by simpa using hj)]; simp
    · exact ig_ge (by simpa using hj)
theorem oneF_code {net : Net} (hv : netB net = true) {m X : Nat} {y : Int} (hm : net.pipes.length = m) (hX : X < m) (hy : inB y (-30000) 30000 = true) : codeF net (oneF m X y) = 0 := by
  have hf : flowB net (oneF m X y) = true := by
    unfold flowB
    rw [oneF_len, hm]
    simp only [decide_true, Bool.true_and]
    refine allB_yes (k := m) (by rw [oneF_len]; omega) fun j _ => ?_
    rw [oneF_ig hX]
    split
    · exact hy
    · rfl
  rcases codeF_cases net (oneF m X y) with ⟨h1, _⟩ | ⟨_, h2, _⟩ | ⟨_, _, h3⟩
  · rw [hv] at h1; cases h1
  · rw [hf] at h2; cases h2
  · exact h3
theorem drL_one {net : Net} {m X : Nat} {y : Int} (hX : X < m) (j : Nat) (hj : j < m) : ig (drL net (oneF m X y) m) j = if j = X then drp (pp net.pipes X).k y else 0 := by
  unfold drL
  rw [mapTo_ig hj, oneF_ig hX]
  by_cases e : j = X
  · subst e; simp
  · rw [if_neg e, if_neg e]; simp [drp]

set_option maxRecDepth 100000 in
set_option maxHeartbeats 8000000 in
theorem lawDrops_any (A : Option Addr) (n c : Nat) (bs : List Int) (w : World) (h : Bytes w A n c bs) :
    Calls Try.prog 4 #[.slice A n c] w fun e w' => e = .returned (.bool true) ∧ Below w.heap.size w w' := by
  by_cases hbig : 4096 < n
  · have hb' : decide (4096 < n) = true := by simp [hbig]
    go_enter Try.func4, Try.ntmps4
    go_wp2_with fail
    refine (big_any _ _ _ _).mono ?_
    rintro e w' ⟨rfl, rfl⟩
    rw [hb']
    go_wp2_with fail
    go_ret
    exact ⟨rfl, Below.refl _ _⟩
  · have hb' : decide (4096 < n) = false := by simp [hbig]
    go_enter Try.func4, Try.ntmps4
    go_wp2_with fail
    refine (big_any _ _ _ _).mono ?_
    rintro e w' ⟨rfl, rfl⟩
    rw [hb']
    go_wp2_with fail
    refine (DrawDropOf_any _ _ _ _ _ h).mono ?_
    rintro e w1 ⟨An, k, cn, Ap, m, cp, ns, ps, x, y, rfl, hn, hk, hm, hx, hy, b1⟩
    have bx0 : BX (w1.alloc (.cells #[.slice An k cn, .slice Ap m cp] 27)) w1.heap.size An k cn Ap m cp := ⟨heap_alloc_new w1 _⟩
    have hn1 := hn.later (bel1 w1 (.cells #[.slice An k cn, .slice Ap m cp] 27))
    have t1 := below_step b1 (bel1 w1 (.cells #[.slice An k cn, .slice Ap m cp] 27))
    clear hn b1
    go_wp2_with fail
    refine (implDropOf_any _ _ _ _ _ _ ⟨ns, ps⟩ _ _ _ hn1 hx hy).mono ?_
    rintro e w2 ⟨rfl, b2⟩
    have bx2 := bx0.step b2
    have hn2 := hn1.later b2
    have t2 := below_step t1 b2
    have k0 := bx2.c0
    have k1 := bx2.c1
    clear bx0 hn1 t1 b2
    go_wp2_with fail
    refine (specDropOf_any _ _ _ _ _ _ ⟨ns, ps⟩ _ _ _ hn2 hx hy).mono ?_
    rintro e w3 ⟨rfl, b3⟩
    have bx3 := bx2.step b3
    have hn3 := hn2.later b3
    have t3 := below_step t2 b3
    clear k0 k1 bx2 hn2 t2 b3
    by_cases hz : (rDropOf ⟨ns, ps⟩ x y).2 = 0
    · obtain ⟨hv, hxb, hyb, hR⟩ := rDropOf_zero hz
      obtain ⟨x0, x1⟩ := inB_iff'.1 hxb
      obtain ⟨y0, y1⟩ := inB_iff'.1 hyb
      have hpl := hn3.pipes.len
      obtain ⟨X, rfl⟩ := Int.eq_ofNat_of_zero_le x0
      have hXm : X < m := by
        have e : (⟨ns, ps⟩ : Net).pipes.length = m := hpl
        rw [e] at x1; omega
      have hpk := netB_pipe_at hv (j := X) (by rw [hpl]; exact hXm)
      simp only at hpk
      have hDb := drp_bnd (k := (pp ps X).k) (q := y) (by omega) (by omega) y0 y1
      have hR' : rDropOf ⟨ns, ps⟩ (X : Int) y = (drp (pp ps X).k y, 0) := hR
      have HRm : Hid (rDropOf ⟨ns, ps⟩ (X : Int) (-y) = (-(drp (pp ps X).k y), 0)) := Lib.hid (by
        unfold rDropOf
        rw [hv, hxb, show inB (-y) (-30000) 30000 = true from inB_iff'.2 ⟨by omega, by omega⟩]
        show (drp (pp ps X).k (-y), (0 : Int)) = _
        rw [drp_neg])
      have HC : Hid (rDropsOf ⟨ns, ps⟩ (oneF m X y) = (drL ⟨ns, ps⟩ (oneF m X y) m, 0)) := Lib.hid (by
        unfold rDropsOf
        rw [if_pos (oneF_code hv hpl hXm hyb)]
        show (drL ⟨ns, ps⟩ (oneF m X y) (⟨ns, ps⟩ : Net).pipes.length, (0 : Int)) = _
        rw [hpl])
      have HS : Hid (sumW (drL ⟨ns, ps⟩ (oneF m X y) m) = drp (pp ps X).k y) := Lib.hid (sumW_one (X := X) (by rw [drL_len]; exact hXm) ⟨by omega, by omega⟩ (fun j hj => by rw [drL_len] at hj; exact drL_one hXm j hj))
      have HX : Hid (ig (drL ⟨ns, ps⟩ (oneF m X y) m) X = drp (pp ps X).k y) := Lib.hid (by rw [drL_one hXm X hXm, if_pos rfl])
      rw [hR']
      generalize drp (pp ps X).k y = D at *
      have k0 := bx3.c0
      have k1 := bx3.c1
      have hxi : (X : Int) < (m : Int) := by omega
      clear hz hR hR' hv hxb hyb hpk hpl
      go_wp2_with fail
      refine (implDropOf_any _ _ _ _ _ _ ⟨ns, ps⟩ _ _ _ hn3 hx ⟨by omega, by omega⟩).mono ?_
      rintro e w4 ⟨rfl, b4⟩
      rw [HRm.out]
      have bx4 := bx3.step b4
      have hn4 := hn3.later b4
      have t4 := below_step t3 b4
      clear k0 k1 bx3 hn3 t3 b4
      have k0 := bx4.c0
      have k1 := bx4.c1
      go_wp2_with (at_make; refine law_make _ rfl _ _ rfl m _ _ rfl rfl rfl rfl (by omega) ?_; intro w5 o5 b5 z5; have c5 := o5.cell hXm; have u5 := o5.unfrozen X; have bx5 := bx4.step b5; have j0 := bx5.c0; have j1 := bx5.c1; have hl5 := bx4.lt)
      have o6 := o5.store X (z := y) hy
      rw [show (List.replicate m 0).set X y = oneF m X y from rfl] at o6
      have t6 := (below_step t4 b5).setCell (p := ⟨w4.heap.size, X, none⟩) (by have := t4.size; exact this) (.int .i64 y)
      have x6 : BX (w5.setCell ⟨w4.heap.size, X, none⟩ (.int .i64 y)) w1.heap.size An k cn Ap m cp := ⟨(Below.heap_setCell _ _ _ _ (by show w1.heap.size ≠ w4.heap.size; omega)).trans bx5.box⟩
      have hn6 := (hn4.later b5)
      have hn6' : NetAt (w5.setCell ⟨w4.heap.size, X, none⟩ (.int .i64 y)) An k cn Ap m cp ⟨ns, ps⟩ := hn4.later (b5.setCell (Nat.le_refl _) _)
      obtain ⟨w6, hw6⟩ : ∃ w6, w6 = w5.setCell ⟨w4.heap.size, X, none⟩ (.int .i64 y) := ⟨_, rfl⟩
      rw [← hw6] at o6 t6 x6 hn6' ⊢
      clear k0 k1 j0 j1 c5 u5 o5 b5 z5 bx5 bx4 hn4 t4 hw6 hn6 hl5
      refine (implDropsOf_any _ _ _ _ _ _ ⟨ns, ps⟩ _ _ _ _ _ hn6' o6.ints).mono ?_
      rw [HC.out]
      rintro e w7 ⟨A7, c7, rfl, o7, f7, b7⟩
      have x7 := x6.step b7
      have hn7 := hn6'.later b7
      have t7 := below_step t6 b7
      have o67 := o6.later b7
      have k0 := x7.c0
      have k1 := x7.c1
      clear x6 hn6' t6 b7 o6
      go_wp2_with fail
      refine (specDropsOf_any _ _ _ _ _ _ ⟨ns, ps⟩ _ _ _ _ _ hn7 o67.ints).mono ?_
      rw [HC.out]
      rintro e w8 ⟨A8, c8, rfl, o8, f8, b8⟩
      have t8 := below_step t7 b8
      have o78 := o7.later b8
      have hll : (drL ⟨ns, ps⟩ (oneF m X y) m).length = m := drL_len _ _ _
      obtain ⟨LL, hLL⟩ : ∃ LL, LL = drL ⟨ns, ps⟩ (oneF m X y) m := ⟨_, rfl⟩
      simp only at o8 o78
      rw [← hLL] at o8 o78 hll HS HX ⊢
      simp only
      rw [hll] at o8 o78 ⊢
      have ee := eqL_self LL
      clear k0 k1 x7 hn7 t7 b8 o67 o7 hLL HC
      go_wp2_with fail
      refine (likeInts_any _ _ _ _ _ _ _ _ _ o78.ints o8.ints).mono ?_
      rintro e w9 ⟨rfl, q9, rfl⟩
      rw [ee]
      have b9 := below_drew (Below.refl w8.heap.size w8) q9
      have t9 := below_step t8 b9
      have o79 := o78.later b9
      obtain ⟨g7, rfl, hg7⟩ := o79.pos (by omega)
      have cX := o79.cell hXm
      rw [HX.out] at cX
      have hil := o79.ints.le
      have hic := o79.ints.cap
      clear o8 o78 b9 t8
      go_wp2_with fail
      refine (lawsSum_any _ _ _ _ _ o79.ints).mono ?_
      rintro e w' ⟨rfl, rfl⟩
      rw [HS.out]
      go_wp2_with fail
      go_ret
      exact ⟨rfl, t9⟩
    · have hne : ((rDropOf ⟨ns, ps⟩ x y).2 != 0) = true := by simp [hz]
      clear hz
      generalize (rDropOf ⟨ns, ps⟩ x y).1 = D at *
      generalize (rDropOf ⟨ns, ps⟩ x y).2 = K at *
      go_wp2_with fail
      go_ret
      exact ⟨rfl, t3⟩

end Go.Proofs.Ytndieicmjdkojaa
