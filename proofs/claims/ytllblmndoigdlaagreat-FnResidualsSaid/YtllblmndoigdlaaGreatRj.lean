/- relaxing: the reference -/
import Derived.Test.YtllblmndoigdlaaGreatRg
namespace Go.Proofs.YtllblmndoigdlaaGreat
open Go.RowKit

/-! ### the steps -/
def stepB (x : Int) : Bool := decide (1 ≤ x) && decide (x ≤ 32768) && decide (x.toNat &&& (x.toNat - 1) = 0)
theorem stepB_rng {x : Int} (h : stepB x = true) : 1 ≤ x ∧ x ≤ 32768 := by
  unfold stepB at h
  simp only [Bool.and_eq_true, decide_eq_true_eq] at h
  exact ⟨h.1.1, h.1.2⟩
theorem stepB_iff {x : Int} : stepB x = true ↔ ∃ i : Nat, i ≤ 15 ∧ x = ((2 ^ i : Nat) : Int) := by
  constructor
  · intro h
    have hr := stepB_rng h
    unfold stepB at h
    simp only [Bool.and_eq_true, decide_eq_true_eq] at h
    obtain ⟨i, hi⟩ := (Nat.and_sub_one_eq_zero_iff_isPowerOfTwo (n := x.toNat) (by omega)).1 h.2
    have e : x = ((2 ^ i : Nat) : Int) := by rw [← hi]; omega
    refine ⟨i, ?_, e⟩
    rcases Nat.lt_or_ge 15 i with h16 | h16
    · have h2 : 2 ^ 16 ≤ 2 ^ i := Nat.pow_le_pow_right (by omega) h16
      rw [← hi] at h2
      have : (2 : Nat) ^ 16 = 65536 := by decide
      omega
    · exact h16
  · rintro ⟨i, hi, rfl⟩
    have h1 : 1 ≤ 2 ^ i := Nat.one_le_two_pow
    have h2 : 2 ^ i ≤ 2 ^ 15 := Nat.pow_le_pow_right (by omega) hi
    have h3 : (2 : Nat) ^ 15 = 32768 := by decide
    unfold stepB
    simp only [Bool.and_eq_true, decide_eq_true_eq]
    refine ⟨⟨by omega, by omega⟩, ?_⟩
    rw [Int.toNat_natCast]
    exact (Nat.and_sub_one_eq_zero_iff_isPowerOfTwo (by omega)).2 ⟨i, rfl⟩
noncomputable def rRelaxFlows (net : Net) (zs : List Int) (x : Int) : List Int × Int × Int :=
  if codeF net zs = 0 then (if stepB x then ((rlx net (basL net) x.toNat (zs, 0)).1, ((rlx net (basL net) x.toNat (zs, 0)).2 : Int), 0) else ([], 0, 2)) else ([], 0, codeF net zs)
/-- a list and two numbers -/
def RetLII (w : World) (r : List Int × Int × Int) (e : Ending) (w' : World) : Prop :=
  ∃ A c, e = .returned (.tuple #[.slice A r.1.length c, .int .i64 r.2.1, .int .i64 r.2.2]) ∧ Own w' A r.1.length c r.1 ∧ Fresh w.heap.size A ∧ Below w.heap.size w w'
theorem retLII_nil {w w' : World} {r : List Int × Int × Int} {k : Int} {e : Ending} (he : e = .returned (.tuple #[.slice none 0 0, .int .i64 0, .int .i64 k])) (hr : r = ([], 0, k)) (hb : Below w.heap.size w w') : RetLII w r e w' :=
  ⟨none, 0, by rw [hr]; exact he, by rw [hr]; exact Own.nil, (fun a ha => by cases ha), hb⟩
theorem retLII_own {w w' : World} {r : List Int × Int × Int} {zs : List Int} {k : Int} {A : Option Addr} {n c : Nat} {e : Ending} (he : e = .returned (.tuple #[.slice A n c, .int .i64 k, .int .i64 0])) (hr : r = (zs, k, 0)) (ho : Own w' A n c zs) (hf : Fresh w.heap.size A) (hb : Below w.heap.size w w') : RetLII w r e w' :=
  ⟨A, c, by rw [hr]; show _ = Ending.returned (.tuple #[.slice A zs.length c, .int .i64 k, .int .i64 0]); rw [ho.len]; exact he, by rw [hr]; show Own w' A zs.length c zs; rw [ho.len]; exact ho, hf, hb⟩

set_option maxRecDepth 100000 in
/-- append([]int64{}, xs...) -/
theorem law_appendC (w : World) {ops : Array Oper} {rest : List Oper} {o : Oper} {a : Act} {Q : Exit → Act → World → Prop}
    (hg : o.guard = none) (s x : Operand) (hop : o.op = Op.call { callee := Callee.builtin Builtin.append, args := #[s, x], argTypes := #[28, 28] })
    (g : Nat) (hs : a.eval s = .slice (some ⟨g, 0, none⟩) 0 0) (hown : Own w (some ⟨g, 0, none⟩) 0 0 [])
    (C : Option Addr) (l e : Nat) (xs : List Int) (hx : a.eval x = .slice C l e) (hxs : Ints w C l e xs) (hn : l ≤ 1000000)
    (hK : ∀ A' c' w', Own w' A' l c' xs → (∀ p, A' = some p → p.block = g ∨ p.block = w.heap.size) → w.grownBy w' (some g) → wpList Tryz.prog ops Q rest (a.put o.dst (.slice A' l c')) w') :
    wpList Tryz.prog ops Q (o :: rest) a w := by
  cases C with
  | none =>
    have h0 : l = 0 := by
      rcases Nat.eq_zero_or_pos l with h0 | h0
      · exact h0
      · obtain ⟨b, off, he, _⟩ := hxs.cells h0; cases he
    subst h0
    have hz : xs = [] := List.eq_nil_of_length_eq_zero hxs.len
    subst hz
    obtain ⟨i, hi, h1, h2, h3⟩ := info_parts info_int64
    have hrun : (Builtin.append_ #[28, 28] o.type #[.slice (some ⟨g, 0, none⟩) 0 0, .slice none 0 e]).run Tryz.prog w = .ok (.slice (some ⟨g, 0, none⟩) 0 0) w := by
      simp [Builtin.append_, run_underlying Tryz.underlying28, sizeOf, typeInfo, hi, storeCells, Builtin.lenOf, run_firstCells_none]
    refine wpList_plain hg fun K hK' => ?_
    unfold Oper.wp
    simp only [execOp, hop, resolve, invoke, builtin, Sem.run_bind, Sem.run_pure, Result.andThen_ok, List.map_toArray, List.map_cons, List.map_nil, hs, hx, hrun]
    exact hK' _ _ (hK _ _ w hown (fun p hp => by injection hp with hp; subst hp; exact .inl rfl) (World.grownBy.refl _ _))
  | some p =>
    refine law_appendL w hg s x hop _ 0 0 [] hs hown p l e xs hx hxs (by omega) ?_
    rintro v' w' ⟨A', c', rfl, ho, hb⟩ hgr
    rw [Nat.zero_add, List.nil_append] at ho
    rw [Nat.zero_add]
    refine hK A' c' w' ho (fun q hq => ?_) hgr
    subst hq
    rcases hb with hb | hb
    · simp at hb; exact .inl hb
    · simp at hb; exact .inr hb

set_option maxRecDepth 100000 in
set_option maxHeartbeats 8000000 in
theorem l11Relax_any (A : Option Addr) (n c : Nat) (B : Option Addr) (m d : Nat) (net : Net) (C : Option Addr) (l e : Nat) (zs : List Int) (st : Nat) (w : World) (h : NetAt w A n c B m d net) (hz : Ints w C l e zs) (hv : netB net = true) (hf : flowB net zs = true) (hst : st ≤ 100000) :
    Calls Tryz.prog 21 #[.agg #[.slice A n c, .slice B m d], .slice C l e, .int .i64 (st : Int)] w fun e w' => ∃ A' c', e = .returned (.tuple #[.slice A' l c', .int .i64 ((rlx net (basL net) st (zs, 0)).2 : Int)]) ∧ Own w' A' l c' (rlx net (basL net) st (zs, 0)).1 ∧ Fresh w.heap.size A' ∧ Below w.heap.size w w' := by
  have HB := Lib.hid (bel1 w (.cells #[.slice A n c, .slice B m d] 27))
  have ok := NetOK.of hv
  have hBas := basL_bas ok
  have hll : l ≤ 1000 := by have := flowB_len hf; have := h.pipes.len; have := hz.len; have := (netB_sizes hv).2.2; omega
  have bxW : BX (w.alloc (.cells #[.slice A n c, .slice B m d] 27)) w.heap.size A n c B m d := ⟨heap_alloc_new w _⟩
  go_enter Tryz.func21, Tryz.ntmps21
  go_wp2_with fail
  refine (l05Basis_any _ _ _ _ _ _ net _ (h.later HB.out) ok).mono ?_
  rintro e w1 ⟨gs, Ab, cb, rfl, oS, fS, b1⟩
  have t1 := below_step HB.out b1
  have bx0 := bxW.step b1
  have k0 := bx0.c0
  have k1 := bx0.c1
  have o0 := own_lit0 w1
  have hz1 := hz.later (below_step t1 (bel1 w1 (.cells #[] 2)))
  go_wp2_with (at_builtin; refine law_appendC _ rfl _ _ rfl _ rfl o0 _ _ _ _ rfl hz1 (by omega) ?_; intro A3 c3 w3 o3 hb3 hg3)
  have b3' : Below w1.heap.size w1 w3 := (bel1 w1 _).grown hg3 (by simp) (fun i hi => by simp at hi; omega)
  have b3 := b3'
  have t3 := below_step t1 b3
  have fr : Fresh w.heap.size A3 := fun p hp => by
    have := t1.size
    rcases hb3 p hp with e | e
    · rw [e]; omega
    · rw [e]; simp; omega
  have T3 := Lib.hid t3
  have bx3 := bx0.step b3
  have hC3 := fr
  have oS3 := oS.later b3'
  have HBB := Lib.hid hBas
  clear b3 b3' k0 k1 oS hBas hz
  go_loopw [2, 9, 10] (fun sv f mv wr => ∃ (st' : Nat) (s : Rst) (A' : Option Addr) (c' : Nat), sv = .int .i64 (st' : Int) ∧ f = .slice A' l c' ∧ mv = .int .i64 (s.2 : Int) ∧ st' ≤ 100000 ∧ Hid (rlx net (basL net) st' s = rlx net (basL net) st (zs, 0)) ∧ Hid (RI net zs s) ∧ Own wr A' l c' s.1 ∧ Fresh w.heap.size A' ∧ Below w3.heap.size w3 wr) (fun sv _ mv _ => (5000 - (intOf mv).toNat) + (intOf sv).toNat)
  case atStart => exact ⟨st, (zs, 0), A3, c3, rfl, rfl, rfl, hst, Lib.hid rfl, Lib.hid (RI.start hf), o3, fr, Below.refl _ _⟩
  case round =>
    obtain ⟨st', s, A', c', rfl, rfl, rfl, hst', hE, hI, of, ff, hb⟩ := hrel
    clear o3
    have hle := hI.out.le
    by_cases hgo : 1 ≤ st' ∧ s.2 < 5000
    · obtain ⟨hg1, hg2⟩ := hgo
      have hi1 : (1 : Int) ≤ st' := by omega
      have hi2 : ((s.2 : Int)) < 5000 := by omega
      have bxr := bx3.step hb
      have z0 := bxr.c0
      have z1 := bxr.c1
      have hpf := (pss_facts net st' (basL net) s)
      have hp1 := hpf.1
      have hp4 := hpf.2.2.2 hle
      have hqz := Lib.hid (fun h => (hpf.2.1 h).1)
      have hsame := Lib.hid (rlx_same (net := net) (bas := basL net) (st := st') (s := s))
      have hmov := Lib.hid (rlx_moved (net := net) (bas := basL net) (st := st') (s := s) (by omega))
      have hI2 := Lib.hid (hI.out.pss (z := st') HBB.out)
      clear hpf
      go_wp2_with fail
      refine (l11Pass_any _ _ _ _ _ _ net _ _ _ _ _ (basL net) _ _ _ s.1 st' s.2 w.heap.size zs _ (h.later (below_step T3.out hb)) (oS3.later hb) of hv HBB.out hI.out hst' ff (by have := hb.size; have := T3.out.size; omega)).mono ?_
      rintro e w5 ⟨A5, c5, rfl, o5, f5, b5⟩
      have hb5 := below_step hb b5
      obtain ⟨q, hq⟩ : ∃ q : Rst, pss net st' s (basL net) = q := ⟨_, rfl⟩
      have hq' : pss net st' (s.1, s.2) (basL net) = q := hq
      have hsm := hsame.out
      have hmv := hmov.out
      have hI3 := hI2.out
      have hqy := hqz.out
      rw [hq] at hp1 hp4 hsm hmv hI3 hqy
      rw [hq'] at o5 ⊢
      have hI4 := Lib.hid hI3
      clear hq hq' hqz hsame hmov hI2 hI3 z0 z1
      obtain ⟨N, hN⟩ : ∃ N : Int, (q.2 : Int) - s.2 = N := ⟨_, rfl⟩
      rw [hN]
      have HN := Lib.hid hN
      have hN1 : 0 ≤ N ∧ N ≤ 5000 := by omega
      clear hN
      by_cases he : q.2 = s.2
      · have hE2 : Hid (rlx net (basL net) (st' / 2) s = rlx net (basL net) st (zs, 0)) := Lib.hid (by rw [← hsm he]; exact hE.out)
        have hE3 : Hid (rlx net (basL net) (st' / 2) q = rlx net (basL net) st (zs, 0)) := Lib.hid (by have e0 : q = s := hqy he; rw [e0]; exact hE2.out)
        obtain rfl : N = 0 := by have := HN.out; omega
        have hev : (s.2 : Int) + 0 = q.2 := by omega
        have HV := Lib.hid hev
        clear hsm hmv hqy hN1 he hev
        go_wp2_with fail
        go_roundw
        case rel => exact ⟨st' / 2, q, A5, c5, by go_num, rfl, by have := HV.out; first | (congr 1; done) | (congr 1; omega), by omega, hE3, hI4, o5, f5, hb5⟩
        case measure => simp [intOf]; omega
      · have hE2 : Hid (rlx net (basL net) st' q = rlx net (basL net) st (zs, 0)) := Lib.hid (by rw [← hmv he]; exact hE.out)
        have hz0 : ¬ N = 0 := by have := HN.out; omega
        have hq0 : (N == 0) = false := by simp [hz0]
        have hev : (s.2 : Int) + N = q.2 := by have := HN.out; omega
        have HV := Lib.hid hev
        have HHE := Lib.hid he
        have hqs : s.2 < q.2 := by omega
        clear hsm hmv hqy hev he
        go_wp2_with fail
        go_roundw
        case rel => exact ⟨st', q, A5, c5, rfl, rfl, by have := HV.out; first | (congr 1; done) | (congr 1; omega), by omega, hE2, hI4, o5, f5, hb5⟩
        case measure => simp [intOf]; omega
    · have hE2 : Hid (rlx net (basL net) st (zs, 0) = s) := Lib.hid (by rw [← hE.out]; exact rlx_stop (by omega))
      by_cases hg1 : 1 ≤ st'
      · have hi1 : (1 : Int) ≤ st' := by omega
        have hi2 : ¬ ((s.2 : Int)) < 5000 := by omega
        clear hE hgo
        go_wp2_with fail
        go_ret2
        rw [hE2.out]
        exact ⟨A', c', rfl, of, ff, below_step T3.out hb⟩
      · have hi1 : ¬ (1 : Int) ≤ st' := by omega
        clear hE hgo
        go_wp2_with fail
        go_ret2
        rw [hE2.out]
        exact ⟨A', c', rfl, of, ff, below_step T3.out hb⟩

end Go.Proofs.YtllblmndoigdlaaGreat
