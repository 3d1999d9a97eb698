/- IsBalanced, DropsOf, OverLimit -/
import Derived.Test.YtllblmndoigdlaaH1
import Derived.Test.YtllblmndoigdlaaTrk
import Derived.Lib.BufferMore
namespace Go.Proofs.Ytllblmndoigdlaa
open Go.RowKit

set_option maxHeartbeats 1000000 in
theorem slicesEqual_any (A B : Option Addr) (n m c d : Nat) (xs ys : List Int) (w : World) (h : Ints w A n c xs) (g : Ints w B m d ys) :
    Calls Try.prog 73 #[.slice A n c, .slice B m d] w fun e w' => e = .returned (.bool (eqL xs ys)) ∧ ∃ q, w' = w.drewN q := by
  have hle := h.le
  have hcap := h.cap
  have hlen := Lib.hid h.len
  have glen := Lib.hid g.len
  by_cases hnm : n = m
  · subst hnm
    go_enter Try.func73, Try.ntmps73
    go_wp2
    go_loopw [13] (fun i wr => ∃ k : Nat, k ≤ n ∧ i = .int .i64 k ∧ Hid (∀ j, j < k → ig xs j = ig ys j) ∧ ∃ q, wr = w.drewN q) (fun i _ => n - (intOf i).toNat)
    case atStart => exact ⟨0, by omega, rfl, Lib.hid (fun j hj => absurd hj (by omega)), 0, rfl⟩
    case round =>
      obtain ⟨k, hk, rfl, hq, q, rfl⟩ := hrel
      by_cases hlt : k < n
      · obtain ⟨b, off, rfl, hbl, hc⟩ := h.cells (by omega)
        obtain ⟨b', off', rfl, hbl', hc'⟩ := g.cells (by omega)
        have hck := hc k hlt
        have hck' := hc' k hlt
        clear hc hc'
        go_wp2
        go_quiet (fail)
        go_wp2
        · go_ret
          exact ⟨ret_bool (eqL_ne (k := k) (by simpa using ‹(ig xs k != ig ys k) = true›)).symm, _, World.drewN_drewN _ _ _⟩
        · go_roundw
          case rel => exact ⟨k + 1, by omega, by go_num, Lib.hid (fun j hj => by
            rcases Nat.lt_or_ge j k with h' | h'
            · exact hq.out j h'
            · have : j = k := by omega
              subst this; simpa using ‹(ig xs j != ig ys j) = false›), _, rfl⟩
          case measure => simp [intOf]; omega
      · go_wp2
        go_ret
        exact ⟨ret_bool (eqL_of (by rw [hlen.out, glen.out]) (by rw [hlen.out]; omega) hq.out).symm, _, rfl⟩
  · have hne : ((n : Int) != (m : Int)) = true := by simp; omega
    go_enter Try.func73, Try.ntmps73
    go_wp2
    go_ret
    exact ⟨ret_bool (eqL_len (by rw [hlen.out, glen.out]; exact hnm)).symm, 0, rfl⟩

def rIsBalanced (net : Net) (zs zs2 : List Int) : Bool := netB net && flowB net zs && supB net zs2 && eqL (outL net.nodes.length net.pipes zs net.pipes.length) zs2

set_option maxHeartbeats 2000000 in
theorem implIsBalanced_any (A : Option Addr) (n c : Nat) (B : Option Addr) (m d : Nat) (net : Net) (C : Option Addr) (l e : Nat) (zs : List Int) (C2 : Option Addr) (l2 e2 : Nat) (zs2 : List Int) (w : World) (h : NetAt w A n c B m d net) (hz : Ints w C l e zs) (hz2 : Ints w C2 l2 e2 zs2) :
    Calls Try.prog 22 #[.agg #[.slice A n c, .slice B m d], .slice C l e, .slice C2 l2 e2] w fun e w' => e = .returned (.bool (rIsBalanced net zs zs2)) ∧ Below w.heap.size w w' := by
  have HB := Lib.hid (bel1 w (.cells #[.slice A n c, .slice B m d] 27))
  have hnl := h.nodes.len
  have hml := h.pipes.len
  rcases hv : netB net with _ | _
  · have HR : Hid (rIsBalanced net zs zs2 = false) := Lib.hid (by unfold rIsBalanced; rw [hv]; rfl)
    go_enter Try.func22, Try.ntmps22
    go_wp2_with fail
    refine (implIsNetwork_is _ _ _ _ _ _ net _ _ (h.later HB.out) hv).mono ?_
    rintro e w1 ⟨rfl, b1⟩
    have t1 := below_step HB.out b1
    have s1 := b1
    obtain ⟨k0, k1⟩ := box_cells s1
    go_wp2_with fail
    go_ret
    exact ⟨ret_bool HR.out.symm, t1⟩
  · rcases hf : flowB net zs with _ | _
    · have HR : Hid (rIsBalanced net zs zs2 = false) := Lib.hid (by unfold rIsBalanced; rw [hv, hf]; rfl)
      go_enter Try.func22, Try.ntmps22
      go_wp2_with fail
      refine (implIsNetwork_is _ _ _ _ _ _ net _ _ (h.later HB.out) hv).mono ?_
      rintro e w1 ⟨rfl, b1⟩
      have t1 := below_step HB.out b1
      have s1 := b1
      obtain ⟨k0, k1⟩ := box_cells s1
      go_wp2_with fail
      refine (isFlowList_is _ _ _ _ _ _ _ _ _ net zs _ _ (h.later t1) (hz.later t1) hf).mono ?_
      rintro e w2 ⟨rfl, b2⟩
      clear k0 k1
      have t2 := below_step t1 b2
      have s2 := below_step s1 b2
      obtain ⟨k0, k1⟩ := box_cells s2
      go_wp2_with fail
      go_ret
      exact ⟨ret_bool HR.out.symm, t2⟩
    · rcases hs : supB net zs2 with _ | _
      · have HR : Hid (rIsBalanced net zs zs2 = false) := Lib.hid (by unfold rIsBalanced; rw [hv, hf, hs]; rfl)
        go_enter Try.func22, Try.ntmps22
        go_wp2_with fail
        refine (implIsNetwork_is _ _ _ _ _ _ net _ _ (h.later HB.out) hv).mono ?_
        rintro e w1 ⟨rfl, b1⟩
        have t1 := below_step HB.out b1
        have s1 := b1
        obtain ⟨k0, k1⟩ := box_cells s1
        go_wp2_with fail
        refine (isFlowList_is _ _ _ _ _ _ _ _ _ net zs _ _ (h.later t1) (hz.later t1) hf).mono ?_
        rintro e w2 ⟨rfl, b2⟩
        clear k0 k1
        have t2 := below_step t1 b2
        have s2 := below_step s1 b2
        obtain ⟨k0, k1⟩ := box_cells s2
        go_wp2_with fail
        refine (areSupplies_is _ _ _ _ _ _ _ _ _ net zs2 _ _ (h.later t2) (hz2.later t2) hs).mono ?_
        rintro e w3 ⟨rfl, b3⟩
        clear k0 k1
        have t3 := below_step t2 b3
        have s3 := below_step s2 b3
        obtain ⟨k0, k1⟩ := box_cells s3
        go_wp2_with fail
        go_ret
        exact ⟨ret_bool HR.out.symm, t3⟩
      · have HR : Hid (rIsBalanced net zs zs2 = eqL (outL n net.pipes zs m) zs2) := Lib.hid (by unfold rIsBalanced; rw [hv, hf, hs, hnl, hml]; rfl)
        go_enter Try.func22, Try.ntmps22
        go_wp2_with fail
        refine (implIsNetwork_is _ _ _ _ _ _ net _ _ (h.later HB.out) hv).mono ?_
        rintro e w1 ⟨rfl, b1⟩
        have t1 := below_step HB.out b1
        have s1 := b1
        obtain ⟨k0, k1⟩ := box_cells s1
        go_wp2_with fail
        refine (isFlowList_is _ _ _ _ _ _ _ _ _ net zs _ _ (h.later t1) (hz.later t1) hf).mono ?_
        rintro e w2 ⟨rfl, b2⟩
        clear k0 k1
        have t2 := below_step t1 b2
        have s2 := below_step s1 b2
        obtain ⟨k0, k1⟩ := box_cells s2
        go_wp2_with fail
        refine (areSupplies_is _ _ _ _ _ _ _ _ _ net zs2 _ _ (h.later t2) (hz2.later t2) hs).mono ?_
        rintro e w3 ⟨rfl, b3⟩
        clear k0 k1
        have t3 := below_step t2 b3
        have s3 := below_step s2 b3
        obtain ⟨k0, k1⟩ := box_cells s3
        go_wp2_with fail
        refine (outflows_any _ _ _ _ _ _ net _ _ _ zs _ (h.later t3) (hz.later t3) hv hf).mono ?_
        rintro e w4 ⟨Ao, co, rfl, oo, fo, b4⟩
        clear k0 k1
        have t4 := below_step t3 b4
        have s4 := below_step s3 b4
        obtain ⟨k0, k1⟩ := box_cells s4
        go_wp2_with fail
        refine (slicesEqual_any _ _ _ _ _ _ _ _ _ oo.ints (hz2.later t4)).mono ?_
        rintro e w5 ⟨rfl, q, rfl⟩
        go_wp2_with fail
        go_ret
        exact ⟨ret_bool HR.out.symm, below_drew t4 _⟩

def drL (net : Net) (zs : List Int) (k : Nat) : List Int := mapTo k (fun j => drp (pp net.pipes j).k (ig zs j))
def drH (net : Net) (zs : List Int) (m k : Nat) : List Int := mapTo m (fun j => if j < k then drp (pp net.pipes j).k (ig zs j) else 0)
theorem drL_len (net : Net) (zs : List Int) (k : Nat) : (drL net zs k).length = k := mapTo_len _ _
theorem drH_set {net : Net} {zs : List Int} {m k : Nat} : (drH net zs m k).set k (drp (pp net.pipes k).k (ig zs k)) = drH net zs m (k + 1) := mapTo_set fun v _ => by
  by_cases e : k = v
  · subst e; simp
  · rw [if_neg e]
    by_cases h : v < k
    · rw [if_pos h, if_pos (by omega)]
    · rw [if_neg h, if_neg (by omega)]
theorem drH_zero {net : Net} {zs : List Int} {m : Nat} : List.replicate m 0 = drH net zs m 0 := by
  refine ext_ig (by simp [drH, mapTo_len]) fun j hj => ?_
  rw [List.length_replicate] at hj
  rw [drH, mapTo_ig hj, ig_lt (by simpa using hj)]; simp
theorem drH_end {net : Net} {zs : List Int} {m : Nat} : drH net zs m m = drL net zs m := List.map_congr_left fun v hv => by simp [List.mem_range.1 hv]
theorem drL_succ {net : Net} {zs : List Int} {k : Nat} : drL net zs (k + 1) = drL net zs k ++ [drp (pp net.pipes k).k (ig zs k)] := by
  unfold drL mapTo; rw [List.range_succ, List.map_append]; rfl
def rDropsOf (net : Net) (zs : List Int) : List Int × Int := if codeF net zs = 0 then (drL net zs net.pipes.length, 0) else ([], codeF net zs)
theorem rDropsOf_len (net : Net) (zs : List Int) (_h : zs.length ≤ 1048576) : (rDropsOf net zs).1.length ≤ 1048576 := by
  unfold rDropsOf
  by_cases hz0 : codeF net zs = 0
  · rw [if_pos hz0]
    have := netB_sizes (codeF_zero hz0).1
    show (drL _ _ _).length ≤ _
    rw [drL_len]; omega
  · rw [if_neg hz0]; simp

end Go.Proofs.Ytllblmndoigdlaa

/- slices.Clone, l05Add, checkedFlows, AddFlows -/
namespace Go.Proofs.Ytllblmndoigdlaa
open Go.RowKit

theorem wrap_id {z : Int} (h : I64 z) : IntKind.i64.wrap z = z := by
  unfold I64 at h
  simp [IntKind.wrap, IntKind.signed, IntKind.bits]
  omega

set_option maxRecDepth 100000 in
/-- append(s, xs...), s a slice of the call's own -/
theorem law_appendL (w : World) {ops : Array Oper} {rest : List Oper} {o : Oper} {a : Act} {Q : Exit → Act → World → Prop}
    (hg : o.guard = none) (s x : Operand) (hop : o.op = Op.call { callee := Callee.builtin Builtin.append, args := #[s, x], argTypes := #[28, 28] })
    (A : Option Addr) (n c : Nat) (zs : List Int) (hs : a.eval s = .slice A n c) (hown : Own w A n c zs)
    (p : Addr) (m m' : Nat) (xs : List Int) (hx : a.eval x = .slice (some p) m m') (hxs : Ints w (some p) m m' xs) (hn : n + m ≤ 17592186044000)
    (hK : ∀ v' w', (∃ A' c', v' = .slice A' (n + m) c' ∧ Own w' A' (n + m) c' (zs ++ xs) ∧ (A'.map (·.block) = A.map (·.block) ∨ A'.map (·.block) = some w.heap.size)) → w.grownBy w' (A.map (·.block)) → wpList Try.prog ops Q rest (a.put o.dst v') w') :
    wpList Try.prog ops Q (o :: rest) a w := by
  obtain ⟨i, hi, h1, h2, h3⟩ := info_parts info_int64
  have hcells : ∀ j u, (xs.map (Value.int .i64))[j]? = some u → w.cell? (p.add j) = some u := by
    intro j u hu
    rw [List.getElem?_map] at hu
    rcases hj : xs[j]? with _ | z
    · rw [hj] at hu; cases hu
    · rw [hj] at hu
      injection hu with hu
      subst hu
      have hjl := (List.getElem?_eq_some_iff.1 hj).1
      have hl := hxs.len
      obtain ⟨b, off, he, hb, hc⟩ := hxs.cells (by omega)
      injection he with he
      subst he
      have := hc j (by omega)
      rw [ig_lt hjl, (List.getElem?_eq_some_iff.1 hj).2] at this
      unfold Addr.add
      split
      · rename_i h0; rw [h0] at this; exact this
      · exact this
  obtain ⟨v', w', hrun, k2, k3, _, k5⟩ := run_append_own_at (P := Try.prog) w 0 28 o.type 2 i (.int .i64 0) 1 8 Try.underlying28 hi h1 h2 h3 rfl (by omega) _ n _ hown.row p m m' (xs.map (Value.int .i64)) (by simp [hxs.len]) hcells (by
    intro u hu
    obtain ⟨z, _, rfl⟩ := List.mem_map.1 hu
    rfl) (by unfold maxLen; omega) (by omega) (Nat.zero_le _)
  have hb : ∀ (X : Option Addr) (p q : Nat), (Value.slice X p q).ownBlock = X.map (·.block) := by intro X p q; cases X <;> rfl
  rw [hb] at k3
  have hv' : ∃ A' c', v' = .slice A' (n + m) c' ∧ Own w' A' (n + m) c' (zs ++ xs) ∧ (A'.map (·.block) = A.map (·.block) ∨ A'.map (·.block) = some w.heap.size) := by
    have hr : ∀ y ∈ zs ++ xs, I64 y := fun y hy => by
      rcases List.mem_append.1 hy with hy | hy
      · exact hown.rng y hy
      · exact hxs.rng y hy
    rcases k2.2 with ⟨h, h'⟩ | ⟨g', cap, cur, h, rest⟩
    · subst h
      rw [hb, hb] at k5
      rw [h'] at k2 ⊢
      exact ⟨none, 0, rfl, ⟨by rw [List.map_append]; exact k2, hr⟩, k5⟩
    · subst h
      rw [hb, hb] at k5
      exact ⟨_, _, rfl, ⟨by rw [List.map_append]; exact k2, hr⟩, k5⟩
  refine wpList_plain hg fun K hK' => ?_
  unfold Oper.wp
  simp only [execOp, hop, resolve, invoke, builtin, Sem.run_bind, Sem.run_pure, Result.andThen_ok, List.map_toArray, List.map_cons, List.map_nil, hs, hx, hrun]
  exact hK' _ _ (hK v' w' hv' k3)

set_option maxRecDepth 100000 in
set_option maxHeartbeats 1000000 in
theorem slicesClone_any (A : Option Addr) (n c : Nat) (zs : List Int) (w : World) (h : Ints w A n c zs) (hn : n ≤ 1000000) :
    Calls Try.prog 95 #[.slice A n c] w fun e w' => ∃ A' c', e = .returned (.slice A' n c') ∧ Own w' A' n c' zs ∧ Fresh w.heap.size A' ∧ Below w.heap.size w w' := by
  have hlen := h.len
  cases A with
  | none =>
    have h0 : n = 0 := by
      rcases Nat.eq_zero_or_pos n with h0 | h0
      · exact h0
      · obtain ⟨b, off, he, _⟩ := h.cells h0; cases he
    subst h0
    have hz : zs = [] := List.eq_nil_of_length_eq_zero hlen
    subst hz
    have hn := Go.Lib.run_eql_slice_nil_nil (P := Try.prog) w 0 c Try.underlying28
    go_enter Try.func95, Try.ntmps95
    go_wp2_with fail
    go_ret
    exact ⟨none, 0, rfl, Own.nil, (fun a ha => by cases ha), Below.refl _ _⟩
  | some p =>
    have o0 := own_lit0 w
    have hp := h.later (bel1 w (.cells #[] 2))
    have hnn := Go.Lib.run_eql_slice_some_nil (P := Try.prog) w p n c Try.underlying28
    go_enter Try.func95, Try.ntmps95
    go_wp2_with (at_builtin; refine law_appendL _ rfl _ _ rfl _ _ _ _ rfl o0 _ _ _ _ rfl hp (by omega) ?_; rintro v' w1 ⟨A1, c1, rfl, o1, hb1⟩ hg1)
    go_ret
    rw [Nat.zero_add, List.nil_append] at o1
    have fr : Fresh w.heap.size A1 := fun a ha => by
      subst ha
      rcases hb1 with hb1 | hb1
      · simp at hb1; omega
      · simp at hb1; omega
    refine ⟨A1, c1, by first | rfl | (rw [Nat.zero_add]; rfl) | (simp; rfl), o1, fr, ?_⟩
    exact (bel1 w _).grown hg1 (by simp) (fun i hi => by simp at hi; omega)

/-- a flow list with a multiple of another list added -/
def addL (zs cs : List Int) (a : Int) : List Int := mapTo zs.length (fun i => ig zs i + a * ig cs i)
def addK (zs cs : List Int) (a : Int) (k : Nat) : List Int := mapTo k (fun i => ig zs i + a * ig cs i)
theorem addL_len (zs cs : List Int) (a : Int) : (addL zs cs a).length = zs.length := mapTo_len _ _
theorem addL_ig {zs cs : List Int} {a : Int} {j : Nat} (h : j < zs.length) : ig (addL zs cs a) j = ig zs j + a * ig cs j := mapTo_ig h
theorem addK_succ {zs cs : List Int} {a : Int} {k : Nat} : addK zs cs a (k + 1) = addK zs cs a k ++ [ig zs k + a * ig cs k] := by
  unfold addK mapTo; rw [List.range_succ, List.map_append]; rfl
theorem add_bnd {zs cs : List Int} {a : Int} (hz : ∀ j, -1000000000 ≤ ig zs j ∧ ig zs j ≤ 1000000000) (hc : ∀ j, -1000000000 ≤ ig cs j ∧ ig cs j ≤ 1000000000) (ha : -1000000 ≤ a ∧ a ≤ 1000000) (j : Nat) : (-1000000000000000 ≤ a * ig cs j ∧ a * ig cs j ≤ 1000000000000000) ∧ -1000001000000000 ≤ ig zs j + a * ig cs j ∧ ig zs j + a * ig cs j ≤ 1000001000000000 := by
  have h1 := hz j
  have h2 := hc j
  have h3 := bnd_mul (a := a) (b := ig cs j) (A := 1000000) (B := 1000000000) ha.1 ha.2 h2.1 h2.2
  omega

set_option maxRecDepth 100000 in
set_option maxHeartbeats 4000000 in
theorem l05Add_any (A : Option Addr) (n c : Nat) (zs : List Int) (C2 : Option Addr) (l2 e2 : Nat) (zs2 : List Int) (a : Int) (w : World) (h : Ints w A n c zs) (h2 : Ints w C2 l2 e2 zs2) (hl : n ≤ l2) (hn : n ≤ 1000) (hz : ∀ j, -1000000000 ≤ ig zs j ∧ ig zs j ≤ 1000000000) (hc2 : ∀ j, -1000000000 ≤ ig zs2 j ∧ ig zs2 j ≤ 1000000000) (ha : -1000000 ≤ a ∧ a ≤ 1000000) :
    Calls Try.prog 80 #[.slice A n c, .slice C2 l2 e2, .int .i64 a] w fun e w' => ∃ A' c', e = .returned (.slice A' n c') ∧ Own w' A' n c' (addL zs zs2 a) ∧ Fresh w.heap.size A' ∧ Below w.heap.size w w' := by
  have hlen := h.len
  have hle := h.le
  have hcap := h.cap
  have hle2 := h2.le
  have hcap2 := h2.cap
  have hB := Lib.hid (add_bnd hz hc2 ha)
  have o0 := own_lit0 w
  clear hz hc2
  go_enter Try.func80, Try.ntmps80
  go_wp2_with fail
  go_loopw [7, 8] (fun o i wr => ∃ (k : Nat) (Ao : Option Addr) (co : Nat), k ≤ n ∧ o = .slice Ao k co ∧ i = .int .i64 k ∧ Own wr Ao k co (addK zs zs2 a k) ∧ Fresh w.heap.size Ao ∧ Below w.heap.size w wr) (fun _ i _ => n - (intOf i).toNat)
  case atStart => exact ⟨0, some ⟨w.heap.size, 0, none⟩, 0, by omega, rfl, rfl, o0, (fun a ha => by injection ha with ha; subst ha; exact Nat.le_refl _), bel1 _ _⟩
  case round =>
    obtain ⟨k, Ao, co, hk, rfl, rfl, oo, fo, hb⟩ := hrel
    clear o0
    by_cases hlt : k < n
    · obtain ⟨bb, off, rfl, hbl, hc⟩ := (h.later hb).cells (by omega)
      obtain ⟨bb2, off2, rfl, hbl2, hc2⟩ := (h2.later hb).cells (by omega)
      have hck := hc k hlt
      have hck2 := hc2 k (by omega)
      have hk2 : k < l2 := by omega
      have hbk := hB.out k
      clear hc hc2
      go_wp2_with fail
      apply wp_region_track [16, 17, 18, 19, 20, 21, 22, 23, 24, 25, 26, 27, 28] [eqv _, eqv _, eqv _, eqv _, eqv _, eqv _, eqv _, eqv _, eqv _, eqv _, eqv _, eqv _, isRow 0 1 1 [ig zs k + a * ig zs2 k]]
        (fun w' => Below wr.heap.size wr w') Grw (by kernel_rfl) (by kernel_rfl) rfl (by kernel_rfl)
      case hs =>
        refine ⟨?_, ?_, ?_, ?_, ?_, ?_, ?_, ?_, ?_, ?_, ?_, ?_, ?_, trivial⟩
        · intro ev wt ht hc hg hf hI hd
          have hw1 := wrap_id (z := a * ig zs2 k) ⟨by omega, by omega⟩
          have hw2 := wrap_id (z := ig zs k + a * ig zs2 k) ⟨by omega, by omega⟩
          have e7 : ev (.tmp 7) = .slice Ao k co := ht 7 (by decide)
          exact opok_move _ rfl ⟨hI, Below.refl _ _, e7⟩
        · intro ev wt ht hc hg hf hI hd
          have hw1 := wrap_id (z := a * ig zs2 k) ⟨by omega, by omega⟩
          have hw2 := wrap_id (z := ig zs k + a * ig zs2 k) ⟨by omega, by omega⟩
          have e0 : ev (.tmp 0) = .slice (some ⟨bb, off, none⟩) n c := ht 0 (by decide)
          exact opok_move _ rfl ⟨hI, Below.refl _ _, e0⟩
        · intro ev wt ht hc hg hf hI hd
          have hw1 := wrap_id (z := a * ig zs2 k) ⟨by omega, by omega⟩
          have hw2 := wrap_id (z := ig zs k + a * ig zs2 k) ⟨by omega, by omega⟩
          have e8 : ev (.tmp 8) = .int .i64 k := ht 8 (by decide)
          exact opok_move _ rfl ⟨hI, Below.refl _ _, e8⟩
        · intro ev wt ht hc hg hf hI hd
          have hw1 := wrap_id (z := a * ig zs2 k) ⟨by omega, by omega⟩
          have hw2 := wrap_id (z := ig zs k + a * ig zs2 k) ⟨by omega, by omega⟩
          have e17 : ev (.tmp 17) = _ := hd 1 17 rfl rfl
          have e18 : ev (.tmp 18) = _ := hd 2 18 rfl rfl
          refine opok_gen fun N hN => ?_
          clear hd ht
          go_simp
          exact hN.out _ _ ⟨hI, Below.refl _ _, rfl⟩
        · intro ev wt ht hc hg hf hI hd
          have hw1 := wrap_id (z := a * ig zs2 k) ⟨by omega, by omega⟩
          have hw2 := wrap_id (z := ig zs k + a * ig zs2 k) ⟨by omega, by omega⟩
          have e19 : ev (.tmp 19) = _ := hd 3 19 rfl rfl
          have y1 := (hI.cell (p := ⟨bb, off + k, none⟩) hbl).trans hck
          have y2 := (hI.cell (p := ⟨bb2, off2 + k, none⟩) hbl2).trans hck2
          refine opok_gen fun N hN => ?_
          clear hd ht
          go_simp
          exact hN.out _ _ ⟨hI, Below.refl _ _, rfl⟩
        · intro ev wt ht hc hg hf hI hd
          have hw1 := wrap_id (z := a * ig zs2 k) ⟨by omega, by omega⟩
          have hw2 := wrap_id (z := ig zs k + a * ig zs2 k) ⟨by omega, by omega⟩
          have e2 : ev (.tmp 2) = .int .i64 a := ht 2 (by decide)
          exact opok_move _ rfl ⟨hI, Below.refl _ _, e2⟩
        · intro ev wt ht hc hg hf hI hd
          have hw1 := wrap_id (z := a * ig zs2 k) ⟨by omega, by omega⟩
          have hw2 := wrap_id (z := ig zs k + a * ig zs2 k) ⟨by omega, by omega⟩
          have e1 : ev (.tmp 1) = .slice (some ⟨bb2, off2, none⟩) l2 e2 := ht 1 (by decide)
          exact opok_move _ rfl ⟨hI, Below.refl _ _, e1⟩
        · intro ev wt ht hc hg hf hI hd
          have hw1 := wrap_id (z := a * ig zs2 k) ⟨by omega, by omega⟩
          have hw2 := wrap_id (z := ig zs k + a * ig zs2 k) ⟨by omega, by omega⟩
          have e8 : ev (.tmp 8) = .int .i64 k := ht 8 (by decide)
          exact opok_move _ rfl ⟨hI, Below.refl _ _, e8⟩
        · intro ev wt ht hc hg hf hI hd
          have hw1 := wrap_id (z := a * ig zs2 k) ⟨by omega, by omega⟩
          have hw2 := wrap_id (z := ig zs k + a * ig zs2 k) ⟨by omega, by omega⟩
          have e22 : ev (.tmp 22) = _ := hd 6 22 rfl rfl
          have e23 : ev (.tmp 23) = _ := hd 7 23 rfl rfl
          refine opok_gen fun N hN => ?_
          clear hd ht
          go_simp
          exact hN.out _ _ ⟨hI, Below.refl _ _, rfl⟩
        · intro ev wt ht hc hg hf hI hd
          have hw1 := wrap_id (z := a * ig zs2 k) ⟨by omega, by omega⟩
          have hw2 := wrap_id (z := ig zs k + a * ig zs2 k) ⟨by omega, by omega⟩
          have e24 : ev (.tmp 24) = _ := hd 8 24 rfl rfl
          have y1 := (hI.cell (p := ⟨bb, off + k, none⟩) hbl).trans hck
          have y2 := (hI.cell (p := ⟨bb2, off2 + k, none⟩) hbl2).trans hck2
          refine opok_gen fun N hN => ?_
          clear hd ht
          go_simp
          exact hN.out _ _ ⟨hI, Below.refl _ _, rfl⟩
        · intro ev wt ht hc hg hf hI hd
          have hw1 := wrap_id (z := a * ig zs2 k) ⟨by omega, by omega⟩
          have hw2 := wrap_id (z := ig zs k + a * ig zs2 k) ⟨by omega, by omega⟩
          have e21 : ev (.tmp 21) = _ := hd 5 21 rfl rfl
          have e25 : ev (.tmp 25) = _ := hd 9 25 rfl rfl
          refine opok_gen fun N hN => ?_
          clear hd ht
          go_simp
          exact hN.out _ _ ⟨hI, Below.refl _ _, rfl⟩
        · intro ev wt ht hc hg hf hI hd
          have hw1 := wrap_id (z := a * ig zs2 k) ⟨by omega, by omega⟩
          have hw2 := wrap_id (z := ig zs k + a * ig zs2 k) ⟨by omega, by omega⟩
          have e20 : ev (.tmp 20) = _ := hd 4 20 rfl rfl
          have e26 : ev (.tmp 26) = _ := hd 10 26 rfl rfl
          refine opok_gen fun N hN => ?_
          clear hd ht
          go_simp
          exact hN.out _ _ ⟨hI, Below.refl _ _, rfl⟩
        · intro ev wt ht hc hg hf hI hd
          have hw1 := wrap_id (z := a * ig zs2 k) ⟨by omega, by omega⟩
          have hw2 := wrap_id (z := ig zs k + a * ig zs2 k) ⟨by omega, by omega⟩
          have e27 : ev (.tmp 27) = _ := hd 11 27 rfl rfl
          refine opok_gen fun N hN => ?_
          clear hd ht
          go_simp
          exact hN.out _ _ ⟨below_step hI (bel1 _ _), bel1 _ _, ⟨_, rfl, own_lit _ (ig zs k + a * ig zs2 k) ⟨by omega, by omega⟩, Nat.zero_le _⟩⟩
      case hst =>
        refine fun j v w w' _ h1 h2 => StbL.nth (S := Grw) ?_ j v w w' h1 h2
        exact ⟨stb_eqv _, stb_eqv _, stb_eqv _, stb_eqv _, stb_eqv _, stb_eqv _, stb_eqv _, stb_eqv _, stb_eqv _, stb_eqv _, stb_eqv _, stb_eqv _, stb_row, trivial⟩
      case hI => exact (Below.refl _ _).drew
      case hl =>
        rintro wt hI _ rfl _ rfl _ rfl _ rfl _ rfl _ rfl _ rfl _ rfl _ rfl _ rfl _ rfl _ rfl _ ⟨bq, rfl, oq, _⟩
        simp only [Lasts, List.length_cons, List.length_nil, Nat.reduceAdd, List.drop_succ_cons, List.drop_zero, Act.put, List.setIfInBounds_toArray, List.set_cons_succ, List.set_cons_zero]
        have ot := oo.later hI
        have hxt := below_step hb hI
        have cq : wt.cell? ⟨bq, 0, none⟩ = some (.int .i64 (ig zs k + a * ig zs2 k)) := oq.cell (j := 0) (by omega)
        go_wp2_with (at_builtin; refine law_append _ rfl _ _ rfl Ao _ co _ rfl ot _ _ _ ⟨by omega, by omega⟩ rfl cq (by omega) ?_; intro A3 c3 w3 ho3 hg3 hb3)
        go_roundw
        case rel => exact ⟨k + 1, A3, c3, by omega, rfl, by go_num, by rw [addK_succ]; exact ho3, fresh_app fo hxt.size hb3, below_app hxt fo hg3⟩
        case measure => simp [intOf]; omega
    · have hkn : n = k := by omega
      subst hkn
      go_wp2_with fail
      go_ret
      refine ⟨Ao, co, rfl, ?_, fo, hb⟩
      unfold addL
      rw [hlen]; exact oo

set_option maxHeartbeats 1000000 in
theorem checkedFlows_is (A : Option Addr) (n c : Nat) (zs : List Int) (b : Bool) (w : World) (h : Ints w A n c zs) (hb : allB zs (-30000) 30000 = b) :
    Calls Try.prog 62 #[.slice A n c] w fun e w' => e = .returned (.tuple #[if b then .slice A n c else .slice none 0 0, .int .i64 (if b then 0 else 2)]) ∧ w = w' := by
  cases b with
  | false =>
    go_enter Try.func62, Try.ntmps62
    go_wp2_with fail
    refine (allWithin_any _ _ _ _ _ _ _ h).mono ?_
    rintro e w' ⟨rfl, rfl⟩
    rw [hb]
    go_wp2_with fail
    go_ret2
    exact ⟨rfl, rfl⟩
  | true =>
    go_enter Try.func62, Try.ntmps62
    go_wp2_with fail
    refine (allWithin_any _ _ _ _ _ _ _ h).mono ?_
    rintro e w' ⟨rfl, rfl⟩
    rw [hb]
    go_wp2_with fail
    go_ret2
    exact ⟨rfl, rfl⟩

/-! ### AddFlows -/
def rAddFlows (net : Net) (zs zs2 : List Int) : List Int × Int :=
  if codeF net zs = 0 then (if flowB net zs2 then (if allB (addL zs zs2 1) (-30000) 30000 then (addL zs zs2 1, 0) else ([], 2)) else ([], 3)) else ([], codeF net zs)
theorem rAddFlows_len (net : Net) (zs zs2 : List Int) (h : zs.length ≤ 1048576) (_h : zs2.length ≤ 1048576) : (rAddFlows net zs zs2).1.length ≤ 1048576 := by
  unfold rAddFlows
  split
  · split
    · split
      · rw [addL_len]; exact h
      · simp
    · simp
  · simp
def addH (zs cs : List Int) (k : Nat) : List Int := mapTo zs.length (fun i => if i < k then ig zs i + 1 * ig cs i else ig zs i)
theorem addH_zero (zs cs : List Int) : addH zs cs 0 = zs := by
  refine ext_ig (mapTo_len _ _) fun j hj => ?_
  rw [addH, mapTo_len] at hj
  rw [addH, mapTo_ig hj]; simp
theorem addH_set {zs cs : List Int} {k : Nat} : (addH zs cs k).set k (ig zs k + ig cs k) = addH zs cs (k + 1) := mapTo_set fun v _ => by
  by_cases e : k = v
  · subst e; simp
  · rw [if_neg e]
    by_cases h : v < k
    · rw [if_pos h, if_pos (by omega)]
    · rw [if_neg h, if_neg (by omega)]
theorem addH_end {zs cs : List Int} {k : Nat} (h : zs.length ≤ k) : addH zs cs k = addL zs cs 1 := List.map_congr_left fun v hv => by
  have := List.mem_range.1 hv
  rw [if_pos (by omega)]
theorem addH_at {zs cs : List Int} {k : Nat} (h : k < zs.length) : ig (addH zs cs k) k = ig zs k := by rw [addH, mapTo_ig h]; simp

end Go.Proofs.Ytllblmndoigdlaa
