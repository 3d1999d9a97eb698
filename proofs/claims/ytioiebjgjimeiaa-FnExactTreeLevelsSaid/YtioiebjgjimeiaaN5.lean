/- IsNetwork -/
import Derived.Test.YtioiebjgjimeiaaN4
import Derived.Test.YtioiebjgjimeiaaStage
namespace Go.Proofs.Ytioiebjgjimeiaa
open Go.RowKit

def pipeB (p : Pipe) (n : Int) : Bool := inB p.fr 0 (n - 1) && inB p.to 0 (n - 1) && (p.fr != p.to) && inB p.k 1 1000 && inB p.vol 0 1000000 && inB p.lim 1 30000
def nodeOkB (ns : List Node) (i : Nat) : Bool := nodeB (nd ns i) && !hasName (ns.take i) (nd ns i).name
/-- is the network valid -/
def netB (net : Net) : Bool := (decide (1 ≤ net.nodes.length) && decide (net.nodes.length ≤ 24) && decide (net.pipes.length ≤ 40)) && ((List.range net.nodes.length).all (nodeOkB net.nodes) && (List.range net.pipes.length).all (fun j => pipeB (pp net.pipes j) net.nodes.length))

theorem netB_size {net : Net} (h : ¬ (1 ≤ net.nodes.length ∧ net.nodes.length ≤ 24 ∧ net.pipes.length ≤ 40)) : netB net = false := by
  unfold netB
  have : (decide (1 ≤ net.nodes.length) && decide (net.nodes.length ≤ 24) && decide (net.pipes.length ≤ 40)) = false := by
    rw [Bool.eq_false_iff]; intro h'; simp at h'; exact h ⟨by omega, by omega, by omega⟩
  rw [this, Bool.false_and]
theorem netB_node {net : Net} {i : Nat} (hi : i < net.nodes.length) (h : nodeOkB net.nodes i = false) : netB net = false := by
  unfold netB
  have : (List.range net.nodes.length).all (nodeOkB net.nodes) = false := by rw [List.all_eq_false]; exact ⟨i, List.mem_range.2 hi, by simp [h]⟩
  rw [this, Bool.false_and, Bool.and_false]
theorem netB_pipe {net : Net} {i : Nat} (hi : i < net.pipes.length) (h : pipeB (pp net.pipes i) net.nodes.length = false) : netB net = false := by
  unfold netB
  have : (List.range net.pipes.length).all (fun j => pipeB (pp net.pipes j) net.nodes.length) = false := by rw [List.all_eq_false]; exact ⟨i, List.mem_range.2 hi, by simp [h]⟩
  rw [this, Bool.and_false, Bool.and_false]
theorem netB_yes {net : Net} {k m : Nat} (h1 : 1 ≤ net.nodes.length) (h2 : net.nodes.length ≤ 24) (h3 : net.pipes.length ≤ 40) (hk : net.nodes.length ≤ k) (hn : ∀ j, j < k → nodeOkB net.nodes j = true)
    (hm : net.pipes.length ≤ m) (hp : ∀ j, j < m → pipeB (pp net.pipes j) net.nodes.length = true) : netB net = true := by
  unfold netB
  have a : (List.range net.nodes.length).all (nodeOkB net.nodes) = true := by rw [List.all_eq_true]; intro x hx; exact hn x (by have := List.mem_range.1 hx; omega)
  have b : (List.range net.pipes.length).all (fun j => pipeB (pp net.pipes j) net.nodes.length) = true := by rw [List.all_eq_true]; intro x hx; exact hp x (by have := List.mem_range.1 hx; omega)
  rw [a, b]; simp [h1, h2, h3]

set_option maxHeartbeats 1000000 in
theorem isNodeOf_any (A B : Option Addr) (n c m d : Nat) (x : Int) (w : World) (hn : n ≤ 9223372036854775807) :
    Calls Try.prog 106 #[.agg #[.slice A n c, .slice B m d], .int .i64 x] w fun e w' => e = .returned (.bool (inB x 0 ((n : Int) - 1))) ∧ Below w.heap.size w w' := by
  go_enter Try.func106, Try.ntmps106
  go_wp2_with (go_at_call 136; refine (within_any _ _ _ _).mono ?_; rintro e w' ⟨rfl, rfl⟩)
  go_ret
  exact ⟨rfl, bel1 _ _⟩

theorem isNodeOf_is (A B : Option Addr) (n c m d : Nat) (x : Int) (b : Bool) (w : World) (hn : n ≤ 9223372036854775807) (hb : inB x 0 ((n : Int) - 1) = b) :
    Calls Try.prog 106 #[.agg #[.slice A n c, .slice B m d], .int .i64 x] w fun e w' => e = .returned (.bool b) ∧ Below w.heap.size w w' :=
  (isNodeOf_any A B n c m d x w hn).mono fun _ _ ⟨h1, h2⟩ => ⟨h1.trans (by rw [hb]), h2⟩
theorem within_is (n lo hi : Int) (b : Bool) (w : World) (hb : inB n lo hi = b) :
    Calls Try.prog 136 #[.int .i64 n, .int .i64 lo, .int .i64 hi] w fun e w' => e = .returned (.bool b) ∧ w = w' :=
  (within_any n lo hi w).mono fun _ _ ⟨h1, h2⟩ => ⟨h1.trans (by rw [hb]), h2⟩
theorem pipeB_yes {p : Pipe} {n : Int} (h1 : inB p.fr 0 (n - 1) = true) (h2 : inB p.to 0 (n - 1) = true) (h3 : (p.fr == p.to) = false) (h4 : inB p.k 1 1000 = true) (h5 : inB p.vol 0 1000000 = true) (h6 : inB p.lim 1 30000 = true) : pipeB p n = true := by
  unfold pipeB bne; rw [h1, h2, h3, h4, h5, h6]; rfl
theorem pipeB_no {p : Pipe} {n : Int} (h : inB p.fr 0 (n - 1) = false ∨ inB p.to 0 (n - 1) = false ∨ (p.fr == p.to) = true ∨ inB p.k 1 1000 = false ∨ inB p.vol 0 1000000 = false ∨ inB p.lim 1 30000 = false) : pipeB p n = false := by
  unfold pipeB bne
  rcases h with h | h | h | h | h | h <;> rw [h] <;> simp

theorem implIsNode_is (x : Node) (b : Bool) (w : World) (hs : x.ok) (hb : nodeB x = b) :
    Calls Try.prog 152 #[.agg #[.string x.name, .int .i64 x.low, .int .i64 x.high]] w fun e w' => e = .returned (.bool b) ∧ Below w.heap.size w w' :=
  (implIsNode_any x w hs).mono fun _ _ ⟨h1, h2⟩ => ⟨h1.trans (by rw [hb]), h2⟩

set_option maxHeartbeats 2000000 in
theorem implIsNetwork_any (A B : Option Addr) (n c m d : Nat) (net : Net) (w : World) (h : NetAt w A n c B m d net) :
    Calls Try.prog 79 #[.agg #[.slice A n c, .slice B m d]] w fun e w' => e = .returned (.bool (netB net)) ∧ Below w.heap.size w w' := by
  have hln := h.nodes.len
  have hlp := h.pipes.len
  have hcn := h.nodes.cap
  have hcp := h.pipes.cap
  have hnl := h.nodes.le
  have hpl := h.pipes.le
  rcases hin : inB n 1 24 with _ | _
  · have hf : netB net = false := netB_size (by rw [hln, hlp]; intro h'; have := inB_iff'.2 (show (1:Int) ≤ n ∧ (n:Int) ≤ 24 by omega); rw [this] at hin; cases hin)
    have HF := Lib.hid hf
    clear hf hln hlp
    go_enter Try.func79, Try.ntmps79
    go_wp2_with (go_at_call 136; refine (within_any _ _ _ _).mono ?_; rintro e w' ⟨rfl, rfl⟩)
    go_ret
    exact ⟨ret_bool HF.out.symm, bel1 _ _⟩
  · obtain ⟨n1, n24⟩ := inB_iff'.1 hin
    by_cases hm40 : 40 < m
    · have hf : netB net = false := netB_size (by rw [hln, hlp]; omega)
      have HF := Lib.hid hf
      clear hf hln hlp
      go_enter Try.func79, Try.ntmps79
      go_wp2_with (go_at_call 136; refine (within_any _ _ _ _).mono ?_; rintro e w' ⟨rfl, rfl⟩)
      go_ret
      exact ⟨ret_bool HF.out.symm, bel1 _ _⟩
    · have HLN := Lib.hid hln
      have HLP := Lib.hid hlp
      have hm40' : decide (40 < (m : Int)) = false := by simp; omega
      clear hln hlp
      go_enter Try.func79, Try.ntmps79
      go_wp2_with (go_at_call 136; refine (within_any _ _ _ _).mono ?_; rintro e w' ⟨rfl, rfl⟩)
      go_loopw [21] (fun i wr => ∃ k : Nat, k ≤ n ∧ i = .int .i64 k ∧ Hid (∀ j, j < k → nodeOkB net.nodes j = true) ∧ Below w.heap.size w wr ∧ Hid (wr.heap[w.heap.size]? = some (.cells #[.slice A n c, .slice B m d] 27 (0, 0)))) (fun i _ => n - (intOf i).toNat)
      case atStart => exact ⟨0, by omega, rfl, Lib.hid (fun j hj => absurd hj (by omega)), bel1 _ _, Lib.hid (heap_alloc_new w _)⟩
      case round =>
        obtain ⟨k, hk, rfl, hq, hb, hg⟩ := hrel
        have kc0 := cell_blk hg.out 0
        have kc1 := cell_blk hg.out 1
        simp at kc0 kc1
        have hbs := hb.size
        have hgl := (Array.getElem?_eq_some_iff.1 hg.out).1
        by_cases hlt : k < n
        · obtain ⟨b, off, rfl, hbl, hc⟩ := (h.nodes.later hb).cells (by omega)
          obtain ⟨c0, c1, c2⟩ := hc k hlt
          have hok := nd_ok h.nodes.ok k
          clear hc
          rcases hnb : nodeB (nd net.nodes k) with _ | _
          · have HF := Lib.hid (netB_node (net := net) (i := k) (by rw [HLN.out]; exact hlt) (by simp [nodeOkB, hnb]))
            go_wp2_with fail
            refine wp_region_stage_q 4 11 (by kernel_rfl) (by kernel_rfl) ?_
            simp only [List.take_succ_cons, List.take_zero, List.drop_succ_cons, List.drop_zero]
            intro K HK
            go_wp2_with (go_at_call 152; refine (implIsNode_is (nd net.nodes k) false _ hok hnb).mono ?_; rintro e w2 ⟨rfl, b2⟩)
            refine HK.out _ _ ?_
            clear HK K
            repeat (go_big_quiet_step (fail))
            refine wpQuiet_nil ?_
            go_wp2_with fail
            go_ret
            exact ⟨ret_bool HF.out.symm, below_step (hb.alloc hbs _) ((Below.refl _ _).drew.trans b2)⟩
          · have hsub := (h.nodes.later hb).sub (k := k) (by omega)
            have HSUB := Lib.hid hsub
            clear hsub
            have hkc : k ≤ c := by omega
            have hbw : b < w.heap.size := by obtain ⟨b', off', e, hb', _⟩ := h.nodes.cells (by omega); injection e with e; injection e with e; omega
            go_wp2_with fail
            refine wp_region_stage_q 4 11 (by kernel_rfl) (by kernel_rfl) ?_
            simp only [List.take_succ_cons, List.take_zero, List.drop_succ_cons, List.drop_zero]
            intro K HK
            go_wp2_with (go_at_call 152; refine (implIsNode_is (nd net.nodes k) true _ hok hnb).mono ?_; rintro e w2 ⟨rfl, b2⟩)
            refine HK.out _ _ ?_
            clear HK K
            have b2' : Below (wr.alloc (.cells #[.string (nd net.nodes k).name, .int .i64 (nd net.nodes k).low, .int .i64 (nd net.nodes k).high] 48)).heap.size (wr.alloc (.cells #[.string (nd net.nodes k).name, .int .i64 (nd net.nodes k).low, .int .i64 (nd net.nodes k).high] 48)) w2 := (Below.refl _ _).drew.trans b2
            have g2 := (b2'.block wr.heap.size (by simp)).trans (heap_alloc_new wr _)
            have x0 := cell_blk g2 0
            have t2 := below_step (hb.alloc hbs _) b2'
            have hg2 := (b2'.block w.heap.size (by simp; omega)).trans ((Below.heap_alloc wr _ _ hgl).trans hg.out)
            have y0 := cell_blk hg2 0
            simp at x0 y0
            have HG2 := Lib.hid hg2
            have hn2 := HSUB.out.later (below_step (bel1 wr _) b2')
            have hs2 := t2.size
            have hs2' := b2'.size
            simp at hs2'
            clear hg2 g2 b2 b2' kc0 kc1 c0 c1 c2
            repeat (go_big_quiet_step (fail))
            refine wpQuiet_nil ?_
            go_wp2_with fail
            refine (nodeIndex_any _ _ _ _ _ _ _ _ _ hn2).mono ?_
            rintro e w3 ⟨r, rfl, hr, b3⟩
            have t3 := below_step t2 b3
            have HG3 := Lib.hid ((b3.block w.heap.size (by omega)).trans HG2.out)
            rcases hh : hasName (net.nodes.take k) (nd net.nodes k).name with _ | _
            · have hr' : r < 0 := by
                rcases Int.lt_or_le r 0 with h' | h'
                · exact h'
                · rw [hr.1 h'] at hh; cases hh
              have HQ : Hid (∀ j, j < k + 1 → nodeOkB net.nodes j = true) := Lib.hid (fun j hj => by
                rcases Nat.lt_or_ge j k with h' | h'
                · exact hq.out j h'
                · have : j = k := by omega
                  subst this; simp [nodeOkB, hnb, hh])
              clear hh hr
              go_wp2_with fail
              go_roundw
              case rel => exact ⟨k + 1, by omega, by go_num, HQ, t3, HG3⟩
              case measure => simp [intOf]; omega
            · have hr' : 0 ≤ r := hr.2 hh
              have HF := Lib.hid (netB_node (net := net) (i := k) (by rw [HLN.out]; exact hlt) (by simp [nodeOkB, hnb, hh]))
              clear hh hr
              go_wp2_with fail
              go_ret
              exact ⟨ret_bool HF.out.symm, t3⟩
        · have hkn : k = n := by omega
          subst hkn
          go_wp2_with fail
          go_loopw [44] (fun i wr => ∃ q : Nat, q ≤ m ∧ i = .int .i64 q ∧ Hid (∀ j, j < q → pipeB (pp net.pipes j) net.nodes.length = true) ∧ Below w.heap.size w wr ∧ Hid (wr.heap[w.heap.size]? = some (.cells #[.slice A k c, .slice B m d] 27 (0, 0)))) (fun i _ => m - (intOf i).toNat)
          case atStart => exact ⟨0, by omega, rfl, Lib.hid (fun j hj => absurd hj (by omega)), hb, hg⟩
          case round =>
            clear kc0 kc1 hgl hbs hb hg
            obtain ⟨q, hqm, rfl, hp, hb, hg⟩ := hrel
            have kc0 := cell_blk hg.out 0
            have kc1 := cell_blk hg.out 1
            simp at kc0 kc1
            have hbs := hb.size
            have hgl := (Array.getElem?_eq_some_iff.1 hg.out).1
            by_cases hlt2 : q < m
            · obtain ⟨b, off, rfl, hbl, hc⟩ := (h.pipes.later hb).cells (by omega)
              obtain ⟨c0, c1, c2, c3, c4⟩ := hc q hlt2
              clear hc
              have HPB : Hid (pipeB (pp net.pipes q) net.nodes.length = pipeB (pp net.pipes q) k) := by rw [HLN.out]; rfl
              have hln : k ≤ 9223372036854775807 := by omega
              have fin : pipeB (pp net.pipes q) k = false → netB net = false := fun hf => netB_pipe (i := q) (by rw [HLP.out]; exact hlt2) (by rw [HPB.out]; exact hf)
              have FIN := Lib.hid fin
              clear fin
              have tw := hb.alloc hbs (.cells #[.int .i64 (pp net.pipes q).fr, .int .i64 (pp net.pipes q).to, .int .i64 (pp net.pipes q).k, .int .i64 (pp net.pipes q).vol, .int .i64 (pp net.pipes q).lim] 64)
              have HGW := Lib.hid ((Below.heap_alloc wr (.cells #[.int .i64 (pp net.pipes q).fr, .int .i64 (pp net.pipes q).to, .int .i64 (pp net.pipes q).k, .int .i64 (pp net.pipes q).vol, .int .i64 (pp net.pipes q).lim] 64) _ hgl).trans hg.out)
              have HXW := Lib.hid (heap_alloc_new wr (.cells #[.int .i64 (pp net.pipes q).fr, .int .i64 (pp net.pipes q).to, .int .i64 (pp net.pipes q).k, .int .i64 (pp net.pipes q).vol, .int .i64 (pp net.pipes q).lim] 64))
              have hsw : (wr.alloc (.cells #[.int .i64 (pp net.pipes q).fr, .int .i64 (pp net.pipes q).to, .int .i64 (pp net.pipes q).k, .int .i64 (pp net.pipes q).vol, .int .i64 (pp net.pipes q).lim] 64)).heap.size = wr.heap.size + 1 := by simp
              have HSW := Lib.hid hsw
              clear hsw
              go_wp2_with fail
              rcases e1 : inB (pp net.pipes q).fr 0 ((k : Int) - 1) with _ | _
              · refine (isNodeOf_is _ _ _ _ _ _ _ false _ hln e1).mono ?_
                rintro e w2 ⟨rfl, b2⟩
                have t2 := below_step tw b2
                have HF := Lib.hid (FIN.out (pipeB_no (.inl e1)))
                go_wp2_with fail
                go_ret
                exact ⟨ret_bool HF.out.symm, t2⟩
              · refine (isNodeOf_is _ _ _ _ _ _ _ true _ hln e1).mono ?_
                rintro e w2 ⟨rfl, b2⟩
                have t2 := below_step tw b2
                have g2 := (b2.block w.heap.size (by rw [HSW.out]; omega)).trans HGW.out
                have x2 := (b2.block wr.heap.size (by rw [HSW.out]; omega)).trans HXW.out
                have hs2 := b2.size
                rw [HSW.out] at hs2
                have ya := cell_blk g2 0
                have yb := cell_blk g2 1
                have y1 := cell_blk x2 1
                simp at ya yb y1
                have G2 := Lib.hid g2
                have X2 := Lib.hid x2
                clear g2 x2 b2 kc0 kc1 c0 c1 c2 c3 c4 tw
                go_wp2_with fail
                rcases e2 : inB (pp net.pipes q).to 0 ((k : Int) - 1) with _ | _
                · refine (isNodeOf_is _ _ _ _ _ _ _ false _ hln e2).mono ?_
                  rintro e w3 ⟨rfl, b3⟩
                  have HF := Lib.hid (FIN.out (pipeB_no (.inr (.inl e2))))
                  have t3 := below_step t2 b3
                  go_wp2_with fail
                  go_ret
                  exact ⟨ret_bool HF.out.symm, t3⟩
                · refine (isNodeOf_is _ _ _ _ _ _ _ true _ hln e2).mono ?_
                  rintro e w3 ⟨rfl, b3⟩
                  have t3 := below_step t2 b3
                  have g3 := (b3.block w.heap.size (by omega)).trans G2.out
                  have x3 := (b3.block wr.heap.size (by omega)).trans X2.out
                  have z0 := cell_blk x3 0
                  have z1 := cell_blk x3 1
                  have z2 := cell_blk x3 2
                  have z3 := cell_blk x3 3
                  have z4 := cell_blk x3 4
                  simp at z0 z1 z2 z3 z4
                  have G3 := Lib.hid g3
                  clear g3 x3 b3 G2 X2 ya yb y1
                  rcases e3 : ((pp net.pipes q).fr == (pp net.pipes q).to) with _ | _
                  · rcases e4 : inB (pp net.pipes q).k 1 1000 with _ | _
                    · have HF := Lib.hid (FIN.out (pipeB_no (.inr (.inr (.inr (.inl e4))))))
                      go_wp2_with (go_at_call 136; refine (within_is _ _ _ _ _ e4).mono ?_; rintro e w' ⟨rfl, rfl⟩)
                      go_ret
                      exact ⟨ret_bool HF.out.symm, t3⟩
                    · rcases e5 : inB (pp net.pipes q).vol 0 1000000 with _ | _
                      · have HF := Lib.hid (FIN.out (pipeB_no (.inr (.inr (.inr (.inr (.inl e5)))))))
                        go_wp2_with fail
                        refine (within_is _ _ _ _ _ e4).mono ?_
                        rintro e w' ⟨rfl, rfl⟩
                        go_wp2_with fail
                        refine (within_is _ _ _ _ _ e5).mono ?_
                        rintro e w' ⟨rfl, rfl⟩
                        go_wp2_with fail
                        go_ret
                        exact ⟨ret_bool HF.out.symm, t3⟩
                      · rcases e6 : inB (pp net.pipes q).lim 1 30000 with _ | _
                        · have HF := Lib.hid (FIN.out (pipeB_no (.inr (.inr (.inr (.inr (.inr e6)))))))
                          go_wp2_with fail
                          refine (within_is _ _ _ _ _ e4).mono ?_
                          rintro e w' ⟨rfl, rfl⟩
                          go_wp2_with fail
                          refine (within_is _ _ _ _ _ e5).mono ?_
                          rintro e w' ⟨rfl, rfl⟩
                          go_wp2_with fail
                          refine (within_is _ _ _ _ _ e6).mono ?_
                          rintro e w' ⟨rfl, rfl⟩
                          go_wp2_with fail
                          go_ret
                          exact ⟨ret_bool HF.out.symm, t3⟩
                        · have HP : Hid (∀ j, j < q + 1 → pipeB (pp net.pipes j) net.nodes.length = true) := Lib.hid (fun j hj => by
                            rcases Nat.lt_or_ge j q with h' | h'
                            · exact hp.out j h'
                            · have : j = q := by omega
                              subst this; rw [HPB.out]; exact pipeB_yes e1 e2 e3 e4 e5 e6)
                          go_wp2_with fail
                          refine (within_is _ _ _ _ _ e4).mono ?_
                          rintro e w' ⟨rfl, rfl⟩
                          go_wp2_with fail
                          refine (within_is _ _ _ _ _ e5).mono ?_
                          rintro e w' ⟨rfl, rfl⟩
                          go_wp2_with fail
                          refine (within_is _ _ _ _ _ e6).mono ?_
                          rintro e w' ⟨rfl, rfl⟩
                          go_wp2_with fail
                          go_roundw
                          case rel => exact ⟨q + 1, by omega, by go_num, HP, t3, G3⟩
                          case measure => simp [intOf]; omega
                  · have HF := Lib.hid (FIN.out (pipeB_no (.inr (.inr (.inl e3)))))
                    go_wp2_with fail
                    go_ret
                    exact ⟨ret_bool HF.out.symm, t3⟩
            · have HY := Lib.hid (netB_yes (net := net) (by rw [HLN.out]; omega) (by rw [HLN.out]; omega) (by rw [HLP.out]; omega) (by rw [HLN.out]; exact Nat.le_refl _) hq.out (by rw [HLP.out]; omega) hp.out)
              go_wp2_with fail
              go_ret
              exact ⟨ret_bool HY.out.symm, hb⟩

end Go.Proofs.Ytioiebjgjimeiaa
