/- IsNetwork of the reference -/
import Derived.Test.YtioiebjgjimeiaaN5
namespace Go.Proofs.Ytioiebjgjimeiaa
open Go.RowKit

theorem l01In_is (n lo hi : Int) (b : Bool) (w : World) (hb : inB n lo hi = b) :
    Calls Try.prog 164 #[.int .i64 n, .int .i64 lo, .int .i64 hi] w fun e w' => e = .returned (.bool b) ∧ w = w' :=
  (l01In_any n lo hi w).mono fun _ _ ⟨h1, h2⟩ => ⟨h1.trans (by rw [hb]), h2⟩

set_option maxHeartbeats 2000000 in
theorem l02Pipe_any (p : Pipe) (n : Nat) (w : World) (hn : n ≤ 9223372036854775807) :
    Calls Try.prog 148 #[.agg #[.int .i64 p.fr, .int .i64 p.to, .int .i64 p.k, .int .i64 p.vol, .int .i64 p.lim], .int .i64 (n : Int)] w fun e w' => e = .returned (.bool (pipeB p n)) ∧ Below w.heap.size w w' := by
  rcases e1 : inB p.fr 0 ((n : Int) - 1) with _ | _
  · have HF := Lib.hid (pipeB_no (p := p) (n := n) (.inl e1))
    go_enter Try.func148, Try.ntmps148
    go_wp2_with fail
    refine (l01In_is _ _ _ _ _ e1).mono ?_
    rintro e w' ⟨rfl, rfl⟩
    go_wp2_with fail
    go_ret
    exact ⟨ret_bool HF.out.symm, bel1 _ _⟩
  · rcases e2 : inB p.to 0 ((n : Int) - 1) with _ | _
    · have HF := Lib.hid (pipeB_no (p := p) (n := n) (.inr (.inl e2)))
      go_enter Try.func148, Try.ntmps148
      go_wp2_with fail
      refine (l01In_is _ _ _ _ _ e1).mono ?_
      rintro e w' ⟨rfl, rfl⟩
      go_wp2_with fail
      refine (l01In_is _ _ _ _ _ e2).mono ?_
      rintro e w' ⟨rfl, rfl⟩
      go_wp2_with fail
      go_ret
      exact ⟨ret_bool HF.out.symm, bel1 _ _⟩
    · rcases e3 : (p.fr == p.to) with _ | _
      · have e3' : (p.fr != p.to) = true := by unfold bne; rw [e3]; rfl
        rcases e4 : inB p.k 1 1000 with _ | _
        · have HF := Lib.hid (pipeB_no (p := p) (n := n) (.inr (.inr (.inr (.inl e4)))))
          go_enter Try.func148, Try.ntmps148
          go_wp2_with fail
          refine (l01In_is _ _ _ _ _ e1).mono ?_
          rintro e w' ⟨rfl, rfl⟩
          go_wp2_with fail
          refine (l01In_is _ _ _ _ _ e2).mono ?_
          rintro e w' ⟨rfl, rfl⟩
          go_wp2_with fail
          refine (l01In_is _ _ _ _ _ e4).mono ?_
          rintro e w' ⟨rfl, rfl⟩
          go_wp2_with fail
          go_ret
          exact ⟨ret_bool HF.out.symm, bel1 _ _⟩
        · rcases e5 : inB p.vol 0 1000000 with _ | _
          · have HF := Lib.hid (pipeB_no (p := p) (n := n) (.inr (.inr (.inr (.inr (.inl e5))))))
            go_enter Try.func148, Try.ntmps148
            go_wp2_with fail
            refine (l01In_is _ _ _ _ _ e1).mono ?_
            rintro e w' ⟨rfl, rfl⟩
            go_wp2_with fail
            refine (l01In_is _ _ _ _ _ e2).mono ?_
            rintro e w' ⟨rfl, rfl⟩
            go_wp2_with fail
            refine (l01In_is _ _ _ _ _ e4).mono ?_
            rintro e w' ⟨rfl, rfl⟩
            go_wp2_with fail
            refine (l01In_is _ _ _ _ _ e5).mono ?_
            rintro e w' ⟨rfl, rfl⟩
            go_wp2_with fail
            go_ret
            exact ⟨ret_bool HF.out.symm, bel1 _ _⟩
          · obtain ⟨b6, e6⟩ : ∃ b, inB p.lim 1 30000 = b := ⟨_, rfl⟩
            have HF : Hid (pipeB p n = b6) := by
              cases b6
              · exact pipeB_no (.inr (.inr (.inr (.inr (.inr e6)))))
              · exact pipeB_yes e1 e2 e3 e4 e5 e6
            go_enter Try.func148, Try.ntmps148
            go_wp2_with fail
            refine (l01In_is _ _ _ _ _ e1).mono ?_
            rintro e w' ⟨rfl, rfl⟩
            go_wp2_with fail
            refine (l01In_is _ _ _ _ _ e2).mono ?_
            rintro e w' ⟨rfl, rfl⟩
            go_wp2_with fail
            refine (l01In_is _ _ _ _ _ e4).mono ?_
            rintro e w' ⟨rfl, rfl⟩
            go_wp2_with fail
            refine (l01In_is _ _ _ _ _ e5).mono ?_
            rintro e w' ⟨rfl, rfl⟩
            go_wp2_with fail
            refine (l01In_is _ _ _ _ _ e6).mono ?_
            rintro e w' ⟨rfl, rfl⟩
            go_wp2_with fail
            go_ret
            exact ⟨ret_bool HF.out.symm, bel1 _ _⟩
      · have e3' : (p.fr != p.to) = false := by unfold bne; rw [e3]; rfl
        have HF := Lib.hid (pipeB_no (p := p) (n := n) (.inr (.inr (.inl e3))))
        go_enter Try.func148, Try.ntmps148
        go_wp2_with fail
        refine (l01In_is _ _ _ _ _ e1).mono ?_
        rintro e w' ⟨rfl, rfl⟩
        go_wp2_with fail
        refine (l01In_is _ _ _ _ _ e2).mono ?_
        rintro e w' ⟨rfl, rfl⟩
        go_wp2_with fail
        go_ret
        exact ⟨ret_bool HF.out.symm, bel1 _ _⟩

theorem specIsNode_is (x : Node) (b : Bool) (w : World) (hs : x.ok) (hb : nodeB x = b) :
    Calls Try.prog 147 #[.agg #[.string x.name, .int .i64 x.low, .int .i64 x.high]] w fun e w' => e = .returned (.bool b) ∧ Below w.heap.size w w' :=
  (specIsNode_any x w hs).mono fun _ _ ⟨h1, h2⟩ => ⟨h1.trans (by rw [hb]), h2⟩
theorem l02Pipe_is (p : Pipe) (n : Nat) (b : Bool) (w : World) (hn : n ≤ 9223372036854775807) (hb : pipeB p n = b) :
    Calls Try.prog 148 #[.agg #[.int .i64 p.fr, .int .i64 p.to, .int .i64 p.k, .int .i64 p.vol, .int .i64 p.lim], .int .i64 (n : Int)] w fun e w' => e = .returned (.bool b) ∧ Below w.heap.size w w' :=
  (l02Pipe_any p n w hn).mono fun _ _ ⟨h1, h2⟩ => ⟨h1.trans (by rw [hb]), h2⟩

theorem nd_take {ns : List Node} {k j : Nat} (h : j < k) : nd (ns.take k) j = nd ns j := by
  unfold nd; rw [List.getD_eq_getElem?_getD, List.getElem?_take_of_lt h, List.getD_eq_getElem?_getD]
theorem hasName_take_yes {ns : List Node} {k j : Nat} (hk : k < ns.length) (hj : j < k) (h : sameName (nd ns k).name (nd ns j).name = true) : hasName (ns.take k) (nd ns k).name = true :=
  hasName_yes (j := j) (by rw [List.length_take]; omega) (by rw [nd_take hj, sameName_comm]; exact h)
theorem hasName_take_no {ns : List Node} {k : Nat} (hk : k < ns.length) (h : ∀ j, j < k → sameName (nd ns k).name (nd ns j).name = false) : hasName (ns.take k) (nd ns k).name = false :=
  hasName_no (k := k) (by rw [List.length_take]; omega) (fun j hj => by rw [nd_take hj, sameName_comm]; exact h j hj)

set_option maxRecDepth 100000 in
set_option maxHeartbeats 2000000 in
theorem specIsNetwork_any (A B : Option Addr) (n c m d : Nat) (net : Net) (w : World) (h : NetAt w A n c B m d net) :
    Calls Try.prog 74 #[.agg #[.slice A n c, .slice B m d]] w fun e w' => e = .returned (.bool (netB net)) ∧ Below w.heap.size w w' := by
  have hln := h.nodes.len
  have hlp := h.pipes.len
  have hcn := h.nodes.cap
  have hcp := h.pipes.cap
  have hnl := h.nodes.le
  have hpl := h.pipes.le
  by_cases hsz : 1 ≤ n ∧ n ≤ 24 ∧ m ≤ 40
  · obtain ⟨n1, n24, m40⟩ := hsz
    have q1 : decide ((n : Int) < 1) = false := by simp; omega
    have q2 : decide (24 < (n : Int)) = false := by simp; omega
    have q3 : decide (40 < (m : Int)) = false := by simp; omega
    have HLN := Lib.hid hln
    have HLP := Lib.hid hlp
    clear hln hlp
    go_enter Try.func74, Try.ntmps74
    go_wp2_with fail
    go_loopw [3, 4] (fun i _ wr => ∃ k : Nat, k ≤ n ∧ i = .int .i64 k ∧ Hid (∀ j, j < k → nodeOkB net.nodes j = true) ∧ Below w.heap.size w wr ∧ Hid (wr.heap[w.heap.size]? = some (.cells #[.slice A n c, .slice B m d] 27 (0, 0)))) (fun i _ _ => n - (intOf i).toNat)
    case atStart => exact ⟨0, by omega, rfl, Lib.hid (fun j hj => absurd hj (by omega)), bel1 _ _, Lib.hid (heap_alloc_new w _)⟩
    case round =>
      obtain ⟨k, hk, rfl, hq, hb, hg⟩ := hrel
      have kc0 := cell_blk hg.out 0
      have kc1 := cell_blk hg.out 1
      simp at kc0 kc1
      have hgl := (Array.getElem?_eq_some_iff.1 hg.out).1
      by_cases hlt : k < n
      · obtain ⟨b, off, rfl, hbl, hc⟩ := (h.nodes.later hb).cells (by omega)
        obtain ⟨c0, c1, c2⟩ := hc k hlt
        have hok := nd_ok h.nodes.ok k
        clear hc
        have hkl : k < net.nodes.length := by rw [HLN.out]; exact hlt
        have HKL := Lib.hid hkl
        clear hkl
        go_wp2_with fail
        rcases hnb : nodeB (nd net.nodes k) with _ | _
        · refine (specIsNode_is _ _ _ hok hnb).mono ?_
          rintro e w2 ⟨rfl, b2⟩
          have t2 := below_step hb b2
          have HF := Lib.hid (netB_node (net := net) (i := k) HKL.out (by simp [nodeOkB, hnb]))
          go_wp2_with fail
          go_ret
          exact ⟨ret_bool HF.out.symm, t2⟩
        · refine (specIsNode_is _ _ _ hok hnb).mono ?_
          rintro e w2 ⟨rfl, b2⟩
          have t2 := below_step hb b2
          have HG2 := Lib.hid ((b2.block w.heap.size (by omega)).trans hg.out)
          clear kc0 kc1 c0 c1 c2
          go_wp2_with fail
          obtain ⟨w0, hw0⟩ : ∃ w0, w0 = w2 := ⟨_, rfl⟩
          subst hw0
          go_loopw [4] (fun i wr => ∃ q : Nat, q ≤ k ∧ i = .int .i64 q ∧ Hid (∀ j, j < q → sameName (nd net.nodes k).name (nd net.nodes j).name = false) ∧ Below w.heap.size w wr ∧ Hid (wr.heap[w.heap.size]? = some (.cells #[.slice (some ⟨b, off, none⟩) n c, .slice B m d] 27 (0, 0)))) (fun i _ => k - (intOf i).toNat)
          case atStart => exact ⟨0, by omega, rfl, Lib.hid (fun j hj => absurd hj (by omega)), t2, HG2⟩
          case round =>
            clear t2 HG2
            obtain ⟨q, hqk, rfl, hs, hb3, hg3⟩ := hrel
            have kc0 := cell_blk hg3.out 0
            simp at kc0
            have hnn := (h.nodes.later hb3).cells (by omega)
            obtain ⟨b', off', eb, hbl', hc⟩ := hnn
            injection eb with eb
            injection eb with eb1 eb2
            subst eb1
            subst eb2
            by_cases hlt2 : q < k
            · obtain ⟨c0, c1, c2⟩ := hc k hlt
              obtain ⟨d0, d1, d2⟩ := hc q (by omega)
              clear hc
              have hki : (k : Int) < (n : Int) := by omega
              have hqi : (q : Int) < (n : Int) := by omega
              rcases hsm : sameName (nd net.nodes k).name (nd net.nodes q).name with _ | _
              · have hsm' : ((nd net.nodes k).name.toList == (nd net.nodes q).name.toList) = false := hsm
                have HS : Hid (∀ j, j < q + 1 → sameName (nd net.nodes k).name (nd net.nodes j).name = false) := Lib.hid (fun j hj => by
                  rcases Nat.lt_or_ge j q with h' | h'
                  · exact hs.out j h'
                  · have : j = q := by omega
                    subst this; exact hsm)
                clear hsm
                go_wp2_with fail
                go_quiet (fail)
                go_wp2_with fail
                go_roundw
                case rel => exact ⟨q + 1, by omega, by go_num, HS, below_drew hb3 _, Lib.hid hg3.out⟩
                case measure => simp [intOf]; omega
              · have hsm' : ((nd net.nodes k).name.toList == (nd net.nodes q).name.toList) = true := hsm
                have HF := Lib.hid (netB_node (net := net) (i := k) HKL.out (by simp [nodeOkB, hasName_take_yes HKL.out hlt2 hsm]))
                clear hsm
                go_wp2_with fail
                go_quiet (fail)
                go_wp2_with fail
                go_ret
                exact ⟨ret_bool HF.out.symm, below_drew hb3 _⟩
            · have hqk' : q = k := by omega
              subst hqk'
              have HQ : Hid (∀ j, j < q + 1 → nodeOkB net.nodes j = true) := Lib.hid (fun j hj => by
                rcases Nat.lt_or_ge j q with h' | h'
                · exact hq.out j h'
                · have : j = q := by omega
                  subst this; simp [nodeOkB, hnb, hasName_take_no HKL.out hs.out])
              clear hc
              go_wp2_with fail
              go_roundw
              case rel => exact ⟨q + 1, by omega, by go_num, HQ, hb3, hg3⟩
              case measure => simp [intOf]; omega
      · have hkn : k = n := by omega
        subst hkn
        go_wp2_with fail
        go_loopw [5] (fun i wr => ∃ q : Nat, q ≤ m ∧ i = .int .i64 q ∧ Hid (∀ j, j < q → pipeB (pp net.pipes j) net.nodes.length = true) ∧ Below w.heap.size w wr ∧ Hid (wr.heap[w.heap.size]? = some (.cells #[.slice A k c, .slice B m d] 27 (0, 0)))) (fun i _ => m - (intOf i).toNat)
        case atStart => exact ⟨0, by omega, rfl, Lib.hid (fun j hj => absurd hj (by omega)), hb, hg⟩
        case round =>
          clear kc0 kc1 hgl hb hg
          obtain ⟨q, hqm, rfl, hp, hb, hg⟩ := hrel
          have kc0 := cell_blk hg.out 0
          have kc1 := cell_blk hg.out 1
          simp at kc0 kc1
          have hgl := (Array.getElem?_eq_some_iff.1 hg.out).1
          by_cases hlt2 : q < m
          · obtain ⟨b, off, rfl, hbl, hc⟩ := (h.pipes.later hb).cells (by omega)
            obtain ⟨c0, c1, c2, c3, c4⟩ := hc q hlt2
            clear hc
            have hqi : (q : Int) < (m : Int) := by omega
            have HPB : Hid (pipeB (pp net.pipes q) net.nodes.length = pipeB (pp net.pipes q) k) := by rw [HLN.out]; rfl
            rcases hpb : pipeB (pp net.pipes q) k with _ | _
            · have HF := Lib.hid (netB_pipe (net := net) (i := q) (by rw [HLP.out]; exact hlt2) (by rw [HPB.out]; exact hpb))
              go_wp2_with fail
              refine wp_region_stage_q 0 8 (by kernel_rfl) (by kernel_rfl) ?_
              simp only [List.take_succ_cons, List.take_zero, List.drop_succ_cons, List.drop_zero]
              intro K HK
              refine HK.out _ _ ?_
              clear HK K
              repeat (go_big_quiet_step (fail))
              refine wpQuiet_nil ?_
              go_wp2_with fail
              refine (l02Pipe_is _ _ _ _ (by omega) hpb).mono ?_
              rintro e w2 ⟨rfl, b2⟩
              go_wp2_with fail
              go_ret
              exact ⟨ret_bool HF.out.symm, below_step hb ((Below.refl _ _).drew.trans b2)⟩
            · have HP : Hid (∀ j, j < q + 1 → pipeB (pp net.pipes j) net.nodes.length = true) := Lib.hid (fun j hj => by
                rcases Nat.lt_or_ge j q with h' | h'
                · exact hp.out j h'
                · have : j = q := by omega
                  subst this; rw [HPB.out]; exact hpb)
              go_wp2_with fail
              refine wp_region_stage_q 0 8 (by kernel_rfl) (by kernel_rfl) ?_
              simp only [List.take_succ_cons, List.take_zero, List.drop_succ_cons, List.drop_zero]
              intro K HK
              refine HK.out _ _ ?_
              clear HK K
              repeat (go_big_quiet_step (fail))
              refine wpQuiet_nil ?_
              go_wp2_with fail
              refine (l02Pipe_is _ _ _ _ (by omega) hpb).mono ?_
              rintro e w2 ⟨rfl, b2⟩
              have b2' : Below wr.heap.size wr w2 := (Below.refl _ _).drew.trans b2
              have HG2 := Lib.hid ((b2'.block w.heap.size hgl).trans hg.out)
              clear kc0 kc1 c0 c1 c2 c3 c4
              go_wp2_with fail
              go_roundw
              case rel => exact ⟨q + 1, by omega, by go_num, HP, below_step hb b2', HG2⟩
              case measure => simp [intOf]; omega
          · have HY := Lib.hid (netB_yes (net := net) (by rw [HLN.out]; omega) (by rw [HLN.out]; omega) (by rw [HLP.out]; omega) (by rw [HLN.out]; exact Nat.le_refl _) hq.out (by rw [HLP.out]; omega) hp.out)
            go_wp2_with fail
            go_ret
            exact ⟨ret_bool HY.out.symm, hb⟩
  · have HF := Lib.hid (netB_size (net := net) (by rw [hln, hlp]; exact hsz))
    clear hln hlp
    by_cases n1 : n < 1
    · have q1 : decide ((n : Int) < 1) = true := by simp; omega
      go_enter Try.func74, Try.ntmps74
      go_wp2_with fail
      go_ret
      exact ⟨ret_bool HF.out.symm, bel1 _ _⟩
    · have q1 : decide ((n : Int) < 1) = false := by simp; omega
      by_cases n24 : 24 < n
      · have q2 : decide (24 < (n : Int)) = true := by simp; omega
        go_enter Try.func74, Try.ntmps74
        go_wp2_with fail
        go_ret
        exact ⟨ret_bool HF.out.symm, bel1 _ _⟩
      · have q2 : decide (24 < (n : Int)) = false := by simp; omega
        have q3 : decide (40 < (m : Int)) = true := by simp; omega
        go_enter Try.func74, Try.ntmps74
        go_wp2_with fail
        go_ret
        exact ⟨ret_bool HF.out.symm, bel1 _ _⟩

end Go.Proofs.Ytioiebjgjimeiaa
