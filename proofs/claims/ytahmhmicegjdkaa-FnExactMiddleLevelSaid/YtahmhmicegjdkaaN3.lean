/- networks: comparisons of lists -/
import Derived.Test.YtahmhmicegjdkaaN2
namespace Go.Proofs.Ytahmhmicegjdkaa
open Go.RowKit

set_option maxRecDepth 100000 in
set_option maxHeartbeats 1000000 in
theorem eqNodeS_any (A B : Option Addr) (n c d : Nat) (ns : List Node) (w : World) (h : NodesAt w A n c ns) (g : NodesAt w B n d ns) :
    Calls Try.prog 75 #[.slice A n c, .slice B n d] w fun e w' => e = .returned (.bool true) ∧ Below w.heap.size w w' := by
  have hle := h.le
  have hcap := h.cap
  go_enter Try.func75, Try.ntmps75
  go_wp2_with fail
  go_loopw [5] (fun i wr => ∃ k : Nat, k ≤ n ∧ i = .int .i64 k ∧ Below w.heap.size w wr) (fun i _ => n - (intOf i).toNat)
  case atStart => exact ⟨0, by omega, rfl, Below.refl _ _⟩
  case round =>
    obtain ⟨k, hk, rfl, hb⟩ := hrel
    by_cases hlt : k < n
    · obtain ⟨b, off, rfl, hbl, hc⟩ := (h.later hb).cells (by omega)
      obtain ⟨b', off', rfl, hbl', hc'⟩ := (g.later hb).cells (by omega)
      obtain ⟨c0, c1, c2⟩ := hc k hlt
      obtain ⟨d0, d1, d2⟩ := hc' k hlt
      clear hc hc'
      go_wp2_with fail
      go_still_tail 8, (by kernel_rfl)
      change wpList _ _ _ _ _ wr.drew
      go_wp2_with fail
      refine (eqNode_any _ _ _ _).mono ?_
      rintro e w2 ⟨rfl, b2⟩
      have b2' : Below wr.heap.size wr w2 := (Below.refl _ _).drew.trans b2
      go_wp2_with fail
      go_roundw
      case rel => exact ⟨k + 1, by omega, by go_num, below_step hb b2'⟩
      case measure => simp [intOf]; omega
    · go_wp2_with fail
      go_ret
      exact ⟨rfl, hb⟩

set_option maxRecDepth 100000 in
set_option maxHeartbeats 1000000 in
theorem eqPipeS_any (A B : Option Addr) (n c d : Nat) (ns : List Pipe) (w : World) (h : PipesAt w A n c ns) (g : PipesAt w B n d ns) :
    Calls Try.prog 76 #[.slice A n c, .slice B n d] w fun e w' => e = .returned (.bool true) ∧ Below w.heap.size w w' := by
  have hle := h.le
  have hcap := h.cap
  go_enter Try.func76, Try.ntmps76
  go_wp2_with fail
  go_loopw [5] (fun i wr => ∃ k : Nat, k ≤ n ∧ i = .int .i64 k ∧ Below w.heap.size w wr) (fun i _ => n - (intOf i).toNat)
  case atStart => exact ⟨0, by omega, rfl, Below.refl _ _⟩
  case round =>
    obtain ⟨k, hk, rfl, hb⟩ := hrel
    by_cases hlt : k < n
    · obtain ⟨b, off, rfl, hbl, hc⟩ := (h.later hb).cells (by omega)
      obtain ⟨b', off', rfl, hbl', hc'⟩ := (g.later hb).cells (by omega)
      obtain ⟨c0, c1, c2, c3, c4⟩ := hc k hlt
      obtain ⟨d0, d1, d2, d3, d4⟩ := hc' k hlt
      clear hc hc'
      go_wp2_with fail
      go_still_tail 8, (by kernel_rfl)
      change wpList _ _ _ _ _ wr.drew
      go_wp2_with fail
      refine (eqPipe_any _ _ _ _ _ _).mono ?_
      rintro e w2 ⟨rfl, b2⟩
      have b2' : Below wr.heap.size wr w2 := (Below.refl _ _).drew.trans b2
      go_wp2_with fail
      go_roundw
      case rel => exact ⟨k + 1, by omega, by go_num, below_step hb b2'⟩
      case measure => simp [intOf]; omega
    · go_wp2_with fail
      go_ret
      exact ⟨rfl, hb⟩

set_option maxHeartbeats 1000000 in
theorem eqNetwork_any (A B A' B' : Option Addr) (n c m d c' d' : Nat) (net : Net) (w : World) (h : NetAt w A n c B m d net) (g : NetAt w A' n c' B' m d' net) :
    Calls Try.prog 20 #[.agg #[.slice A n c, .slice B m d], .agg #[.slice A' n c', .slice B' m d']] w fun e w' => e = .returned (.bool true) ∧ Below w.heap.size w w' := by
  go_enter Try.func20, Try.ntmps20
  go_wp2_with fail
  refine (eqNodeS_any _ _ _ _ _ _ _ (h.nodes.later (bel2 _ _ _)) (g.nodes.later (bel2 _ _ _))).mono ?_
  rintro e w1 ⟨rfl, b1⟩
  obtain ⟨hc1, hf1⟩ := bcell b1
  have t1 := below_step (bel2 w _ _) b1
  go_wp2_with fail
  refine (eqPipeS_any _ _ _ _ _ _ _ (h.pipes.later t1) (g.pipes.later t1)).mono ?_
  rintro e w2 ⟨rfl, b2⟩
  go_wp2_with fail
  go_ret
  exact ⟨rfl, below_step t1 b2⟩

end Go.Proofs.Ytahmhmicegjdkaa
