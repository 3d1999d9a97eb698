/- IsWithin -/
import Derived.Test.YtahmhmicegjdkaaN6
namespace Go.Proofs.Ytahmhmicegjdkaa
open Go.RowKit

def withinB (ns : List Node) (zs : List Int) : Bool := (List.range ns.length).all (fun j => inB (ig zs j) (nd ns j).low (nd ns j).high)
def isWithinB (net : Net) (zs : List Int) : Bool := netB net && decide (zs.length = net.nodes.length) && withinB net.nodes zs
theorem withinB_no {ns : List Node} {zs : List Int} {k : Nat} (hk : k < ns.length) (h : inB (ig zs k) (nd ns k).low (nd ns k).high = false) : withinB ns zs = false := by
  unfold withinB; rw [List.all_eq_false]; exact ⟨k, List.mem_range.2 hk, by simp [h]⟩
theorem withinB_yes {ns : List Node} {zs : List Int} {k : Nat} (hk : ns.length ≤ k) (h : ∀ j, j < k → inB (ig zs j) (nd ns j).low (nd ns j).high = true) : withinB ns zs = true := by
  unfold withinB; rw [List.all_eq_true]; intro x hx; exact h x (by have := List.mem_range.1 hx; omega)

theorem implIsNetwork_is (A B : Option Addr) (n c m d : Nat) (net : Net) (b : Bool) (w : World) (h : NetAt w A n c B m d net) (hb : netB net = b) :
    Calls Try.prog 70 #[.agg #[.slice A n c, .slice B m d]] w fun e w' => e = .returned (.bool b) ∧ Below w.heap.size w w' :=
  (implIsNetwork_any A B n c m d net w h).mono fun _ _ ⟨h1, h2⟩ => ⟨h1.trans (by rw [hb]), h2⟩
theorem specIsNetwork_is (A B : Option Addr) (n c m d : Nat) (net : Net) (b : Bool) (w : World) (h : NetAt w A n c B m d net) (hb : netB net = b) :
    Calls Try.prog 63 #[.agg #[.slice A n c, .slice B m d]] w fun e w' => e = .returned (.bool b) ∧ Below w.heap.size w w' :=
  (specIsNetwork_any A B n c m d net w h).mono fun _ _ ⟨h1, h2⟩ => ⟨h1.trans (by rw [hb]), h2⟩

set_option maxRecDepth 100000 in
set_option maxHeartbeats 2000000 in
theorem implIsWithin_any (A B C : Option Addr) (n c m d l e : Nat) (net : Net) (zs : List Int) (w : World) (h : NetAt w A n c B m d net) (hz : Ints w C l e zs) :
    Calls Try.prog 47 #[.agg #[.slice A n c, .slice B m d], .slice C l e] w fun e w' => e = .returned (.bool (isWithinB net zs)) ∧ Below w.heap.size w w' := by
  have hzl := hz.len
  have hnl := h.nodes.len
  have hcn := h.nodes.cap
  have hnc := h.nodes.le
  have HB := Lib.hid (bel1 w (.cells #[.slice A n c, .slice B m d] 32))
  rcases hv : netB net with _ | _
  · have HF : Hid (isWithinB net zs = false) := by unfold isWithinB; rw [hv]; rfl
    clear hzl hnl
    go_enter Try.func47, Try.ntmps47
    go_wp2_with fail
    refine (implIsNetwork_is _ _ _ _ _ _ net _ _ (h.later HB.out) hv).mono ?_
    rintro e w1 ⟨rfl, b1⟩
    go_wp2_with fail
    go_ret
    exact ⟨ret_bool HF.out.symm, below_step HB.out b1⟩
  · by_cases hl : l = n
    · subst hl
      have hW : isWithinB net zs = withinB net.nodes zs := by unfold isWithinB; rw [hv, hzl, hnl]; simp
      have HW := Lib.hid hW
      clear hW
      have HNL := Lib.hid hnl
      have hne : ((l : Int) != (l : Int)) = false := by simp
      clear hzl hnl
      go_enter Try.func47, Try.ntmps47
      go_wp2_with fail
      refine (implIsNetwork_is _ _ _ _ _ _ net _ _ (h.later HB.out) hv).mono ?_
      rintro e w1 ⟨rfl, b1⟩
      have t1 := below_step HB.out b1
      have g1 := (b1.block w.heap.size (by simp)).trans (heap_alloc_new w _)
      have k0 := cell_blk g1 0
      simp at k0
      clear g1
      go_wp2_with fail
      go_loopw [21] (fun i wr => ∃ k : Nat, k ≤ l ∧ i = .int .i64 k ∧ Hid (∀ j, j < k → inB (ig zs j) (nd net.nodes j).low (nd net.nodes j).high = true) ∧ Below w.heap.size w wr) (fun i _ => l - (intOf i).toNat)
      case atStart => exact ⟨0, by omega, rfl, Lib.hid (fun j hj => absurd hj (by omega)), t1⟩
      case round =>
        obtain ⟨k, hk, rfl, hq, hb⟩ := hrel
        by_cases hlt : k < l
        · obtain ⟨b, off, rfl, hbl, hc⟩ := (h.nodes.later hb).cells (by omega)
          obtain ⟨b', off', rfl, hbl', hc'⟩ := (hz.later hb).cells (by omega)
          obtain ⟨c0, c1, c2⟩ := hc k hlt
          have d0 := hc' k hlt
          have hki : (k : Int) < (l : Int) := by omega
          have hbs := hb.size
          clear hc hc' k0
          rcases hin : inB (ig zs k) (nd net.nodes k).low (nd net.nodes k).high with _ | _
          · have HF := Lib.hid (withinB_no (by rw [HNL.out]; exact hlt) hin)
            go_wp2_with fail
            go_quiet ((go_at_call 108; exact quiet_left (within_is _ _ _ _ _ hin)))
            go_wp2_with fail
            go_ret
            exact ⟨ret_bool (by rw [HW.out, HF.out]), below_drew (hb.alloc hbs _) _⟩
          · have HQ : Hid (∀ j, j < k + 1 → inB (ig zs j) (nd net.nodes j).low (nd net.nodes j).high = true) := Lib.hid (fun j hj => by
              rcases Nat.lt_or_ge j k with h' | h'
              · exact hq.out j h'
              · have : j = k := by omega
                subst this; exact hin)
            go_wp2_with fail
            go_quiet ((go_at_call 108; exact quiet_left (within_is _ _ _ _ _ hin)))
            go_wp2_with fail
            go_roundw
            case rel => exact ⟨k + 1, by omega, by go_num, HQ, below_drew (hb.alloc hbs _) _⟩
            case measure => simp [intOf]; omega
        · have HF := Lib.hid (withinB_yes (by rw [HNL.out]; omega) hq.out)
          go_wp2_with fail
          go_ret
          exact ⟨ret_bool (by rw [HW.out, HF.out]), hb⟩
    · have hF : isWithinB net zs = false := by
        unfold isWithinB
        have : decide (zs.length = net.nodes.length) = false := by simp; omega
        rw [this]; simp
      have HF := Lib.hid hF
      clear hF
      have hne : ((l : Int) != (n : Int)) = true := by simp; omega
      clear hzl hnl
      go_enter Try.func47, Try.ntmps47
      go_wp2_with fail
      refine (implIsNetwork_is _ _ _ _ _ _ net _ _ (h.later HB.out) hv).mono ?_
      rintro e w1 ⟨rfl, b1⟩
      have g1 := (b1.block w.heap.size (by simp)).trans (heap_alloc_new w _)
      have k0 := cell_blk g1 0
      simp at k0
      clear g1
      go_wp2_with fail
      go_ret
      exact ⟨ret_bool HF.out.symm, below_step HB.out b1⟩

end Go.Proofs.Ytahmhmicegjdkaa
