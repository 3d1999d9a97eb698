/- SuppliesOf, IsBalanced -/
import Derived.Test.YtahmhmicegjdkaaF8
namespace Go.Proofs.Ytahmhmicegjdkaa
open Go.RowKit

/-- a list and a code -/
def RetLI (w : World) (r : List Int × Int) (e : Ending) (w' : World) : Prop :=
  ∃ A c, e = .returned (.tuple #[.slice A r.1.length c, .int .i64 r.2]) ∧ Own w' A r.1.length c r.1 ∧ Fresh w.heap.size A ∧ Below w.heap.size w w'
theorem retLI_nil {w w' : World} {r : List Int × Int} {k : Int} {e : Ending} (he : e = .returned (.tuple #[.slice none 0 0, .int .i64 k])) (hr : r = ([], k)) (hb : Below w.heap.size w w') : RetLI w r e w' :=
  ⟨none, 0, by rw [hr]; exact he, by rw [hr]; exact Own.nil, (fun a ha => by cases ha), hb⟩
theorem retLI_own {w w' : World} {r : List Int × Int} {zs : List Int} {A : Option Addr} {n c : Nat} {e : Ending} (he : e = .returned (.tuple #[.slice A n c, .int .i64 0])) (hr : r = (zs, 0)) (ho : Own w' A n c zs) (hf : Fresh w.heap.size A) (hb : Below w.heap.size w w') : RetLI w r e w' :=
  ⟨A, c, by rw [hr]; show _ = Ending.returned (.tuple #[.slice A zs.length c, .int .i64 0]); rw [ho.len]; exact he, by rw [hr]; show Own w' A zs.length c zs; rw [ho.len]; exact ho, hf, hb⟩

def rSuppliesOf (net : Net) (zs : List Int) : List Int × Int :=
  if codeF net zs = 0 then (if allB (outL net.nodes.length net.pipes zs net.pipes.length) (-30000) 30000 then (outL net.nodes.length net.pipes zs net.pipes.length, 0) else ([], 2)) else ([], codeF net zs)
theorem outL_len (n : Nat) (ps : List Pipe) (zs : List Int) (k : Nat) : (outL n ps zs k).length = n := mapTo_len _ _

set_option maxHeartbeats 1000000 in
theorem implSuppliesOf_any (A : Option Addr) (n c : Nat) (B : Option Addr) (m d : Nat) (net : Net) (C : Option Addr) (l e : Nat) (zs : List Int) (w : World) (h : NetAt w A n c B m d net) (hz : Ints w C l e zs) :
    Calls Try.prog 52 #[.agg #[.slice A n c, .slice B m d], .slice C l e] w fun e w' => RetLI w (rSuppliesOf net zs) e w' := by
  have HB := Lib.hid (bel1 w (.cells #[.slice A n c, .slice B m d] 32))
  have hnl := Lib.hid h.nodes.len
  have hml := Lib.hid h.pipes.len
  by_cases hz0 : codeF net zs = 0
  · obtain ⟨hv, hs⟩ := codeF_zero hz0
    have HR : Hid (rSuppliesOf net zs = if allB (outL n net.pipes zs m) (-30000) 30000 then (outL n net.pipes zs m, 0) else ([], 2)) := Lib.hid (by unfold rSuppliesOf; rw [if_pos hz0, hnl.out, hml.out])
    go_enter Try.func52, Try.ntmps52
    go_wp2_with fail
    refine (checkFlows_is _ _ _ _ _ _ _ _ _ net zs _ _ (h.later HB.out) (hz.later HB.out) hz0).mono ?_
    rintro e w1 ⟨rfl, b1⟩
    have t1 := below_step HB.out b1
    obtain ⟨k0, k1⟩ := box_cells b1
    clear hz0
    go_wp2_with fail
    refine (outflows_any _ _ _ _ _ _ net _ _ _ zs _ (h.later t1) (hz.later t1) hv hs).mono ?_
    rintro e w2 ⟨A2, c2, rfl, o2, f2, b2⟩
    have t2 := below_step t1 b2
    have f2' : Fresh w.heap.size A2 := fresh_up f2 t1.size
    clear k0 k1
    rcases ha : allB (outL n net.pipes zs m) (-30000) 30000 with _ | _
    · rw [ha] at HR
      go_wp2_with fail
      refine (allWithin_any _ _ _ _ _ _ _ o2.ints).mono ?_
      rintro e w' ⟨rfl, rfl⟩
      rw [ha]
      go_wp2_with fail
      go_ret2
      exact retLI_nil rfl HR.out t2
    · rw [ha] at HR
      go_wp2_with fail
      refine (allWithin_any _ _ _ _ _ _ _ o2.ints).mono ?_
      rintro e w' ⟨rfl, rfl⟩
      rw [ha]
      go_wp2_with fail
      go_ret2
      exact retLI_own rfl HR.out o2 f2' t2
  · have HR : Hid (rSuppliesOf net zs = ([], codeF net zs)) := Lib.hid (by unfold rSuppliesOf; rw [if_neg hz0])
    obtain ⟨r, hr⟩ : ∃ r, codeF net zs = r := ⟨_, rfl⟩
    rw [hr] at HR hz0
    have hne : (r != 0) = true := by simp [hz0]
    go_enter Try.func52, Try.ntmps52
    go_wp2_with fail
    refine (checkFlows_is _ _ _ _ _ _ _ _ _ net zs _ _ (h.later HB.out) (hz.later HB.out) hr).mono ?_
    rintro e w1 ⟨rfl, b1⟩
    go_wp2_with fail
    go_ret2
    exact retLI_nil rfl HR.out (below_step HB.out b1)

theorem rSuppliesOf_len (net : Net) (zs : List Int) (_h : zs.length ≤ 1048576) : (rSuppliesOf net zs).1.length ≤ 1048576 := by
  unfold rSuppliesOf
  by_cases hz0 : codeF net zs = 0
  · rw [if_pos hz0]
    have := netB_sizes (codeF_zero hz0).1
    split
    · rw [outL_len]; omega
    · simp
  · rw [if_neg hz0]; simp

end Go.Proofs.Ytahmhmicegjdkaa
