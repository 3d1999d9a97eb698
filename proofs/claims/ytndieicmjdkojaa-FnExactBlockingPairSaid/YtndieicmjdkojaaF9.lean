/- SuppliesOf, IsBalanced -/
import Derived.Test.YtndieicmjdkojaaF8
namespace Go.Proofs.Ytndieicmjdkojaa
open Go.RowKit

/-- a list and a code -/
def RetLI (w : World) (r : List Int × Int) (e : Ending) (w' : World) : Prop :=
  ∃ A c, e = .returned (.tuple #[.slice A r.1.length c, .int .i64 r.2]) ∧ Own w' A r.1.length c r.1 ∧ Fresh w.heap.size A ∧ Below w.heap.size w w'
theorem retLI_nil {w w' : World} {r : List Int × Int} {k : Int} {e : Ending} (he : e = .returned (.tuple #[.slice none 0 0, .int .i64 k])) (hr : r = ([], k)) (hb : Below w.heap.size w w') : RetLI w r e w' :=
  ⟨none, 0, by rw [hr]; exact he, by rw [hr]; exact Own.nil, (fun a ha => by cases ha), hb⟩
theorem retLI_own {w w' : World} {r : List Int × Int} {zs : List Int} {A : Option Addr} {n c : Nat} {e : Ending} (he : e = .returned (.tuple #[.slice A n c, .int .i64 0])) (hr : r = (zs, 0)) (ho : Own w' A n c zs) (hf : Fresh w.heap.size A) (hb : Below w.heap.size w w') : RetLI w r e w' :=
  ⟨A, c, by rw [hr]; show _ = Ending.returned (.tuple #[.slice A zs.length c, .int .i64 0]); rw [ho.len]; exact he, by rw [hr]; show Own w' A zs.length c zs; rw [ho.len]; exact ho, hf, hb⟩

def rSuppliesOf (net : Net) (zs : List Int) : List Int × Int :=
  if codeF net zs = 0 then (if allB (outL net.nodes.length net.pipes zs net.pipes.length) (-30000) 30000 then (outL net.nodes.length net.pipes zs net.pipes.length, 0) else ([], 2)) else ([], codeF net zs)
theorem outL_len (n : Nat) (ps : List Pipe) (zs : List Int) (k : Nat) : (outL n ps zs k).length = n := mapTo_len _ _

theorem rSuppliesOf_len (net : Net) (zs : List Int) (_h : zs.length ≤ 1048576) : (rSuppliesOf net zs).1.length ≤ 1048576 := by
  unfold rSuppliesOf
  by_cases hz0 : codeF net zs = 0
  · rw [if_pos hz0]
    have := netB_sizes (codeF_zero hz0).1
    split
    · rw [outL_len]; omega
    · simp
  · rw [if_neg hz0]; simp

end Go.Proofs.Ytndieicmjdkojaa
