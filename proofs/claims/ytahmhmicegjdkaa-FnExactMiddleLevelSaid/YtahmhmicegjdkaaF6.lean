/- energy (the reference), transit -/
import Derived.Test.YtahmhmicegjdkaaF5
namespace Go.Proofs.Ytahmhmicegjdkaa
open Go.RowKit

/-- what flows into a node through one pipe -/
def tin (p : Pipe) (z x : Int) : Int := (if p.to = x then pos z else 0) + (if p.fr = x then pos (-z) else 0)
def tra (ps : List Pipe) (zs : List Int) (x : Int) (k : Nat) : Int := sumTo (fun j => tin (pp ps j) (ig zs j) x) k
theorem tra_succ (ps : List Pipe) (zs : List Int) (x : Int) (k : Nat) : tra ps zs x (k + 1) = tra ps zs x k + tin (pp ps k) (ig zs k) x := rfl
theorem tra_bnd {net : Net} {zs : List Int} (h : flowB net zs = true) (x : Int) (k : Nat) (hk : k ≤ 40) : -2400000 ≤ tra net.pipes zs x k ∧ tra net.pipes zs x k ≤ 2400000 := by
  have := sumTo_le (f := fun j => tin (pp net.pipes j) (ig zs j) x) (k := k) (N := 40) (M := 60000) (by omega) (by omega) fun j hj => by
    have h1 := flowB_all h j
    have h2 := pos_bnd (z := ig zs j) (by omega)
    have h3 := pos_bnd (z := -ig zs j) (by omega)
    show -60000 ≤ tin _ _ _ ∧ tin _ _ _ ≤ 60000
    unfold tin
    split <;> split <;> omega
  exact this
/-- what TransitOf returns -/
def rTransitOf (net : Net) (zs : List Int) (x : Int) : Int × Int :=
  if codeF net zs = 0 then (if inB x 0 ((net.nodes.length : Int) - 1) then (tra net.pipes zs x zs.length, 0) else (0, 2)) else (0, codeF net zs)

set_option maxHeartbeats 1000000 in
theorem l02Node_is (A B : Option Addr) (n c m d : Nat) (x : Int) (b : Bool) (w : World) (hn : n ≤ 9223372036854775807) (hb : inB x 0 ((n : Int) - 1) = b) :
    Calls Try.prog 91 #[.agg #[.slice A n c, .slice B m d], .int .i64 x] w fun e w' => e = .returned (.bool b) ∧ Below w.heap.size w w' := by
  go_enter Try.func91, Try.ntmps91
  go_wp2_with (go_at_call 138; refine (l01In_is _ _ _ _ _ hb).mono ?_; rintro e w' ⟨rfl, rfl⟩)
  go_ret
  exact ⟨rfl, bel1 _ _⟩

theorem tin_b (p : Pipe) (z x : Int) : tin p z x = (if (p.to == x) = true then pos z else 0) + (if (p.fr == x) = true then pos (-z) else 0) := by unfold tin; simp only [beq_iff_eq]
theorem pos_np {z : Int} (h : z ≤ 0) : pos z = 0 := by unfold pos; split <;> omega
theorem pos_neg {z : Int} (h : z < 0) : pos z = 0 := by unfold pos; rw [if_pos h]
theorem pos_nn {z : Int} (h : ¬ z < 0) : pos z = z := by unfold pos; rw [if_neg h]

end Go.Proofs.Ytahmhmicegjdkaa
