/- IsWithin -/
import Derived.Test.YtioiebjgjimeiaaN6
namespace Go.Proofs.Ytioiebjgjimeiaa
open Go.RowKit

def withinB (ns : List Node) (zs : List Int) : Bool := (List.range ns.length).all (fun j => inB (ig zs j) (nd ns j).low (nd ns j).high)
def isWithinB (net : Net) (zs : List Int) : Bool := netB net && decide (zs.length = net.nodes.length) && withinB net.nodes zs
theorem withinB_no {ns : List Node} {zs : List Int} {k : Nat} (hk : k < ns.length) (h : inB (ig zs k) (nd ns k).low (nd ns k).high = false) : withinB ns zs = false := by
  unfold withinB; rw [List.all_eq_false]; exact ⟨k, List.mem_range.2 hk, by simp [h]⟩
theorem withinB_yes {ns : List Node} {zs : List Int} {k : Nat} (hk : ns.length ≤ k) (h : ∀ j, j < k → inB (ig zs j) (nd ns j).low (nd ns j).high = true) : withinB ns zs = true := by
  unfold withinB; rw [List.all_eq_true]; intro x hx; exact h x (by have := List.mem_range.1 hx; omega)

theorem implIsNetwork_is (A B : Option Addr) (n c m d : Nat) (net : Net) (b : Bool) (w : World) (h : NetAt w A n c B m d net) (hb : netB net = b) :
    Calls Try.prog 79 #[.agg #[.slice A n c, .slice B m d]] w fun e w' => e = .returned (.bool b) ∧ Below w.heap.size w w' :=
  (implIsNetwork_any A B n c m d net w h).mono fun _ _ ⟨h1, h2⟩ => ⟨h1.trans (by rw [hb]), h2⟩
theorem specIsNetwork_is (A B : Option Addr) (n c m d : Nat) (net : Net) (b : Bool) (w : World) (h : NetAt w A n c B m d net) (hb : netB net = b) :
    Calls Try.prog 74 #[.agg #[.slice A n c, .slice B m d]] w fun e w' => e = .returned (.bool b) ∧ Below w.heap.size w w' :=
  (specIsNetwork_any A B n c m d net w h).mono fun _ _ ⟨h1, h2⟩ => ⟨h1.trans (by rw [hb]), h2⟩

end Go.Proofs.Ytioiebjgjimeiaa
