/- GapBetween, LowestNode -/
import Derived.Test.YtfiikbcffpcbkaaI3
namespace Go.Proofs.Ytfiikbcffpcbkaa
open Go.RowKit

theorem ints_lit1 (w : World) (o : Obj) {a : Int} (ha : I64 a) : Ints ((w.alloc o).alloc (.cells #[.int .i64 a] 2)) (some ⟨w.heap.size + 1, 0, none⟩) 1 1 [a] := by
  rw [← size_alloc1 w o]
  exact (own_lit (w.alloc o) a ha).ints
theorem ints_lit2 (w : World) (o : Obj) {a b : Int} (ha : I64 a) (hb : I64 b) : Ints ((w.alloc o).alloc (.cells #[.int .i64 a, .int .i64 b] 2)) (some ⟨w.heap.size + 1, 0, none⟩) 2 2 [a, b] := by
  rw [← size_alloc1 w o]
  have g := heap_alloc_new (w.alloc o) (.cells #[.int .i64 a, .int .i64 b] 2)
  refine ⟨rfl, by omega, by omega, ?_, fun _ => ⟨(w.alloc o).heap.size, 0, rfl, by simp, fun j hj => ?_⟩⟩
  · intro z hz
    simp at hz
    rcases hz with rfl | rfl
    · exact ha
    · exact hb
  · match j, hj with
    | 0, _ => rw [cell_blk g]; rfl
    | 1, _ => rw [cell_blk g]; rfl
theorem allB_one {a lo hi : Int} : allB [a] lo hi = inB a lo hi := by unfold allB; simp
theorem allB_two {a b lo hi : Int} : allB [a, b] lo hi = (inB a lo hi && inB b lo hi) := by unfold allB; simp
theorem inB_nat {a : Int} {n : Nat} (h : inB a 0 ((n : Int) - 1) = true) : ∃ a' : Nat, a = a' ∧ a' < n := by
  unfold inB at h
  simp at h
  exact ⟨a.toNat, by omega, by omega⟩

def rForestLevels (net : Net) (zs : List Int) (root level : Int) : List Int × Int := if codeT net zs level [root] = 0 then (levL net zs root.toNat level, 0) else ([], codeT net zs level [root])

def rGapBetween (net : Net) (zs : List Int) (a b : Int) : Int × Int := if codeT net zs 0 [a, b] = 0 then ((netG net).base (drF net zs) a.toNat - (netG net).base (drF net zs) b.toNat, 0) else (0, codeT net zs 0 [a, b])

/-- the first of the least of the first k + 1 numbers -/
def lowI (L : List Int) : Nat → Nat
  | 0 => 0
  | k + 1 => if ig L (k + 1) < ig L (lowI L k) then k + 1 else lowI L k
theorem lowI_facts (L : List Int) (k : Nat) : lowI L k ≤ k ∧ (∀ i, i ≤ k → ig L (lowI L k) ≤ ig L i) ∧ ∀ i, i < lowI L k → ig L (lowI L k) < ig L i := by
  induction k with
  | zero => exact ⟨Nat.le_refl _, fun i hi => by have : i = 0 := by omega
                                                 subst this; exact Int.le_refl _, fun i hi => by simp [lowI] at hi⟩
  | succ k ih =>
    obtain ⟨h1, h2, h3⟩ := ih
    unfold lowI
    by_cases h : ig L (k + 1) < ig L (lowI L k)
    · rw [if_pos h]
      refine ⟨Nat.le_refl _, fun i hi => ?_, fun i hi => ?_⟩
      · by_cases e : i = k + 1
        · subst e; exact Int.le_refl _
        · have := h2 i (by omega); omega
      · have := h2 i (by omega); omega
    · rw [if_neg h]
      refine ⟨by omega, fun i hi => ?_, h3⟩
      by_cases e : i = k + 1
      · subst e; omega
      · exact h2 i (by omega)

set_option maxHeartbeats 1000000 in
theorem slicesIndex_at (A : Option Addr) (n c : Nat) (zs : List Int) (x : Int) (j : Nat) (w : World) (h : Ints w A n c zs) (hj : j < n) (hx : ig zs j = x) (hne : ∀ i, i < j → ig zs i ≠ x) :
    Calls Try.prog 152 #[.slice A n c, .int .i64 x] w fun e w' => e = .returned (.int .i64 j) ∧ w = w' := by
  have hle := h.le
  have hcap := h.cap
  obtain ⟨b, off, rfl, hb, hc⟩ := h.cells (by omega)
  have HC := Lib.hid hc
  have HNE := Lib.hid hne
  clear hc hne
  go_enter Try.func152, Try.ntmps152
  go_wp2_with fail
  go_loop [8] (fun i => ∃ k : Nat, k ≤ j ∧ i = .int .i64 k) (fun i => n - (intOf i).toNat)
  case atStart => exact ⟨0, by omega, rfl⟩
  case round =>
    obtain ⟨k, hk, rfl⟩ := hrel
    have hck := HC.out k (by omega)
    by_cases e : k = j
    · subst e
      have g : (x == ig zs k) = true := by simp [hx]
      clear hx
      generalize ig zs k = X at *
      go_wp2_with fail
      go_ret
      exact ⟨rfl, rfl⟩
    · have g : (x == ig zs k) = false := by have := HNE.out k (by omega); simp; exact fun h => this h.symm
      generalize ig zs k = X at *
      go_wp2_with fail
      go_round
      case rel => exact ⟨k + 1, by omega, by go_num⟩
      case measure => simp [intOf]; omega

def rLowestNode (net : Net) (zs : List Int) : Int × Int := if codeT net zs 0 [] = 0 then (((lowI (levL net zs 0 0) (net.nodes.length - 1) : Nat) : Int), 0) else (0, codeT net zs 0 [])

end Go.Proofs.Ytfiikbcffpcbkaa
