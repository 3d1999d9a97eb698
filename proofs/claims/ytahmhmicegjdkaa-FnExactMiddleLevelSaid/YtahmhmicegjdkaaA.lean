/- walks of the smallest functions -/
import Derived.Test.YtahmhmicegjdkaaMem
import Derived.Test.YtahmhmicegjdkaaMath
namespace Go.Proofs.Ytahmhmicegjdkaa
open Go.RowKit

def inB (n lo hi : Int) : Bool := decide (lo ≤ n) && decide (n ≤ hi)

theorem inB_iff' {n lo hi : Int} : inB n lo hi = true ↔ lo ≤ n ∧ n ≤ hi := by simp [inB]

set_option maxHeartbeats 400000 in
theorem within_any (n lo hi : Int) (w : World) :
    Calls Try.prog 108 #[.int .i64 n, .int .i64 lo, .int .i64 hi] w fun e w' => e = .returned (.bool (inB n lo hi)) ∧ w = w' := by
  by_cases h1 : lo ≤ n
  · by_cases h2 : n ≤ hi
    · go_enter Try.func108, Try.ntmps108
      go_wp2
      go_ret
      exact ⟨by simp [inB, h1, h2], rfl⟩
    · go_enter Try.func108, Try.ntmps108
      go_wp2
      go_ret
      exact ⟨by simp [inB, h1, h2], rfl⟩
  · go_enter Try.func108, Try.ntmps108
    go_wp2
    go_ret
    exact ⟨by simp [inB]; omega, rfl⟩

set_option maxHeartbeats 400000 in
theorem l01In_any (n lo hi : Int) (w : World) :
    Calls Try.prog 138 #[.int .i64 n, .int .i64 lo, .int .i64 hi] w fun e w' => e = .returned (.bool (inB n lo hi)) ∧ w = w' := by
  by_cases h1 : lo ≤ n
  · by_cases h2 : n ≤ hi
    · go_enter Try.func138, Try.ntmps138
      go_wp2
      go_ret
      exact ⟨by simp [inB, h1, h2], rfl⟩
    · go_enter Try.func138, Try.ntmps138
      go_wp2
      go_ret
      exact ⟨by simp [inB, h1, h2], rfl⟩
  · go_enter Try.func138, Try.ntmps138
    go_wp2
    go_ret
    exact ⟨by simp [inB]; omega, rfl⟩

theorem rootstep (lo hi : Int) (h : lo < hi) : lo < (lo + hi + 1) / 2 ∧ (lo + hi + 1) / 2 ≤ hi := by omega

/-- the greatest resistance of at most c through which a drop drives the flow -/
def bestK (flow drop : Int) : Nat → Int
  | 0 => 0
  | k + 1 => if flow ≤ rt (drop / (k + 1 : Nat)) then (k + 1 : Nat) else bestK flow drop k

def best (flow drop : Int) : Int × Int :=
  if inB flow 0 30000 && inB drop 0 1000000000000000000 then
    if bestK flow drop 1000 = 0 then (0, 4) else (bestK flow drop 1000, 0)
  else (0, 2)

theorem best_none {flow drop : Int} (h1 : inB flow 0 30000 = true) (h2 : inB drop 0 1000000000000000000 = true) (h : bestK flow drop 1000 = bestK flow drop 0) : best flow drop = (0, 4) := by
  unfold best; simp only [h1, h2, Bool.and_self, if_true]; rw [if_pos (by rw [h]; rfl)]
theorem best_some {flow drop k : Int} (h1 : inB flow 0 30000 = true) (h2 : inB drop 0 1000000000000000000 = true) (h : bestK flow drop 1000 = k) (hk : k ≠ 0) : best flow drop = (k, 0) := by
  unfold best; simp only [h1, h2, Bool.and_self, if_true]; rw [if_neg (by rw [h]; exact hk), h]

theorem le_rt_iff {f d k : Int} (h0 : 0 ≤ f) (hd : 0 ≤ d) (hk : 1 ≤ k) : f ≤ rt (d / k) ↔ f * f * k ≤ d := by
  have q0 : 0 ≤ d / k := Int.ediv_nonneg hd (by omega)
  rw [← Int.le_ediv_iff_mul_le (by omega)]
  constructor
  · intro h
    exact Int.le_trans (sq_le_sq h0 h) (rt_sq_le q0)
  · intro h
    exact le_rt h0 h

theorem bestK_pos {f d : Int} (h0 : 1 ≤ f) (hd : 0 ≤ d) (n : Nat) : bestK f d n = min (n : Int) (d / (f * f)) := by
  have hff : 0 < f * f := Int.mul_pos (by omega) (by omega)
  have q0 : 0 ≤ d / (f * f) := Int.ediv_nonneg hd (by omega)
  induction n with
  | zero => simp only [bestK]; omega
  | succ n ih =>
    have hiff := le_rt_iff (f := f) (d := d) (k := ((n + 1 : Nat) : Int)) (by omega) hd (by omega)
    have hiff2 : f * f * ((n + 1 : Nat) : Int) ≤ d ↔ ((n + 1 : Nat) : Int) ≤ d / (f * f) := by
      rw [Int.le_ediv_iff_mul_le hff, Int.mul_comm]
    unfold bestK
    split
    · rename_i h; have := hiff2.1 (hiff.1 h); omega
    · rename_i h
      have : ¬ ((n + 1 : Nat) : Int) ≤ d / (f * f) := fun h' => h (hiff.2 (hiff2.2 h'))
      rw [ih]; omega

theorem bestK_zero {d : Int} (n : Nat) : bestK 0 d (n + 1) = ((n + 1 : Nat) : Int) := by
  unfold bestK
  rw [if_pos (rt_nonneg _)]

theorem best_zero {d : Int} (h : inB d 0 1000000000000000000 = true) : best 0 d = (1000, 0) := best_some (by decide) h (bestK_zero 999) (by omega)

theorem best_pos {f d : Int} (h1 : inB f 0 30000 = true) (h2 : inB d 0 1000000000000000000 = true) (h : 1 ≤ f) :
    best f d = if min 1000 (d / (f * f)) = 0 then (0, 4) else (min 1000 (d / (f * f)), 0) := by
  have hd : 0 ≤ d ∧ d ≤ 1000000000000000000 := by simpa [inB] using h2
  have e : bestK f d 1000 = min 1000 (d / (f * f)) := bestK_pos h hd.1 1000
  unfold best
  simp only [h1, h2, Bool.and_self, if_true, e]

end Go.Proofs.Ytahmhmicegjdkaa
