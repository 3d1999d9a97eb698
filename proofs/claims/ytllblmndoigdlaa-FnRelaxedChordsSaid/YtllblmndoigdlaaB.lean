/- walks of the smallest functions -/
import Derived.Test.YtllblmndoigdlaaMem
import Derived.Deep.QuietTactic
import Derived.BigQuiet
namespace Go.Proofs.Ytllblmndoigdlaa
open Go.RowKit

def inB (n lo hi : Int) : Bool := decide (lo ≤ n) && decide (n ≤ hi)

theorem inB_iff' {n lo hi : Int} : inB n lo hi = true ↔ lo ≤ n ∧ n ≤ hi := by simp [inB]

set_option maxHeartbeats 400000 in
theorem within_any (n lo hi : Int) (w : World) :
    Calls Try.prog 76 #[.int .i64 n, .int .i64 lo, .int .i64 hi] w fun e w' => e = .returned (.bool (inB n lo hi)) ∧ w = w' := by
  by_cases h1 : lo ≤ n
  · by_cases h2 : n ≤ hi
    · go_enter Try.func76, Try.ntmps76
      go_wp2
      go_ret
      exact ⟨by simp [inB, h1, h2], rfl⟩
    · go_enter Try.func76, Try.ntmps76
      go_wp2
      go_ret
      exact ⟨by simp [inB, h1, h2], rfl⟩
  · go_enter Try.func76, Try.ntmps76
    go_wp2
    go_ret
    exact ⟨by simp [inB]; omega, rfl⟩

set_option maxHeartbeats 400000 in
theorem l01In_any (n lo hi : Int) (w : World) :
    Calls Try.prog 119 #[.int .i64 n, .int .i64 lo, .int .i64 hi] w fun e w' => e = .returned (.bool (inB n lo hi)) ∧ w = w' := by
  by_cases h1 : lo ≤ n
  · by_cases h2 : n ≤ hi
    · go_enter Try.func119, Try.ntmps119
      go_wp2
      go_ret
      exact ⟨by simp [inB, h1, h2], rfl⟩
    · go_enter Try.func119, Try.ntmps119
      go_wp2
      go_ret
      exact ⟨by simp [inB, h1, h2], rfl⟩
  · go_enter Try.func119, Try.ntmps119
    go_wp2
    go_ret
    exact ⟨by simp [inB]; omega, rfl⟩

theorem rootstep (lo hi : Int) (h : lo < hi) : lo < (lo + hi + 1) / 2 ∧ (lo + hi + 1) / 2 ≤ hi := by omega

/-- the greatest resistance of at most c through which a drop drives the flow -/
def bestK (flow drop : Int) : Nat → Int
  | 0 => 0
  | k + 1 => if flow ≤ rt (drop / (k + 1 : Nat)) then (k + 1 : Nat) else bestK flow drop k

def best (flow drop : Int) : Int × Int :=
  if inB flow 0 30000 && inB drop 0 1000000000000000000 then
    if bestK flow drop 1000 = 0 then (0, 4) else (bestK flow drop 1000, 0)
  else (0, 2)

theorem best_none {flow drop : Int} (h1 : inB flow 0 30000 = true) (h2 : inB drop 0 1000000000000000000 = true) (h : bestK flow drop 1000 = bestK flow drop 0) : best flow drop = (0, 4) := by
  unfold best; simp only [h1, h2, Bool.and_self, if_true]; rw [if_pos (by rw [h]; rfl)]
theorem best_some {flow drop k : Int} (h1 : inB flow 0 30000 = true) (h2 : inB drop 0 1000000000000000000 = true) (h : bestK flow drop 1000 = k) (hk : k ≠ 0) : best flow drop = (k, 0) := by
  unfold best; simp only [h1, h2, Bool.and_self, if_true]; rw [if_neg (by rw [h]; exact hk), h]

theorem le_rt_iff {f d k : Int} (h0 : 0 ≤ f) (hd : 0 ≤ d) (hk : 1 ≤ k) : f ≤ rt (d / k) ↔ f * f * k ≤ d := by
  have q0 : 0 ≤ d / k := Int.ediv_nonneg hd (by omega)
  rw [← Int.le_ediv_iff_mul_le (by omega)]
  constructor
  · intro h
    exact Int.le_trans (sq_le_sq h0 h) (rt_sq_le q0)
  · intro h
    exact le_rt h0 h

theorem bestK_pos {f d : Int} (h0 : 1 ≤ f) (hd : 0 ≤ d) (n : Nat) : bestK f d n = min (n : Int) (d / (f * f)) := by
  have hff : 0 < f * f := Int.mul_pos (by omega) (by omega)
  have q0 : 0 ≤ d / (f * f) := Int.ediv_nonneg hd (by omega)
  induction n with
  | zero => simp only [bestK]; omega
  | succ n ih =>
    have hiff := le_rt_iff (f := f) (d := d) (k := ((n + 1 : Nat) : Int)) (by omega) hd (by omega)
    have hiff2 : f * f * ((n + 1 : Nat) : Int) ≤ d ↔ ((n + 1 : Nat) : Int) ≤ d / (f * f) := by
      rw [Int.le_ediv_iff_mul_le hff, Int.mul_comm]
    unfold bestK
    split
    · rename_i h; have := hiff2.1 (hiff.1 h); omega
    · rename_i h
      have : ¬ ((n + 1 : Nat) : Int) ≤ d / (f * f) := fun h' => h (hiff.2 (hiff2.2 h'))
      rw [ih]; omega

theorem bestK_zero {d : Int} (n : Nat) : bestK 0 d (n + 1) = ((n + 1 : Nat) : Int) := by
  unfold bestK
  rw [if_pos (rt_nonneg _)]

theorem best_zero {d : Int} (h : inB d 0 1000000000000000000 = true) : best 0 d = (1000, 0) := best_some (by decide) h (bestK_zero 999) (by omega)

theorem best_pos {f d : Int} (h1 : inB f 0 30000 = true) (h2 : inB d 0 1000000000000000000 = true) (h : 1 ≤ f) :
    best f d = if min 1000 (d / (f * f)) = 0 then (0, 4) else (min 1000 (d / (f * f)), 0) := by
  have hd : 0 ≤ d ∧ d ≤ 1000000000000000000 := by simpa [inB] using h2
  have e : bestK f d 1000 = min 1000 (d / (f * f)) := bestK_pos h hd.1 1000
  unfold best
  simp only [h1, h2, Bool.and_self, if_true, e]

end Go.Proofs.Ytllblmndoigdlaa

/- walks: lists of numbers -/
namespace Go.Proofs.Ytllblmndoigdlaa
open Go.RowKit

theorem take_snoc_ig {zs : List Int} {k : Nat} (h : k < zs.length) : zs.take (k + 1) = zs.take k ++ [ig zs k] := by
  rw [List.take_succ_eq_append_getElem h, ig_lt h]

/-- the sum, as Go has it -/
def sumW (zs : List Int) : Int := zs.foldl (fun a z => wrap64 (a + z)) 0
theorem sumW_snoc {zs : List Int} {k : Nat} (h : k < zs.length) : sumW (zs.take (k + 1)) = wrap64 (sumW (zs.take k) + ig zs k) := by
  unfold sumW; rw [take_snoc_ig h, List.foldl_append]; rfl

theorem set_prefix {zs : List Int} {k n : Nat} (hn : zs.length = n) (h : k < n) : (zs.take k ++ List.replicate (n - k) 0).set k (ig zs k) = zs.take (k + 1) ++ List.replicate (n - (k + 1)) 0 := by
  have hk : (zs.take k).length = k := by rw [List.length_take]; omega
  rw [List.set_append_right k _ (by omega), hk, Nat.sub_self, show n - k = (n - (k + 1)) + 1 by omega, List.replicate_succ, List.set_cons_zero, take_snoc_ig (by omega)]
  simp

/-- are the lists alike -/
def eqL (xs ys : List Int) : Bool := decide (xs = ys)
theorem eqL_self (zs : List Int) : eqL zs zs = true := by simp [eqL]
theorem eqL_of {xs ys : List Int} {k : Nat} (hl : xs.length = ys.length) (hk : xs.length ≤ k) (h : ∀ j, j < k → ig xs j = ig ys j) : eqL xs ys = true := by
  unfold eqL
  simp only [decide_eq_true_eq]
  apply List.ext_getElem hl
  intro i h1 h2
  have := h i (by omega)
  rwa [ig_lt h1, ig_lt h2] at this
theorem eqL_ne {xs ys : List Int} {k : Nat} (h : ig xs k ≠ ig ys k) : eqL xs ys = false := by
  unfold eqL; simp only [decide_eq_false_iff_not]; rintro rfl; exact h rfl
theorem eqL_len {xs ys : List Int} (h : xs.length ≠ ys.length) : eqL xs ys = false := by
  unfold eqL; simp only [decide_eq_false_iff_not]; rintro rfl; exact h rfl

set_option maxHeartbeats 1000000 in
theorem likeInts_any (A B : Option Addr) (n m c d : Nat) (xs ys : List Int) (w : World) (h : Ints w A n c xs) (g : Ints w B m d ys) :
    Calls Try.prog 15 #[.slice A n c, .slice B m d] w fun e w' => e = .returned (.bool (eqL xs ys)) ∧ ∃ q, w' = w.drewN q := by
  have hle := h.le
  have hcap := h.cap
  have hlen := Lib.hid h.len
  have glen := Lib.hid g.len
  by_cases hnm : n = m
  · subst hnm
    go_enter Try.func15, Try.ntmps15
    go_wp2
    go_loopw [5] (fun i wr => ∃ k : Nat, k ≤ n ∧ i = .int .i64 k ∧ Hid (∀ j, j < k → ig xs j = ig ys j) ∧ ∃ q, wr = w.drewN q) (fun i _ => n - (intOf i).toNat)
    case atStart => exact ⟨0, by omega, rfl, Lib.hid (fun j hj => absurd hj (by omega)), 0, rfl⟩
    case round =>
      obtain ⟨k, hk, rfl, hq, q, rfl⟩ := hrel
      by_cases hlt : k < n
      · obtain ⟨b, off, rfl, hbl, hc⟩ := h.cells (by omega)
        obtain ⟨b', off', rfl, hbl', hc'⟩ := g.cells (by omega)
        have hck := hc k hlt
        have hck' := hc' k hlt
        clear hc hc'
        go_wp2
        go_quiet (fail)
        go_wp2
        · go_ret
          exact ⟨ret_bool (eqL_ne (k := k) (by simpa using ‹(ig xs k != ig ys k) = true›)).symm, _, World.drewN_drewN _ _ _⟩
        · go_roundw
          case rel => exact ⟨k + 1, by omega, by go_num, Lib.hid (fun j hj => by
            rcases Nat.lt_or_ge j k with h' | h'
            · exact hq.out j h'
            · have : j = k := by omega
              subst this; simpa using ‹(ig xs j != ig ys j) = false›), _, rfl⟩
          case measure => simp [intOf]; omega
      · go_wp2
        go_ret
        exact ⟨ret_bool (eqL_of (by rw [hlen.out, glen.out]) (by rw [hlen.out]; omega) hq.out).symm, _, rfl⟩
  · have hne : ((n : Int) != (m : Int)) = true := by simp; omega
    go_enter Try.func15, Try.ntmps15
    go_wp2
    go_ret
    exact ⟨ret_bool (eqL_len (by rw [hlen.out, glen.out]; exact hnm)).symm, 0, rfl⟩

end Go.Proofs.Ytllblmndoigdlaa
