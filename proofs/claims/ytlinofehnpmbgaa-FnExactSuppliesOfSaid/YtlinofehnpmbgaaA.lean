/- walks of the smallest functions -/
import Derived.Test.YtlinofehnpmbgaaMem
import Derived.Test.YtlinofehnpmbgaaMath
namespace Go.Proofs.Ytlinofehnpmbgaa
open Go.RowKit

def inB (n lo hi : Int) : Bool := decide (lo ≤ n) && decide (n ≤ hi)

theorem inB_iff' {n lo hi : Int} : inB n lo hi = true ↔ lo ≤ n ∧ n ≤ hi := by simp [inB]

set_option maxHeartbeats 400000 in
theorem within_any (n lo hi : Int) (w : World) :
    Calls Try.prog 65 #[.int .i64 n, .int .i64 lo, .int .i64 hi] w fun e w' => e = .returned (.bool (inB n lo hi)) ∧ w = w' := by
  by_cases h1 : lo ≤ n
  · by_cases h2 : n ≤ hi
    · go_enter Try.func65, Try.ntmps65
      go_wp2
      go_ret
      exact ⟨by simp [inB, h1, h2], rfl⟩
    · go_enter Try.func65, Try.ntmps65
      go_wp2
      go_ret
      exact ⟨by simp [inB, h1, h2], rfl⟩
  · go_enter Try.func65, Try.ntmps65
    go_wp2
    go_ret
    exact ⟨by simp [inB]; omega, rfl⟩

set_option maxHeartbeats 400000 in
theorem l01In_any (n lo hi : Int) (w : World) :
    Calls Try.prog 66 #[.int .i64 n, .int .i64 lo, .int .i64 hi] w fun e w' => e = .returned (.bool (inB n lo hi)) ∧ w = w' := by
  by_cases h1 : lo ≤ n
  · by_cases h2 : n ≤ hi
    · go_enter Try.func66, Try.ntmps66
      go_wp2
      go_ret
      exact ⟨by simp [inB, h1, h2], rfl⟩
    · go_enter Try.func66, Try.ntmps66
      go_wp2
      go_ret
      exact ⟨by simp [inB, h1, h2], rfl⟩
  · go_enter Try.func66, Try.ntmps66
    go_wp2
    go_ret
    exact ⟨by simp [inB]; omega, rfl⟩

theorem rootstep (lo hi : Int) (h : lo < hi) : lo < (lo + hi + 1) / 2 ∧ (lo + hi + 1) / 2 ≤ hi := by omega

set_option maxHeartbeats 1000000 in
theorem l01Root_any (n : Int) (w : World) (h0 : 0 ≤ n) (h1 : n ≤ 1000000000000000000) :
    Calls Try.prog 112 #[.int .i64 n] w fun e w' => e = .returned (.int .i64 (rt n)) ∧ w = w' := by
  go_enter Try.func112, Try.ntmps112
  go_wp2
  go_loop [3, 4] (fun lo hi => ∃ a b : Int, 0 ≤ a ∧ a ≤ b ∧ b ≤ 1000000000 ∧ a * a ≤ n ∧ n < (b + 1) * (b + 1) ∧ lo = .int .i64 a ∧ hi = .int .i64 b) (fun lo hi => (intOf hi - intOf lo).toNat)
  case atStart => exact ⟨0, 1000000000, by omega, by omega, by omega, by omega, by omega, rfl, rfl⟩
  case round =>
    obtain ⟨a, b, ha, hab, hb, haa, hbb, rfl, rfl⟩ := hrel
    by_cases hlt : a < b
    · obtain ⟨m1, m2⟩ := rootstep a b hlt
      have q1 := sq_le_sq (a := (a + b + 1) / 2) (b := 1000000000) (by omega) (by omega)
      have q0 := Int.mul_nonneg (a := (a + b + 1) / 2) (b := (a + b + 1) / 2) (by omega) (by omega)
      go_wp2
      · have hle : (a + b + 1) / 2 * ((a + b + 1) / 2) ≤ n := by assumption
        go_round
        case rel => exact ⟨(a + b + 1) / 2, b, by omega, by omega, hb, hle, hbb, rfl, rfl⟩
        case measure => simp [intOf]; omega
      · have hgt : n < (a + b + 1) / 2 * ((a + b + 1) / 2) := by assumption
        go_round
        case rel => exact ⟨a, (a + b + 1) / 2 - 1, ha, by omega, by omega, haa, by rw [Int.sub_add_cancel]; exact hgt, rfl, rfl⟩
        case measure => simp [intOf]; omega
    · go_wp2
      go_ret
      exact ⟨ret_int (rt_unique ha haa (by have : a = b := by omega
                                           subst this; exact hbb)), rfl⟩

set_option maxHeartbeats 1000000 in
theorem l09Flow_any (k d : Int) (w : World) (hk : 1 ≤ k) (h0 : 0 ≤ d) (h1 : d ≤ 1000000000000000000) :
    Calls Try.prog 58 #[.int .i64 k, .int .i64 d] w fun e w' => e = .returned (.int .i64 (rt (d / k))) ∧ w = w' := by
  have q0 : 0 ≤ d / k := Int.ediv_nonneg h0 (by omega)
  have q1 : d / k ≤ d := Int.ediv_le_self _ h0
  go_enter Try.func58, Try.ntmps58
  go_wp2_with (go_at_call 112; refine (l01Root_any _ _ (by omega) (by omega)).mono ?_; rintro e w' ⟨rfl, rfl⟩)
  go_ret
  exact ⟨rfl, rfl⟩

/-- the greatest resistance of at most c through which a drop drives the flow -/
def bestK (flow drop : Int) : Nat → Int
  | 0 => 0
  | k + 1 => if flow ≤ rt (drop / (k + 1 : Nat)) then (k + 1 : Nat) else bestK flow drop k

def best (flow drop : Int) : Int × Int :=
  if inB flow 0 30000 && inB drop 0 1000000000000000000 then
    if bestK flow drop 1000 = 0 then (0, 4) else (bestK flow drop 1000, 0)
  else (0, 2)

theorem best_none {flow drop : Int} (h1 : inB flow 0 30000 = true) (h2 : inB drop 0 1000000000000000000 = true) (h : bestK flow drop 1000 = bestK flow drop 0) : best flow drop = (0, 4) := by
  unfold best; simp only [h1, h2, Bool.and_self, if_true]; rw [if_pos (by rw [h]; rfl)]
theorem best_some {flow drop k : Int} (h1 : inB flow 0 30000 = true) (h2 : inB drop 0 1000000000000000000 = true) (h : bestK flow drop 1000 = k) (hk : k ≠ 0) : best flow drop = (k, 0) := by
  unfold best; simp only [h1, h2, Bool.and_self, if_true]; rw [if_neg (by rw [h]; exact hk), h]

set_option maxHeartbeats 1000000 in
theorem specBest_any (flow drop : Int) (w : World) :
    Calls Try.prog 24 #[.int .i64 flow, .int .i64 drop] w fun e w' => e = .returned (.tuple #[.int .i64 (best flow drop).1, .int .i64 (best flow drop).2]) ∧ w = w' := by
  rcases h1 : inB flow 0 30000 with _ | _
  · go_enter Try.func24, Try.ntmps24
    go_wp2_with (go_at_call 66; refine (l01In_any _ _ _ _).mono ?_; rintro e w' ⟨rfl, rfl⟩)
    go_ret2
    exact ⟨by simp [best, h1], rfl⟩
  · rcases h2 : inB drop 0 1000000000000000000 with _ | _
    · go_enter Try.func24, Try.ntmps24
      go_wp2_with (go_at_call 66; refine (l01In_any _ _ _ _).mono ?_; rintro e w' ⟨rfl, rfl⟩)
      go_ret2
      exact ⟨by simp [best, h1, h2], rfl⟩
    · go_enter Try.func24, Try.ntmps24
      go_wp2_with (go_at_call 66; refine (l01In_any _ _ _ _).mono ?_; rintro e w' ⟨rfl, rfl⟩)
      have g1 : 0 ≤ drop ∧ drop ≤ 1000000000000000000 := by simpa [inB] using h2
      obtain ⟨g1, g2⟩ := g1
      have H1 := Lib.hid h1
      have H2 := Lib.hid h2
      clear h1 h2
      go_loop [6] (fun t => ∃ k : Nat, k ≤ 1000 ∧ Hid (bestK flow drop 1000 = bestK flow drop k) ∧ t = .int .i64 k) (fun t => (intOf t).toNat)
      case atStart => exact ⟨1000, by omega, Lib.hid rfl, rfl⟩
      case round =>
        obtain ⟨k, hk, hb, rfl⟩ := hrel
        cases k with
        | zero =>
          go_wp2_with fail
          go_ret2
          have e : best flow drop = (0, 4) := best_none H1.out H2.out hb.out
          exact ⟨by rw [e]; rfl, rfl⟩
        | succ k =>
          have hk1 : ((k + 1 : Nat) : Int) = (k : Int) + 1 := by omega
          have HK := Lib.hid hk1
          clear hk1
          by_cases hf : flow ≤ rt (drop / ((k : Int) + 1))
          · go_wp2_with (go_at_call 58; refine (l09Flow_any _ _ _ (by omega) (by omega) (by omega)).mono ?_; rintro e w' ⟨rfl, rfl⟩)
            go_ret2
            have e : best flow drop = ((k : Int) + 1, 0) := best_some H1.out H2.out (by rw [hb.out, bestK, HK.out, if_pos hf]) (by omega)
            exact ⟨by rw [e]; rfl, rfl⟩
          · go_wp2_with (go_at_call 58; refine (l09Flow_any _ _ _ (by omega) (by omega) (by omega)).mono ?_; rintro e w' ⟨rfl, rfl⟩)
            go_round
            case rel => exact ⟨k, by omega, Lib.hid (by rw [hb.out, bestK, HK.out, if_neg (by omega)]), by go_num⟩
            case measure => simp [intOf]

theorem le_rt_iff {f d k : Int} (h0 : 0 ≤ f) (hd : 0 ≤ d) (hk : 1 ≤ k) : f ≤ rt (d / k) ↔ f * f * k ≤ d := by
  have q0 : 0 ≤ d / k := Int.ediv_nonneg hd (by omega)
  rw [← Int.le_ediv_iff_mul_le (by omega)]
  constructor
  · intro h
    exact Int.le_trans (sq_le_sq h0 h) (rt_sq_le q0)
  · intro h
    exact le_rt h0 h

theorem bestK_pos {f d : Int} (h0 : 1 ≤ f) (hd : 0 ≤ d) (n : Nat) : bestK f d n = min (n : Int) (d / (f * f)) := by
  have hff : 0 < f * f := Int.mul_pos (by omega) (by omega)
  have q0 : 0 ≤ d / (f * f) := Int.ediv_nonneg hd (by omega)
  induction n with
  | zero => simp only [bestK]; omega
  | succ n ih =>
    have hiff := le_rt_iff (f := f) (d := d) (k := ((n + 1 : Nat) : Int)) (by omega) hd (by omega)
    have hiff2 : f * f * ((n + 1 : Nat) : Int) ≤ d ↔ ((n + 1 : Nat) : Int) ≤ d / (f * f) := by
      rw [Int.le_ediv_iff_mul_le hff, Int.mul_comm]
    unfold bestK
    split
    · rename_i h; have := hiff2.1 (hiff.1 h); omega
    · rename_i h
      have : ¬ ((n + 1 : Nat) : Int) ≤ d / (f * f) := fun h' => h (hiff.2 (hiff2.2 h'))
      rw [ih]; omega

theorem bestK_zero {d : Int} (n : Nat) : bestK 0 d (n + 1) = ((n + 1 : Nat) : Int) := by
  unfold bestK
  rw [if_pos (rt_nonneg _)]

theorem best_zero {d : Int} (h : inB d 0 1000000000000000000 = true) : best 0 d = (1000, 0) := best_some (by decide) h (bestK_zero 999) (by omega)

theorem best_pos {f d : Int} (h1 : inB f 0 30000 = true) (h2 : inB d 0 1000000000000000000 = true) (h : 1 ≤ f) :
    best f d = if min 1000 (d / (f * f)) = 0 then (0, 4) else (min 1000 (d / (f * f)), 0) := by
  have hd : 0 ≤ d ∧ d ≤ 1000000000000000000 := by simpa [inB] using h2
  have e : bestK f d 1000 = min 1000 (d / (f * f)) := bestK_pos h hd.1 1000
  unfold best
  simp only [h1, h2, Bool.and_self, if_true, e]

set_option maxHeartbeats 1000000 in
theorem implBest_any (flow drop : Int) (w : World) :
    Calls Try.prog 23 #[.int .i64 flow, .int .i64 drop] w fun e w' => e = .returned (.tuple #[.int .i64 (best flow drop).1, .int .i64 (best flow drop).2]) ∧ w = w' := by
  rcases h1 : inB flow 0 30000 with _ | _
  · go_enter Try.func23, Try.ntmps23
    go_wp2_with (go_at_call 65; refine (within_any _ _ _ _).mono ?_; rintro e w' ⟨rfl, rfl⟩)
    go_ret2
    exact ⟨by simp [best, h1], rfl⟩
  · rcases h2 : inB drop 0 1000000000000000000 with _ | _
    · go_enter Try.func23, Try.ntmps23
      go_wp2_with (go_at_call 65; refine (within_any _ _ _ _).mono ?_; rintro e w' ⟨rfl, rfl⟩)
      go_ret2
      exact ⟨by simp [best, h1, h2], rfl⟩
    · have g1 : 0 ≤ drop ∧ drop ≤ 1000000000000000000 := by simpa [inB] using h2
      have g2 : 0 ≤ flow ∧ flow ≤ 30000 := by simpa [inB] using h1
      obtain ⟨g1, g1'⟩ := g1
      obtain ⟨g2, g2'⟩ := g2
      by_cases hf : flow = 0
      · subst hf
        go_enter Try.func23, Try.ntmps23
        go_wp2_with (go_at_call 65; refine (within_any _ _ _ _).mono ?_; rintro e w' ⟨rfl, rfl⟩)
        go_ret2
        exact ⟨by rw [best_zero h2]; rfl, rfl⟩
      · have hp : 1 ≤ flow := by omega
        clear hf
        have m0 : 1 ≤ flow * flow := Int.mul_pos (by omega) (by omega)
        have m1 := sq_le_sq (a := flow) (b := 30000) (by omega) (by omega)
        have q0 : 0 ≤ drop / (flow * flow) := Int.ediv_nonneg (by omega) (by omega)
        have q1 : drop / (flow * flow) ≤ drop := Int.ediv_le_self _ (by omega)
        have E := Lib.hid (best_pos h1 h2 hp)
        by_cases hz : drop / (flow * flow) < 1
        · go_enter Try.func23, Try.ntmps23
          go_wp2_with (go_at_call 65; refine (within_any _ _ _ _).mono ?_; rintro e w' ⟨rfl, rfl⟩)
          go_ret2
          exact ⟨by rw [E.out, if_pos (by omega)]; rfl, rfl⟩
        · by_cases hm : drop / (flow * flow) < 1000
          · go_enter Try.func23, Try.ntmps23
            go_wp2_with (go_at_call 65; refine (within_any _ _ _ _).mono ?_; rintro e w' ⟨rfl, rfl⟩)
            go_ret2
            exact ⟨by rw [E.out, if_neg (by omega), show min 1000 (drop / (flow * flow)) = drop / (flow * flow) by omega]; rfl, rfl⟩
          · go_enter Try.func23, Try.ntmps23
            go_wp2_with (go_at_call 65; refine (within_any _ _ _ _).mono ?_; rintro e w' ⟨rfl, rfl⟩)
            go_ret2
            exact ⟨by rw [E.out, if_neg (by omega), show min 1000 (drop / (flow * flow)) = 1000 by omega]; rfl, rfl⟩

end Go.Proofs.Ytlinofehnpmbgaa
