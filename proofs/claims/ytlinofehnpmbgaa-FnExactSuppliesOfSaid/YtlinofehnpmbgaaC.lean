/- walks: lists of resistances; series -/
import Derived.Test.YtlinofehnpmbgaaA
import Derived.Test.YtlinofehnpmbgaaB
namespace Go.Proofs.Ytlinofehnpmbgaa
open Go.RowKit

/-- are all numbers between lo and hi -/
def allB (zs : List Int) (lo hi : Int) : Bool := zs.all (fun z => inB z lo hi)
theorem allB_no {zs : List Int} {lo hi : Int} {k : Nat} (hk : k < zs.length) (h : inB (ig zs k) lo hi = false) : allB zs lo hi = false := by
  unfold allB
  rw [List.all_eq_false]
  exact ⟨ig zs k, by rw [ig_lt hk]; exact List.getElem_mem hk, by simp [h]⟩
theorem allB_yes {zs : List Int} {lo hi : Int} {k : Nat} (hk : zs.length ≤ k) (h : ∀ j, j < k → inB (ig zs j) lo hi = true) : allB zs lo hi = true := by
  unfold allB
  rw [List.all_eq_true]
  intro x hx
  obtain ⟨i, hi, rfl⟩ := List.getElem_of_mem hx
  have := h i (by omega)
  rwa [ig_lt hi] at this
theorem allB_at {zs : List Int} {lo hi : Int} (h : allB zs lo hi = true) (j : Nat) (hj : j < zs.length) : lo ≤ ig zs j ∧ ig zs j ≤ hi := by
  unfold allB at h
  rw [List.all_eq_true] at h
  have := h (ig zs j) (by rw [ig_lt hj]; exact List.getElem_mem hj)
  simpa [inB] using this

set_option maxHeartbeats 1000000 in
theorem allWithin_any (A : Option Addr) (n c : Nat) (zs : List Int) (lo hi : Int) (w : World) (h : Ints w A n c zs) :
    Calls Try.prog 110 #[.slice A n c, .int .i64 lo, .int .i64 hi] w fun e w' => e = .returned (.bool (allB zs lo hi)) ∧ w = w' := by
  have hle := h.le
  have hcap := h.cap
  have hlen := Lib.hid h.len
  go_enter Try.func110, Try.ntmps110
  go_wp2
  go_loop [11] (fun i => ∃ k : Nat, k ≤ n ∧ i = .int .i64 k ∧ Hid (∀ j, j < k → inB (ig zs j) lo hi = true)) (fun i => n - (intOf i).toNat)
  case atStart => exact ⟨0, by omega, rfl, Lib.hid (fun j hj => absurd hj (by omega))⟩
  case round =>
    obtain ⟨k, hk, rfl, hq⟩ := hrel
    by_cases hlt : k < n
    · obtain ⟨b, off, rfl, hb, hc⟩ := h.cells (by omega)
      have hck := hc k hlt
      clear hc
      rcases hin : inB (ig zs k) lo hi with _ | _
      · go_wp2_with (go_at_call 65; refine (within_any _ _ _ _).mono ?_; rintro e w' ⟨rfl, rfl⟩)
        go_ret
        exact ⟨ret_bool (allB_no (by rw [hlen.out]; exact hlt) hin).symm, rfl⟩
      · go_wp2_with (go_at_call 65; refine (within_any _ _ _ _).mono ?_; rintro e w' ⟨rfl, rfl⟩)
        go_round
        case rel => exact ⟨k + 1, by omega, by go_num, Lib.hid (fun j hj => by
            rcases Nat.lt_or_ge j k with h' | h'
            · exact hq.out j h'
            · have : j = k := by omega
              subst this; exact hin)⟩
        case measure => simp [intOf]; omega
    · go_wp2
      go_ret
      exact ⟨ret_bool (allB_yes (by rw [hlen.out]; omega) hq.out).symm, rfl⟩

set_option maxHeartbeats 1000000 in
theorem l09Is_any (k : Int) (w : World) :
    Calls Try.prog 114 #[.int .i64 k] w fun e w' => e = .returned (.bool (inB k 1 1000)) ∧ w = w' := by
  go_enter Try.func114, Try.ntmps114
  go_wp2_with (go_at_call 66; refine (l01In_any _ _ _ _).mono ?_; rintro e w' ⟨rfl, rfl⟩)
  go_ret
  exact ⟨rfl, rfl⟩

/-- the code of a list of resistances -/
def codeR (zs : List Int) : Int := if inB zs.length 1 8 then (if allB zs 1 1000 then 0 else 2) else 3
theorem codeR_3 {zs : List Int} {n : Nat} (hl : zs.length = n) (h : inB n 1 8 = false) : codeR zs = 3 := by unfold codeR; rw [hl, h]; rfl
theorem codeR_2 {zs : List Int} {n : Nat} (hl : zs.length = n) (h : inB n 1 8 = true) (h2 : allB zs 1 1000 = false) : codeR zs = 2 := by unfold codeR; rw [hl, h, h2]; rfl
theorem codeR_0 {zs : List Int} {n : Nat} (hl : zs.length = n) (h : inB n 1 8 = true) (h2 : allB zs 1 1000 = true) : codeR zs = 0 := by unfold codeR; rw [hl, h, h2]; rfl

set_option maxHeartbeats 1000000 in
theorem checkResistances_any (A : Option Addr) (n c : Nat) (zs : List Int) (w : World) (h : Ints w A n c zs) :
    Calls Try.prog 69 #[.slice A n c] w fun e w' => e = .returned (.int .i64 (codeR zs)) ∧ w = w' := by
  have hlen := Lib.hid h.len
  rcases h1 : inB n 1 8 with _ | _
  · go_enter Try.func69, Try.ntmps69
    go_wp2_with (go_at_call 65; refine (within_any _ _ _ _).mono ?_; rintro e w' ⟨rfl, rfl⟩)
    go_ret
    exact ⟨ret_int (codeR_3 hlen.out h1).symm, rfl⟩
  · rcases h2 : allB zs 1 1000 with _ | _
    · go_enter Try.func69, Try.ntmps69
      go_wp2_with (first | (go_at_call 65; refine (within_any _ _ _ _).mono ?_; rintro e w' ⟨rfl, rfl⟩) | (go_at_call 110; refine (allWithin_any _ _ _ _ _ _ _ h).mono ?_; rintro e w' ⟨rfl, rfl⟩))
      go_ret
      exact ⟨ret_int (codeR_2 hlen.out h1 h2).symm, rfl⟩
    · go_enter Try.func69, Try.ntmps69
      go_wp2_with (first | (go_at_call 65; refine (within_any _ _ _ _).mono ?_; rintro e w' ⟨rfl, rfl⟩) | (go_at_call 110; refine (allWithin_any _ _ _ _ _ _ _ h).mono ?_; rintro e w' ⟨rfl, rfl⟩))
      go_ret
      exact ⟨ret_int (codeR_0 hlen.out h1 h2).symm, rfl⟩

set_option maxHeartbeats 1000000 in
theorem l09Code_any (A : Option Addr) (n c : Nat) (zs : List Int) (w : World) (h : Ints w A n c zs) :
    Calls Try.prog 70 #[.slice A n c] w fun e w' => e = .returned (.int .i64 (codeR zs)) ∧ w = w' := by
  have hle := h.le
  have hcap := h.cap
  have hlen := Lib.hid h.len
  rcases h1 : inB n 1 8 with _ | _
  · go_enter Try.func70, Try.ntmps70
    go_wp2_with (go_at_call 66; refine (l01In_any _ _ _ _).mono ?_; rintro e w' ⟨rfl, rfl⟩)
    go_ret
    exact ⟨ret_int (codeR_3 hlen.out h1).symm, rfl⟩
  · go_enter Try.func70, Try.ntmps70
    go_wp2_with (go_at_call 66; refine (l01In_any _ _ _ _).mono ?_; rintro e w' ⟨rfl, rfl⟩)
    go_loop [3] (fun i => ∃ k : Nat, k ≤ n ∧ i = .int .i64 k ∧ Hid (∀ j, j < k → inB (ig zs j) 1 1000 = true)) (fun i => n - (intOf i).toNat)
    case atStart => exact ⟨0, by omega, rfl, Lib.hid (fun j hj => absurd hj (by omega))⟩
    case round =>
      obtain ⟨k, hk, rfl, hq⟩ := hrel
      by_cases hlt : k < n
      · obtain ⟨b, off, rfl, hb, hc⟩ := h.cells (by omega)
        have hck := hc k hlt
        clear hc
        rcases hin : inB (ig zs k) 1 1000 with _ | _
        · go_wp2_with (go_at_call 114; refine (l09Is_any _ _).mono ?_; rintro e w' ⟨rfl, rfl⟩)
          go_ret
          exact ⟨ret_int (codeR_2 hlen.out h1 (allB_no (by rw [hlen.out]; exact hlt) hin)).symm, rfl⟩
        · go_wp2_with (go_at_call 114; refine (l09Is_any _ _).mono ?_; rintro e w' ⟨rfl, rfl⟩)
          go_round
          case rel => exact ⟨k + 1, by omega, by go_num, Lib.hid (fun j hj => by
              rcases Nat.lt_or_ge j k with h' | h'
              · exact hq.out j h'
              · have : j = k := by omega
                subst this; exact hin)⟩
          case measure => simp [intOf]; omega
      · go_wp2
        go_ret
        exact ⟨ret_int (codeR_0 hlen.out h1 (allB_yes (by rw [hlen.out]; omega) hq.out)).symm, rfl⟩

def seriesR (zs : List Int) : Int × Int := if codeR zs = 0 then (sumW zs, 0) else (0, codeR zs)

set_option maxHeartbeats 1000000 in
theorem specSeries_any (A : Option Addr) (n c : Nat) (zs : List Int) (w : World) (h : Ints w A n c zs) :
    Calls Try.prog 28 #[.slice A n c] w fun e w' => e = .returned (.tuple #[.int .i64 (seriesR zs).1, .int .i64 (seriesR zs).2]) ∧ w = w' := by
  by_cases hz : codeR zs = 0
  · have hb : (codeR zs != 0) = false := by simp [hz]
    have hz' := Lib.hid hz
    clear hz
    go_enter Try.func28, Try.ntmps28
    go_wp2_with (first | (go_at_call 70; refine (l09Code_any _ _ _ _ _ h).mono ?_; rintro e w' ⟨rfl, rfl⟩) | (go_at_call 71; refine (l01Sum_any _ _ _ _ _ h).mono ?_; rintro e w' ⟨rfl, rfl⟩))
    go_ret2
    exact ⟨by rw [seriesR, if_pos hz'.out]; rfl, rfl⟩
  · have hb : (codeR zs != 0) = true := by simp [hz]
    go_enter Try.func28, Try.ntmps28
    go_wp2_with (first | (go_at_call 70; refine (l09Code_any _ _ _ _ _ h).mono ?_; rintro e w' ⟨rfl, rfl⟩) | (go_at_call 71; refine (l01Sum_any _ _ _ _ _ h).mono ?_; rintro e w' ⟨rfl, rfl⟩))
    go_ret2
    exact ⟨by rw [seriesR, if_neg hz]; rfl, rfl⟩

set_option maxHeartbeats 1000000 in
theorem implSeries_any (A : Option Addr) (n c : Nat) (zs : List Int) (w : World) (h : Ints w A n c zs) :
    Calls Try.prog 27 #[.slice A n c] w fun e w' => e = .returned (.tuple #[.int .i64 (seriesR zs).1, .int .i64 (seriesR zs).2]) ∧ w = w' := by
  by_cases hz : codeR zs = 0
  · have hb : (codeR zs != 0) = false := by simp [hz]
    have hz' := Lib.hid hz
    clear hz
    go_enter Try.func27, Try.ntmps27
    go_wp2_with (first | (go_at_call 69; refine (checkResistances_any _ _ _ _ _ h).mono ?_; rintro e w' ⟨rfl, rfl⟩) | (go_at_call 60; refine (sumOf_any _ _ _ _ _ h).mono ?_; rintro e w' ⟨rfl, rfl⟩))
    go_ret2
    exact ⟨by rw [seriesR, if_pos hz'.out]; rfl, rfl⟩
  · have hb : (codeR zs != 0) = true := by simp [hz]
    go_enter Try.func27, Try.ntmps27
    go_wp2_with (first | (go_at_call 69; refine (checkResistances_any _ _ _ _ _ h).mono ?_; rintro e w' ⟨rfl, rfl⟩) | (go_at_call 60; refine (sumOf_any _ _ _ _ _ h).mono ?_; rintro e w' ⟨rfl, rfl⟩))
    go_ret2
    exact ⟨by rw [seriesR, if_neg hz]; rfl, rfl⟩

end Go.Proofs.Ytlinofehnpmbgaa
