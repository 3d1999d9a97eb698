/- walks: lists of resistances; series -/
import Derived.Test.YtioiebjgjimeiaaB
namespace Go.Proofs.Ytioiebjgjimeiaa
open Go.RowKit

/-- are all numbers between lo and hi -/
def allB (zs : List Int) (lo hi : Int) : Bool := zs.all (fun z => inB z lo hi)
theorem allB_no {zs : List Int} {lo hi : Int} {k : Nat} (hk : k < zs.length) (h : inB (ig zs k) lo hi = false) : allB zs lo hi = false := by
  unfold allB
  rw [List.all_eq_false]
  exact ⟨ig zs k, by rw [ig_lt hk]; exact List.getElem_mem hk, by simp [h]⟩
theorem allB_yes {zs : List Int} {lo hi : Int} {k : Nat} (hk : zs.length ≤ k) (h : ∀ j, j < k → inB (ig zs j) lo hi = true) : allB zs lo hi = true := by
  unfold allB
  rw [List.all_eq_true]
  intro x hx
  obtain ⟨i, hi, rfl⟩ := List.getElem_of_mem hx
  have := h i (by omega)
  rwa [ig_lt hi] at this
theorem allB_at {zs : List Int} {lo hi : Int} (h : allB zs lo hi = true) (j : Nat) (hj : j < zs.length) : lo ≤ ig zs j ∧ ig zs j ≤ hi := by
  unfold allB at h
  rw [List.all_eq_true] at h
  have := h (ig zs j) (by rw [ig_lt hj]; exact List.getElem_mem hj)
  simpa [inB] using this

set_option maxHeartbeats 1000000 in
theorem allWithin_any (A : Option Addr) (n c : Nat) (zs : List Int) (lo hi : Int) (w : World) (h : Ints w A n c zs) :
    Calls Try.prog 92 #[.slice A n c, .int .i64 lo, .int .i64 hi] w fun e w' => e = .returned (.bool (allB zs lo hi)) ∧ w = w' := by
  have hle := h.le
  have hcap := h.cap
  have hlen := Lib.hid h.len
  go_enter Try.func92, Try.ntmps92
  go_wp2
  go_loop [11] (fun i => ∃ k : Nat, k ≤ n ∧ i = .int .i64 k ∧ Hid (∀ j, j < k → inB (ig zs j) lo hi = true)) (fun i => n - (intOf i).toNat)
  case atStart => exact ⟨0, by omega, rfl, Lib.hid (fun j hj => absurd hj (by omega))⟩
  case round =>
    obtain ⟨k, hk, rfl, hq⟩ := hrel
    by_cases hlt : k < n
    · obtain ⟨b, off, rfl, hb, hc⟩ := h.cells (by omega)
      have hck := hc k hlt
      clear hc
      rcases hin : inB (ig zs k) lo hi with _ | _
      · go_wp2_with (go_at_call 136; refine (within_any _ _ _ _).mono ?_; rintro e w' ⟨rfl, rfl⟩)
        go_ret
        exact ⟨ret_bool (allB_no (by rw [hlen.out]; exact hlt) hin).symm, rfl⟩
      · go_wp2_with (go_at_call 136; refine (within_any _ _ _ _).mono ?_; rintro e w' ⟨rfl, rfl⟩)
        go_round
        case rel => exact ⟨k + 1, by omega, by go_num, Lib.hid (fun j hj => by
            rcases Nat.lt_or_ge j k with h' | h'
            · exact hq.out j h'
            · have : j = k := by omega
              subst this; exact hin)⟩
        case measure => simp [intOf]; omega
    · go_wp2
      go_ret
      exact ⟨ret_bool (allB_yes (by rw [hlen.out]; omega) hq.out).symm, rfl⟩

/-- the code of a list of resistances -/
def codeR (zs : List Int) : Int := if inB zs.length 1 8 then (if allB zs 1 1000 then 0 else 2) else 3
theorem codeR_3 {zs : List Int} {n : Nat} (hl : zs.length = n) (h : inB n 1 8 = false) : codeR zs = 3 := by unfold codeR; rw [hl, h]; rfl
theorem codeR_2 {zs : List Int} {n : Nat} (hl : zs.length = n) (h : inB n 1 8 = true) (h2 : allB zs 1 1000 = false) : codeR zs = 2 := by unfold codeR; rw [hl, h, h2]; rfl
theorem codeR_0 {zs : List Int} {n : Nat} (hl : zs.length = n) (h : inB n 1 8 = true) (h2 : allB zs 1 1000 = true) : codeR zs = 0 := by unfold codeR; rw [hl, h, h2]; rfl

def seriesR (zs : List Int) : Int × Int := if codeR zs = 0 then (sumW zs, 0) else (0, codeR zs)

end Go.Proofs.Ytioiebjgjimeiaa
