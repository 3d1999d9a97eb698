/- walks: lists of numbers -/
import Derived.Test.YtahmhmicegjdkaaMem
import Derived.Test.YtahmhmicegjdkaaMath
import Derived.Deep.QuietTactic
import Derived.BigQuiet
namespace Go.Proofs.Ytahmhmicegjdkaa
open Go.RowKit

theorem take_snoc_ig {zs : List Int} {k : Nat} (h : k < zs.length) : zs.take (k + 1) = zs.take k ++ [ig zs k] := by
  rw [List.take_succ_eq_append_getElem h, ig_lt h]

/-- the sum, as Go has it -/
def sumW (zs : List Int) : Int := zs.foldl (fun a z => wrap64 (a + z)) 0
theorem sumW_snoc {zs : List Int} {k : Nat} (h : k < zs.length) : sumW (zs.take (k + 1)) = wrap64 (sumW (zs.take k) + ig zs k) := by
  unfold sumW; rw [take_snoc_ig h, List.foldl_append]; rfl

theorem set_prefix {zs : List Int} {k n : Nat} (hn : zs.length = n) (h : k < n) : (zs.take k ++ List.replicate (n - k) 0).set k (ig zs k) = zs.take (k + 1) ++ List.replicate (n - (k + 1)) 0 := by
  have hk : (zs.take k).length = k := by rw [List.length_take]; omega
  rw [List.set_append_right k _ (by omega), hk, Nat.sub_self, show n - k = (n - (k + 1)) + 1 by omega, List.replicate_succ, List.set_cons_zero, take_snoc_ig (by omega)]
  simp

set_option maxHeartbeats 1000000 in
theorem toInt64S_any (A : Option Addr) (n c : Nat) (zs : List Int) (w : World) (h : Ints w A n c zs) (hn : n ≤ 17592186044416) :
    Calls Try.prog 18 #[.slice A n c] w fun e w' => ∃ A' c', e = .returned (.slice A' n c') ∧ Own w' A' n c' zs ∧ Fresh w.heap.size A' ∧ Below w.heap.size w w' := by
  have hlen := Lib.hid h.len
  go_enter Try.func18, Try.ntmps18
  go_wp2_with (at_make; refine law_make _ rfl _ _ rfl n _ _ rfl rfl rfl rfl hn ?_; intro w1 ho1 hb1 hs1)
  go_loopw [4] (fun i wr => ∃ k : Nat, k ≤ n ∧ i = .int .i64 k ∧ Own wr (some ⟨w.heap.size, 0, none⟩) n n (zs.take k ++ List.replicate (n - k) 0) ∧ Below w.heap.size w wr) (fun i _ => n - (intOf i).toNat)
  case atStart => exact ⟨0, by omega, rfl, by simpa using ho1, hb1⟩
  case round =>
    obtain ⟨k, hk, rfl, ho, hb⟩ := hrel
    by_cases hlt : k < n
    · obtain ⟨b, off, rfl, hbl, hc⟩ := (h.later hb).cells (by omega)
      have hck := hc k hlt
      have hold := ho.cell hlt
      have hfr := ho.unfrozen k
      have hi := h.i64 k
      have hst := ho.store k hi
      rw [set_prefix hlen.out hlt] at hst
      have HST := Lib.hid hst
      clear hc hst
      go_wp2
      go_roundw
      case rel => exact ⟨k + 1, by omega, by go_num, HST.out, hb.setCell (Nat.le_refl _) _⟩
      case measure => simp [intOf]; omega
    · go_wp2
      go_ret
      have hkn : k = n := by omega
      subst hkn
      refine ⟨_, _, rfl, ?_, fun a ha => ?_, hb⟩
      · have := ho; rw [List.take_of_length_le (by rw [hlen.out]; omega), Nat.sub_self] at this; simpa using this
      · injection ha with ha; subst ha; exact Nat.le_refl _

/-- are the lists alike -/
def eqL (xs ys : List Int) : Bool := decide (xs = ys)
theorem eqL_self (zs : List Int) : eqL zs zs = true := by simp [eqL]
theorem eqL_of {xs ys : List Int} {k : Nat} (hl : xs.length = ys.length) (hk : xs.length ≤ k) (h : ∀ j, j < k → ig xs j = ig ys j) : eqL xs ys = true := by
  unfold eqL
  simp only [decide_eq_true_eq]
  apply List.ext_getElem hl
  intro i h1 h2
  have := h i (by omega)
  rwa [ig_lt h1, ig_lt h2] at this
theorem eqL_ne {xs ys : List Int} {k : Nat} (h : ig xs k ≠ ig ys k) : eqL xs ys = false := by
  unfold eqL; simp only [decide_eq_false_iff_not]; rintro rfl; exact h rfl
theorem eqL_len {xs ys : List Int} (h : xs.length ≠ ys.length) : eqL xs ys = false := by
  unfold eqL; simp only [decide_eq_false_iff_not]; rintro rfl; exact h rfl

set_option maxHeartbeats 1000000 in
theorem eqInt64S_any (A B : Option Addr) (n m c d : Nat) (xs ys : List Int) (w : World) (h : Ints w A n c xs) (g : Ints w B m d ys) :
    Calls Try.prog 21 #[.slice A n c, .slice B m d] w fun e w' => e = .returned (.bool (eqL xs ys)) ∧ ∃ q, w' = w.drewN q := by
  have hle := h.le
  have hcap := h.cap
  have hlen := Lib.hid h.len
  have glen := Lib.hid g.len
  by_cases hnm : n = m
  · subst hnm
    go_enter Try.func21, Try.ntmps21
    go_wp2
    go_loopw [5] (fun i wr => ∃ k : Nat, k ≤ n ∧ i = .int .i64 k ∧ Hid (∀ j, j < k → ig xs j = ig ys j) ∧ ∃ q, wr = w.drewN q) (fun i _ => n - (intOf i).toNat)
    case atStart => exact ⟨0, by omega, rfl, Lib.hid (fun j hj => absurd hj (by omega)), 0, rfl⟩
    case round =>
      obtain ⟨k, hk, rfl, hq, q, rfl⟩ := hrel
      by_cases hlt : k < n
      · obtain ⟨b, off, rfl, hbl, hc⟩ := h.cells (by omega)
        obtain ⟨b', off', rfl, hbl', hc'⟩ := g.cells (by omega)
        have hck := hc k hlt
        have hck' := hc' k hlt
        clear hc hc'
        go_wp2
        go_quiet (fail)
        go_wp2
        · go_ret
          exact ⟨ret_bool (eqL_ne (k := k) (by simpa using ‹(ig xs k != ig ys k) = true›)).symm, _, World.drewN_drewN _ _ _⟩
        · go_roundw
          case rel => exact ⟨k + 1, by omega, by go_num, Lib.hid (fun j hj => by
            rcases Nat.lt_or_ge j k with h' | h'
            · exact hq.out j h'
            · have : j = k := by omega
              subst this; simpa using ‹(ig xs j != ig ys j) = false›), _, rfl⟩
          case measure => simp [intOf]; omega
      · go_wp2
        go_ret
        exact ⟨ret_bool (eqL_of (by rw [hlen.out, glen.out]) (by rw [hlen.out]; omega) hq.out).symm, _, rfl⟩
  · have hne : ((n : Int) != (m : Int)) = true := by simp; omega
    go_enter Try.func21, Try.ntmps21
    go_wp2
    go_ret
    exact ⟨ret_bool (eqL_len (by rw [hlen.out, glen.out]; exact hnm)).symm, 0, rfl⟩

set_option maxHeartbeats 1000000 in
theorem likeInts_any (A B : Option Addr) (n m c d : Nat) (xs ys : List Int) (w : World) (h : Ints w A n c xs) (g : Ints w B m d ys) :
    Calls Try.prog 51 #[.slice A n c, .slice B m d] w fun e w' => e = .returned (.bool (eqL xs ys)) ∧ ∃ q, w' = w.drewN q := by
  have hle := h.le
  have hcap := h.cap
  have hlen := Lib.hid h.len
  have glen := Lib.hid g.len
  by_cases hnm : n = m
  · subst hnm
    go_enter Try.func51, Try.ntmps51
    go_wp2
    go_loopw [5] (fun i wr => ∃ k : Nat, k ≤ n ∧ i = .int .i64 k ∧ Hid (∀ j, j < k → ig xs j = ig ys j) ∧ ∃ q, wr = w.drewN q) (fun i _ => n - (intOf i).toNat)
    case atStart => exact ⟨0, by omega, rfl, Lib.hid (fun j hj => absurd hj (by omega)), 0, rfl⟩
    case round =>
      obtain ⟨k, hk, rfl, hq, q, rfl⟩ := hrel
      by_cases hlt : k < n
      · obtain ⟨b, off, rfl, hbl, hc⟩ := h.cells (by omega)
        obtain ⟨b', off', rfl, hbl', hc'⟩ := g.cells (by omega)
        have hck := hc k hlt
        have hck' := hc' k hlt
        clear hc hc'
        go_wp2
        go_quiet (fail)
        go_wp2
        · go_ret
          exact ⟨ret_bool (eqL_ne (k := k) (by simpa using ‹(ig xs k != ig ys k) = true›)).symm, _, World.drewN_drewN _ _ _⟩
        · go_roundw
          case rel => exact ⟨k + 1, by omega, by go_num, Lib.hid (fun j hj => by
            rcases Nat.lt_or_ge j k with h' | h'
            · exact hq.out j h'
            · have : j = k := by omega
              subst this; simpa using ‹(ig xs j != ig ys j) = false›), _, rfl⟩
          case measure => simp [intOf]; omega
      · go_wp2
        go_ret
        exact ⟨ret_bool (eqL_of (by rw [hlen.out, glen.out]) (by rw [hlen.out]; omega) hq.out).symm, _, rfl⟩
  · have hne : ((n : Int) != (m : Int)) = true := by simp; omega
    go_enter Try.func51, Try.ntmps51
    go_wp2
    go_ret
    exact ⟨ret_bool (eqL_len (by rw [hlen.out, glen.out]; exact hnm)).symm, 0, rfl⟩

end Go.Proofs.Ytahmhmicegjdkaa
