/- walks: parallel resistances; the least drop -/
import Derived.Test.YtlinofehnpmbgaaS
namespace Go.Proofs.Ytlinofehnpmbgaa
open Go.RowKit

/-- the flows that a drop drives -/
def drv (zs : List Int) (d : Int) : List Int := zs.map (fun k => rt (d / k))
def par (zs : List Int) (d : Int) : Int := sumW (drv zs d)
theorem drv_len (zs : List Int) (d : Int) : (drv zs d).length = zs.length := by simp [drv]
theorem drv_ig {zs : List Int} {d : Int} {j : Nat} (h : j < zs.length) : ig (drv zs d) j = rt (d / ig zs j) := by
  rw [ig_lt (by rw [drv_len]; exact h), ig_lt h]; simp [drv]

/-- all elements are resistances -/
def Res (zs : List Int) : Prop := ∀ z ∈ zs, 1 ≤ z ∧ z ≤ 1000
theorem Res.at_ {zs : List Int} (h : Res zs) {j : Nat} (hj : j < zs.length) : 1 ≤ ig zs j ∧ ig zs j ≤ 1000 := by
  rw [ig_lt hj]; exact h _ (List.getElem_mem hj)
theorem res_of {zs : List Int} (h : allB zs 1 1000 = true) : Res zs := by
  intro z hz
  unfold allB at h
  rw [List.all_eq_true] at h
  exact inB_iff.1 (h z hz)

theorem root_bound {d k : Int} (h0 : 0 ≤ d) (h1 : d ≤ 1000000000000000000) (hk : 1 ≤ k) : 0 ≤ rt (d / k) ∧ rt (d / k) ≤ 1000000000 := by
  have q0 : 0 ≤ d / k := Int.ediv_nonneg h0 (by omega)
  have q1 : d / k ≤ d := Int.ediv_le_self _ h0
  exact ⟨rt_nonneg _, rt_le_of q0 (by omega) (by omega)⟩

theorem drv_i64 {zs : List Int} {d : Int} (h0 : 0 ≤ d) (h1 : d ≤ 1000000000000000000) (hr : Res zs) : ∀ z ∈ drv zs d, I64 z := by
  intro z hz
  unfold drv at hz
  obtain ⟨k, hk, rfl⟩ := List.mem_map.1 hz
  have := root_bound h0 h1 (hr k hk).1
  exact ⟨by omega, by omega⟩

set_option maxHeartbeats 1000000 in
theorem l09Parallel_any (A : Option Addr) (n c : Nat) (zs : List Int) (d : Int) (w : World) (h : Ints w A n c zs) (hr : Res zs) (h0 : 0 ≤ d) (h1 : d ≤ 1000000000000000000) :
    Calls Try.prog 72 #[.slice A n c, .int .i64 d] w fun e w' => e = .returned (.int .i64 (par zs d)) ∧ w = w' := by
  have hle := h.le
  have hcap := h.cap
  have hlen := Lib.hid h.len
  go_enter Try.func72, Try.ntmps72
  go_wp2
  go_loop [5, 6] (fun s i => ∃ k : Nat, k ≤ n ∧ i = .int .i64 k ∧ s = .int .i64 (sumW ((drv zs d).take k))) (fun _ i => n - (intOf i).toNat)
  case atStart => exact ⟨0, by omega, rfl, rfl⟩
  case round =>
    obtain ⟨k, hk, rfl, rfl⟩ := hrel
    by_cases hlt : k < n
    · obtain ⟨b, off, rfl, hb, hc⟩ := h.cells (by omega)
      have hck := hc k hlt
      have hkl : k < zs.length := by rw [hlen.out]; exact hlt
      have hrk := hr.at_ hkl
      obtain ⟨r1, r2⟩ := hrk
      have HS := Lib.hid (sumW_snoc (zs := drv zs d) (k := k) (by rw [drv_len]; exact hkl))
      have HD := Lib.hid (drv_ig (d := d) hkl)
      clear hc hkl
      go_wp2_with (go_at_call 58; refine (l09Flow_any _ _ _ (by omega) (by omega) (by omega)).mono ?_; rintro e w' ⟨rfl, rfl⟩)
      go_round
      case rel => exact ⟨k + 1, by omega, by go_num, by rw [HS.out, HD.out]⟩
      case measure => simp [intOf]; omega
    · go_wp2_with fail
      go_ret
      exact ⟨ret_int (by rw [par, List.take_of_length_le (by rw [drv_len, hlen.out]; omega)]), rfl⟩

theorem set_prefix' {zs : List Int} {k n : Nat} (hn : zs.length = n) (h : k < n) : (zs.take k ++ List.replicate (n - k) 0).set k (ig zs k) = zs.take (k + 1) ++ List.replicate (n - (k + 1)) 0 := set_prefix hn h

set_option maxHeartbeats 1000000 in
theorem drivenFlows_any (A : Option Addr) (n c : Nat) (zs : List Int) (d : Int) (w : World) (h : Ints w A n c zs) (hn : n ≤ 1000000) (hr : Res zs) (h0 : 0 ≤ d) (h1 : d ≤ 1000000000000000000) :
    Calls Try.prog 59 #[.slice A n c, .int .i64 d] w fun e w' => ∃ A' c', e = .returned (.slice A' n c') ∧ Own w' A' n c' (drv zs d) ∧ Fresh w.heap.size A' ∧ Below w.heap.size w w' := by
  have hlen := Lib.hid h.len
  have hdl := Lib.hid (drv_len zs d)
  go_enter Try.func59, Try.ntmps59
  go_wp2_with (at_make; refine law_make _ rfl _ _ rfl n _ _ rfl rfl rfl rfl (by omega) ?_; intro w1 ho1 hb1 hs1)
  go_loopw [13] (fun i wr => ∃ k : Nat, k ≤ n ∧ i = .int .i64 k ∧ Own wr (some ⟨w.heap.size, 0, none⟩) n n ((drv zs d).take k ++ List.replicate (n - k) 0) ∧ Below w.heap.size w wr) (fun i _ => n - (intOf i).toNat)
  case atStart => exact ⟨0, by omega, rfl, by simpa using ho1, hb1⟩
  case round =>
    obtain ⟨k, hk, rfl, ho, hb⟩ := hrel
    by_cases hlt : k < n
    · obtain ⟨b, off, rfl, hbl, hc⟩ := (h.later hb).cells (by omega)
      have hck := hc k hlt
      have hold := ho.cell hlt
      have hfr := ho.unfrozen k
      have hkl : k < zs.length := by rw [hlen.out]; exact hlt
      obtain ⟨r1, r2⟩ := hr.at_ hkl
      have hi := i64_ig (drv_i64 h0 h1 hr) k
      have q0 : 0 ≤ d / ig zs k := Int.ediv_nonneg h0 (by omega)
      have q1 : d / ig zs k ≤ d := Int.ediv_le_self _ h0
      have hst := ho.store k hi
      rw [set_prefix (by rw [hdl.out, hlen.out]) hlt, drv_ig hkl] at hst
      have HST := Lib.hid hst
      clear hc hst hkl hi
      go_wp2_with (go_at_call 67; refine (rootOf_any _ _ (by omega) (by omega)).mono ?_; rintro e w' ⟨rfl, rfl⟩)
      go_roundw
      case rel => exact ⟨k + 1, by omega, by go_num, HST.out, hb.setCell (Nat.le_refl _) _⟩
      case measure => simp [intOf]; omega
    · go_wp2_with fail
      go_ret
      have hkn : k = n := by omega
      subst hkn
      refine ⟨_, _, rfl, ?_, fun a ha => ?_, hb⟩
      · have := ho; rw [List.take_of_length_le (by rw [hdl.out, hlen.out]; omega), Nat.sub_self] at this; simpa using this
      · injection ha with ha; subst ha; exact Nat.le_refl _

end Go.Proofs.Ytlinofehnpmbgaa
