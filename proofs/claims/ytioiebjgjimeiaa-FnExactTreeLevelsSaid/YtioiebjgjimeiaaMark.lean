/- marks: markInt64S, heldInt64S; quiet calls -/
import Derived.Test.YtioiebjgjimeiaaB
namespace Go.Proofs.Ytioiebjgjimeiaa
open Go.RowKit

theorem quiet_left {P : Program} {f : FuncId} {args : Array Value} {w : World} {n : Nat} {v : Value}
    (h : Calls P f args (w.drewN n) fun e w' => e = .returned v ∧ w.drewN n = w') : Calls P f args (w.drewN n) fun e w'' => e = .returned v ∧ ∃ m, w'' = w.drewN m :=
  h.mono fun _ _ ⟨he, hm⟩ => ⟨he, n, hm.symm⟩
theorem quiet_add_left {P : Program} {f : FuncId} {args : Array Value} {w : World} {a n : Nat} {v : Value}
    (h : Calls P f args (w.drewN (a + n)) fun e w' => e = .returned v ∧ w.drewN (a + n) = w') :
    Calls P f args (w.drewN (a + n)) fun e w'' => e = .returned v ∧ ∃ m, w'' = w.drewN (a + m) :=
  h.mono fun _ _ ⟨he, hm⟩ => ⟨he, n, hm.symm⟩

theorem fresh_row {A : Option Addr} {B : Nat} (h : Fresh B A) : ∀ i, A.map (·.block) = some i → B ≤ i := by
  intro i hi
  cases A with
  | none => simp at hi
  | some a => simp at hi; subst hi; exact h a rfl

theorem fresh_up {B B' : Nat} {A : Option Addr} (h : Fresh B A) (hb : B' ≤ B) : Fresh B' A := fun a ha => Nat.le_trans hb (h a ha)

/-- the numbers k, k + 1, .. -/
def markI (k : Int) (n : Nat) : List Int := (List.range n).map (fun i : Nat => k + (i : Int))
theorem markI_len (k : Int) (n : Nat) : (markI k n).length = n := by simp [markI]
theorem markI_ig {k : Int} {n j : Nat} (h : j < n) : ig (markI k n) j = k + j := by
  rw [ig_lt (by rw [markI_len]; exact h)]; simp [markI]

theorem set_marks {zs : List Int} {k : Int} {n j : Nat} (hn : zs.length = n) (h : j < n) : ((markI k n).take j ++ zs.drop j).set j (k + j) = (markI k n).take (j + 1) ++ zs.drop (j + 1) := by
  have hk : ((markI k n).take j).length = j := by rw [List.length_take, markI_len]; omega
  rw [List.set_append_right j _ (by omega), hk, Nat.sub_self, List.drop_eq_getElem_cons (by omega), List.set_cons_zero, take_snoc_ig (by rw [markI_len]; exact h), markI_ig h]
  simp

set_option maxHeartbeats 1000000 in
theorem markInt64S_any (A : Option Addr) (n c : Nat) (zs : List Int) (k : Int) (w : World) (h : Own w A n c zs) (hk0 : 0 ≤ k) (hk1 : k ≤ 1000000000000) (hn : n ≤ 1000000000) :
    Calls Try.prog 45 #[.slice A n c, .int .i64 k] w fun e w' => e = .returned (.int .i64 (k + n)) ∧ Own w' A n c (markI k n) ∧ w.grownBy w' (A.map (·.block)) := by
  have hlen := Lib.hid h.len
  go_enter Try.func45, Try.ntmps45
  go_wp2_with fail
  go_loopw [1, 5] (fun q i wr => ∃ j : Nat, j ≤ n ∧ q = .int .i64 (k + j) ∧ i = .int .i64 j ∧ Own wr A n c ((markI k n).take j ++ zs.drop j) ∧ w.grownBy wr (A.map (·.block))) (fun _ i _ => n - (intOf i).toNat)
  case atStart => exact ⟨0, by omega, by go_num, rfl, by simpa using h, World.grownBy.refl _ _⟩
  case round =>
    obtain ⟨j, hj, rfl, rfl, ho, hg⟩ := hrel
    by_cases hlt : j < n
    · obtain ⟨G, rfl, hG⟩ := ho.pos (by omega)
      have hold := ho.cell hlt
      have hfr := ho.unfrozen j
      have hst := ho.store j (z := k + j) ⟨by omega, by omega⟩
      rw [set_marks hlen.out hlt] at hst
      have HST := Lib.hid hst
      have hg' : w.grownBy (wr.setCell ⟨G, j, none⟩ (.int .i64 (k + j))) (some G) :=
        ⟨hg.os, hg.tape, hg.output, by simpa [World.setCell] using hg.size, fun i hi hne => (Below.heap_setCell wr ⟨G, j, none⟩ _ i (fun e => hne (by rw [e]))).trans (hg.block i hi hne)⟩
      have HG := Lib.hid hg'
      clear hst hg'
      go_wp2_with fail
      go_roundw
      case rel => exact ⟨j + 1, by omega, by go_num, by go_num, HST.out, HG.out⟩
      case measure => simp [intOf]; omega
    · go_wp2_with fail
      go_ret
      have hjn : j = n := by omega
      subst hjn
      refine ⟨rfl, ?_, hg⟩
      have := ho
      rw [List.take_of_length_le (by rw [markI_len]; omega), List.drop_of_length_le (by rw [hlen.out]; omega), List.append_nil] at this
      exact this

set_option maxHeartbeats 1000000 in
theorem heldInt64S_any (A : Option Addr) (n c : Nat) (k : Int) (w : World) (h : Ints w A n c (markI k n)) (hk0 : 0 ≤ k) (hk1 : k ≤ 1000000000000) (hn : n ≤ 1000000000) :
    Calls Try.prog 46 #[.slice A n c, .int .i64 k] w fun e w' => e = .returned (.int .i64 (k + n)) ∧ w = w' := by
  go_enter Try.func46, Try.ntmps46
  go_wp2_with fail
  go_loop [1, 5] (fun q i => ∃ j : Nat, j ≤ n ∧ q = .int .i64 (k + j) ∧ i = .int .i64 j) (fun _ i => n - (intOf i).toNat)
  case atStart => exact ⟨0, by omega, by go_num, rfl⟩
  case round =>
    obtain ⟨j, hj, rfl, rfl⟩ := hrel
    by_cases hlt : j < n
    · obtain ⟨b, off, rfl, hb, hc⟩ := h.cells (by omega)
      have hck := hc j hlt
      rw [markI_ig hlt] at hck
      clear hc
      go_wp2_with fail
      go_round
      case rel => exact ⟨j + 1, by omega, by go_num, by go_num⟩
      case measure => simp [intOf]; omega
    · have hjn : j = n := by omega
      subst hjn
      go_wp2_with fail
      go_ret
      exact ⟨rfl, rfl⟩

end Go.Proofs.Ytioiebjgjimeiaa
