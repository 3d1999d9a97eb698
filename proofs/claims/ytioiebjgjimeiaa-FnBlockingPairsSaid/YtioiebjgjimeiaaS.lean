/- walks: roots, flows through resistances -/
import Derived.Test.YtioiebjgjimeiaaMark
import Derived.Test.YtioiebjgjimeiaaFloat
import Derived.Laws.Externs
import Derived.Laws.FloatArith
namespace Go.Proofs.Ytioiebjgjimeiaa
open Go.RowKit

theorem run_sqrt (x r : Nat) (h : FloatKind.f64.format.sqrt x = some r) (w : World) :
    (callFunc 199 #[.float .f64 x]).run Try.prog w = .ok (.value (.float .f64 r)) w := by
  rw [run_callFunc_extern (e := Extern.MathSqrt.sqrt) Try.func199 (by kernel_rfl) (by kernel_rfl) (by kernel_rfl) (by kernel_rfl)]
  change (Sem.run Try.prog (match FloatKind.f64.format.sqrt x with | some r => (pure (.float .f64 r) : Sem Value) | none => do pure (.float .f64 (← choose (.nanBits .f64 x x)))) w).andThen _ = _
  rw [h]
  rfl

set_option maxHeartbeats 400000 in
theorem Sqrt_any (x r : Nat) (w : World) (h : FloatKind.f64.format.sqrt x = some r) :
    Calls Try.prog 192 #[.float .f64 x] w fun e w' => e = .returned (.float .f64 r) ∧ w = w' := by
  have hr := run_sqrt x r h
  go_enter Try.func192, Try.ntmps192
  go_wp2
  go_ret
  exact ⟨rfl, rfl⟩

set_option maxHeartbeats 1000000 in
theorem rootOf_any (n : Int) (w : World) (h0 : 0 ≤ n) (h1 : n ≤ 1000000000000000000) :
    Calls Try.prog 162 #[.int .i64 n] w fun e w' => e = .returned (.int .i64 (rt n)) ∧ w = w' := by
  obtain ⟨x, m, hx, hm, hm0, hm1⟩ := float_root n h0 h1
  have hfi : floatToIntVal .f64 x .i64 = some m := by
    unfold floatToIntVal
    rw [hm]
    show (if _ then _ else _) = _
    rw [if_pos ⟨by simp [IntKind.min, IntKind.signed, IntKind.bits]; omega, by simp [IntKind.max, IntKind.signed, IntKind.bits]; omega⟩]
  have hcv := fun w => run_convert_float_int (P := Try.prog) w 148 2 .f64 .i64 x m (by kernel_rfl) Try.underlying2 hfi
  go_enter Try.func162, Try.ntmps162
  go_wp2_with (go_at_call 192; refine (Sqrt_any _ x _ (by exact hx)).mono ?_; rintro e w' ⟨rfl, rfl⟩)
  clear hcv hfi hm hx
  go_loop [3] (fun r => ∃ a : Int, 0 ≤ a ∧ a ≤ 2147483648 ∧ r = .int .i64 a) (fun r => (intOf r).toNat)
  case atStart => exact ⟨m, hm0, hm1, rfl⟩
  case round =>
    obtain ⟨a, ha, hb, rfl⟩ := hrel
    have q0 := Int.mul_nonneg ha ha
    have q1 := sq_le_sq ha hb
    by_cases hlt : n < a * a
    · have ha1 : 1 ≤ a := by
        rcases Int.lt_or_le 0 a with h | h
        · omega
        · have : a = 0 := by omega
          subst this; omega
      go_wp2
      go_round
      case rel => exact ⟨a - 1, by omega, by omega, rfl⟩
      case measure => simp [intOf]; omega
    · have hle : a * a ≤ n := by omega
      clear hlt
      go_wp2
      go_loop [3] (fun r => ∃ a : Int, 0 ≤ a ∧ a ≤ 2147483648 ∧ a * a ≤ n ∧ r = .int .i64 a) (fun r => (2147483648 - intOf r).toNat)
      case atStart => exact ⟨a, ha, hb, hle, rfl⟩
      case round =>
        clear hle q0 q1 hb ha
        obtain ⟨a, ha, hb, hle, rfl⟩ := hrel
        have q0 := Int.mul_nonneg (a := a + 1) (b := a + 1) (by omega) (by omega)
        have q1 := sq_le_sq (a := a + 1) (b := 2147483649) (by omega) (by omega)
        by_cases hlt : (a + 1) * (a + 1) ≤ n
        · have ha1 : a + 1 ≤ 1000000000 := by
            rcases Int.lt_or_le 1000000000 (a + 1) with h | h
            · have := sq_le_sq (a := 1000000001) (b := a + 1) (by omega) (by omega)
              omega
            · exact h
          go_wp2
          go_round
          case rel => exact ⟨a + 1, by omega, by omega, hlt, rfl⟩
          case measure => simp [intOf]; omega
        · go_wp2
          go_ret
          exact ⟨ret_int (rt_unique ha hle (by omega)), rfl⟩

/-- what FlowFor gives -/
def flowFor (k d : Int) : Int × Int := if inB k 1 1000 && inB d 0 1000000000000000000 then (rt (d / k), 0) else (0, 2)
theorem flowFor_no1 {k d : Int} (h : inB k 1 1000 = false) : flowFor k d = (0, 2) := by unfold flowFor; rw [h]; rfl
theorem flowFor_no2 {k d : Int} (h : inB d 0 1000000000000000000 = false) : flowFor k d = (0, 2) := by unfold flowFor; rw [h, Bool.and_false]; rfl
theorem flowFor_yes {k d : Int} (h1 : inB k 1 1000 = true) (h : inB d 0 1000000000000000000 = true) : flowFor k d = (rt (d / k), 0) := by unfold flowFor; rw [h1, h]; rfl
theorem inB_iff {n lo hi : Int} : inB n lo hi = true ↔ lo ≤ n ∧ n ≤ hi := by simp [inB]

/-- what RootOf gives -/
def rootP (d : Int) : Int × Int := if inB d 0 1000000000000000000 then (rt d, 0) else (0, 2)
theorem rootP_no {d : Int} (h : inB d 0 1000000000000000000 = false) : rootP d = (0, 2) := by unfold rootP; rw [h]; rfl
theorem rootP_yes {d : Int} (h : inB d 0 1000000000000000000 = true) : rootP d = (rt d, 0) := by unfold rootP; rw [h]; rfl

set_option maxHeartbeats 1000000 in
theorem implRootOf_any (d : Int) (w : World) :
    Calls Try.prog 98 #[.int .i64 d] w fun e w' => e = .returned (.tuple #[.int .i64 (rootP d).1, .int .i64 (rootP d).2]) ∧ w = w' := by
  rcases h2 : inB d 0 1000000000000000000 with _ | _
  · go_enter Try.func98, Try.ntmps98
    go_wp2_with (go_at_call 136; refine (within_any _ _ _ _).mono ?_; rintro e w' ⟨rfl, rfl⟩)
    go_ret2
    exact ⟨by rw [rootP_no h2]; rfl, rfl⟩
  · obtain ⟨g3, g4⟩ := inB_iff.1 h2
    go_enter Try.func98, Try.ntmps98
    go_wp2_with (first | (go_at_call 136; refine (within_any _ _ _ _).mono ?_; rintro e w' ⟨rfl, rfl⟩) | (go_at_call 162; refine (rootOf_any _ _ (by omega) (by omega)).mono ?_; rintro e w' ⟨rfl, rfl⟩))
    go_ret2
    exact ⟨by rw [rootP_yes h2]; rfl, rfl⟩

set_option maxHeartbeats 1000000 in
theorem implPressure_any (d : Int) (w : World) :
    Calls Try.prog 36 #[.int .i64 d] w fun e w' => e = .returned (.tuple #[.int .i64 (rootP d).1, .int .i64 (rootP d).2]) ∧ w = w' := by
  go_enter Try.func36, Try.ntmps36
  go_wp2_with (go_at_call 98; refine (implRootOf_any _ _).mono ?_; rintro e w' ⟨rfl, rfl⟩)
  go_ret2
  exact ⟨rfl, rfl⟩

end Go.Proofs.Ytioiebjgjimeiaa
