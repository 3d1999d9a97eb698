/- ParallelFlow, the least drop, DropFor -/
import Derived.Test.YtlinofehnpmbgaaD
namespace Go.Proofs.Ytlinofehnpmbgaa
open Go.RowKit

def parR (zs : List Int) (d : Int) : Int × Int := if codeR zs = 0 then (if inB d 0 1000000000000000000 then (par zs d, 0) else (0, 2)) else (0, codeR zs)
theorem parR_bad {zs : List Int} {d : Int} (h : codeR zs ≠ 0) : parR zs d = (0, codeR zs) := by unfold parR; rw [if_neg h]
theorem parR_out {zs : List Int} {d : Int} (h : codeR zs = 0) (h2 : inB d 0 1000000000000000000 = false) : parR zs d = (0, 2) := by unfold parR; rw [if_pos h, h2]; rfl
theorem parR_ok {zs : List Int} {d : Int} (h : codeR zs = 0) (h2 : inB d 0 1000000000000000000 = true) : parR zs d = (par zs d, 0) := by unfold parR; rw [if_pos h, h2]; rfl

theorem codeR_ok {zs : List Int} (h : codeR zs = 0) : 1 ≤ zs.length ∧ zs.length ≤ 8 ∧ Res zs := by
  unfold codeR at h
  split at h
  · rename_i h1
    split at h
    · rename_i h2
      have := inB_iff.1 h1
      exact ⟨by omega, by omega, res_of h2⟩
    · omega
  · omega

set_option maxHeartbeats 1000000 in
theorem specParallel_any (A : Option Addr) (n c : Nat) (zs : List Int) (d : Int) (w : World) (h : Ints w A n c zs) :
    Calls Try.prog 30 #[.slice A n c, .int .i64 d] w fun e w' => e = .returned (.tuple #[.int .i64 (parR zs d).1, .int .i64 (parR zs d).2]) ∧ w = w' := by
  by_cases hz : codeR zs = 0
  · have hb : (codeR zs == 0) = true := by simp [hz]
    have hb' : (codeR zs != 0) = false := by simp [hz]
    obtain ⟨_, _, hr⟩ := codeR_ok hz
    have hr' := Lib.hid hr
    have hz' := Lib.hid hz
    clear hz hr
    rcases h2 : inB d 0 1000000000000000000 with _ | _
    · go_enter Try.func30, Try.ntmps30
      go_wp2_with (first | (go_at_call 70; refine (l09Code_any _ _ _ _ _ h).mono ?_; rintro e w' ⟨rfl, rfl⟩) | (go_at_call 66; refine (l01In_any _ _ _ _).mono ?_; rintro e w' ⟨rfl, rfl⟩))
      go_ret2
      exact ⟨by rw [parR_out hz'.out h2]; rfl, rfl⟩
    · obtain ⟨g3, g4⟩ := inB_iff.1 h2
      go_enter Try.func30, Try.ntmps30
      go_wp2_with (first | (go_at_call 70; refine (l09Code_any _ _ _ _ _ h).mono ?_; rintro e w' ⟨rfl, rfl⟩) | (go_at_call 66; refine (l01In_any _ _ _ _).mono ?_; rintro e w' ⟨rfl, rfl⟩) | (go_at_call 72; refine (l09Parallel_any _ _ _ _ _ _ h hr'.out g3 g4).mono ?_; rintro e w' ⟨rfl, rfl⟩))
      go_ret2
      exact ⟨by rw [parR_ok hz'.out h2]; rfl, rfl⟩
  · have hb : (codeR zs == 0) = false := by simp [hz]
    have hb' : (codeR zs != 0) = true := by simp [hz]
    go_enter Try.func30, Try.ntmps30
    go_wp2_with (go_at_call 70; refine (l09Code_any _ _ _ _ _ h).mono ?_; rintro e w' ⟨rfl, rfl⟩)
    go_ret2
    exact ⟨by rw [parR_bad hz]; rfl, rfl⟩

set_option maxHeartbeats 1000000 in
theorem implParallel_any (A : Option Addr) (n c : Nat) (zs : List Int) (d : Int) (w : World) (h : Ints w A n c zs) :
    Calls Try.prog 29 #[.slice A n c, .int .i64 d] w fun e w' => e = .returned (.tuple #[.int .i64 (parR zs d).1, .int .i64 (parR zs d).2]) ∧ Below w.heap.size w w' := by
  by_cases hz : codeR zs = 0
  · have hb' : (codeR zs != 0) = false := by simp [hz]
    obtain ⟨_, hl8, hr⟩ := codeR_ok hz
    have hn : n ≤ 8 := by have := h.len; omega
    have hr' := Lib.hid hr
    have hz' := Lib.hid hz
    clear hz hr hl8
    rcases h2 : inB d 0 1000000000000000000 with _ | _
    · go_enter Try.func29, Try.ntmps29
      go_wp2_with (first | (go_at_call 69; refine (checkResistances_any _ _ _ _ _ h).mono ?_; rintro e w' ⟨rfl, rfl⟩) | (go_at_call 65; refine (within_any _ _ _ _).mono ?_; rintro e w' ⟨rfl, rfl⟩))
      go_ret2
      exact ⟨by rw [parR_out hz'.out h2]; rfl, Below.refl _ _⟩
    · obtain ⟨g3, g4⟩ := inB_iff.1 h2
      go_enter Try.func29, Try.ntmps29
      go_wp2_with (first | (go_at_call 69; refine (checkResistances_any _ _ _ _ _ h).mono ?_; rintro e w' ⟨rfl, rfl⟩) | (go_at_call 65; refine (within_any _ _ _ _).mono ?_; rintro e w' ⟨rfl, rfl⟩) | (go_at_call 59; refine (drivenFlows_any _ _ _ _ _ _ h (by omega) hr'.out g3 g4).mono ?_; rintro e w1 ⟨A1, c1, rfl, o1, f1, b1⟩) | (go_at_call 60; refine (sumOf_any _ _ _ _ _ o1.ints).mono ?_; rintro e w' ⟨rfl, rfl⟩))
      go_ret2
      exact ⟨by rw [parR_ok hz'.out h2]; rfl, b1⟩
  · have hb' : (codeR zs != 0) = true := by simp [hz]
    go_enter Try.func29, Try.ntmps29
    go_wp2_with (go_at_call 69; refine (checkResistances_any _ _ _ _ _ h).mono ?_; rintro e w' ⟨rfl, rfl⟩)
    go_ret2
    exact ⟨by rw [parR_bad hz]; rfl, Below.refl _ _⟩

/-! ### plain: sums without wrap; monotony; the least drop -/
theorem wrap64_id {n : Int} (h : I64 n) : wrap64 n = n := IntWalk.wrap64_in n ⟨h.1, h.2⟩

def sum0 (zs : List Int) : Int := zs.foldl (· + ·) 0
theorem foldl_add (zs : List Int) (a : Int) : zs.foldl (· + ·) a = a + zs.foldl (· + ·) 0 := by
  induction zs generalizing a with
  | nil => simp
  | cons z zs ih => simp only [List.foldl_cons]; rw [ih (a + z), ih (0 + z)]; omega
theorem sum0_nil : sum0 [] = 0 := rfl
theorem sum0_cons (z : Int) (zs : List Int) : sum0 (z :: zs) = z + sum0 zs := by
  unfold sum0; rw [List.foldl_cons, foldl_add]; omega
theorem sum0_append (xs ys : List Int) : sum0 (xs ++ ys) = sum0 xs + sum0 ys := by
  unfold sum0; rw [List.foldl_append, foldl_add]

/-- sums of numbers of at most B without sign, K of them -/
theorem sumW_go {zs : List Int} {B : Int} (hB : 0 ≤ B) (h : ∀ z ∈ zs, -B ≤ z ∧ z ≤ B) (a : Int) (ha : -9000000000000000000 ≤ a - zs.length * B) (hb : a + zs.length * B ≤ 9000000000000000000) :
    zs.foldl (fun a z => wrap64 (a + z)) a = a + sum0 zs := by
  induction zs generalizing a with
  | nil => simp [sum0]
  | cons z zs ih =>
    have hz := h z (List.mem_cons_self ..)
    have hl : ((z :: zs).length : Int) * B = zs.length * B + B := by rw [List.length_cons]; push_cast; rw [Int.add_mul]; omega
    have hp : 0 ≤ (zs.length : Int) * B := Int.mul_nonneg (by omega) hB
    rw [hl] at ha hb
    rw [List.foldl_cons, wrap64_id ⟨by omega, by omega⟩, ih (fun z hz => h z (List.mem_cons_of_mem _ hz)) (a + z) (by omega) (by omega), sum0_cons]
    omega
theorem sumW_eq {zs : List Int} {B : Int} (hB : 0 ≤ B) (h : ∀ z ∈ zs, -B ≤ z ∧ z ≤ B) (hb : zs.length * B ≤ 9000000000000000000) : sumW zs = sum0 zs := by
  unfold sumW; rw [sumW_go hB h 0 (by omega) (by omega)]; omega

theorem par_eq {zs : List Int} {d : Int} (hr : Res zs) (hn : zs.length ≤ 8) (h0 : 0 ≤ d) (h1 : d ≤ 1000000000000000000) : par zs d = sum0 (drv zs d) := by
  refine sumW_eq (B := 1000000000) (by omega) (fun z hz => ?_) (by rw [drv_len]; omega)
  obtain ⟨k, hk, rfl⟩ := List.mem_map.1 (show z ∈ zs.map (fun k => rt (d / k)) from hz)
  have := root_bound h0 h1 (hr k hk).1
  omega

theorem sum0_mono {zs : List Int} {d e : Int} (hr : Res zs) (h0 : 0 ≤ d) (h : d ≤ e) : sum0 (drv zs d) ≤ sum0 (drv zs e) := by
  induction zs with
  | nil => simp [drv, sum0]
  | cons z zs ih =>
    have h1 := (hr z (List.mem_cons_self ..)).1
    have h2 := ih (fun x hx => hr x (List.mem_cons_of_mem _ hx))
    have h3 : rt (d / z) ≤ rt (e / z) := rt_mono (Int.ediv_nonneg h0 (by omega)) (Int.ediv_le_ediv (by omega) h)
    simp only [drv, List.map_cons, sum0_cons] at h2 ⊢
    omega
theorem par_mono {zs : List Int} {d e : Int} (hr : Res zs) (hn : zs.length ≤ 8) (h0 : 0 ≤ d) (h : d ≤ e) (h1 : e ≤ 1000000000000000000) : par zs d ≤ par zs e := by
  rw [par_eq hr hn h0 (by omega), par_eq hr hn (by omega) h1]; exact sum0_mono hr h0 h

theorem sum0_nonneg {zs : List Int} (h : ∀ z ∈ zs, 0 ≤ z) : 0 ≤ sum0 zs := by
  induction zs with
  | nil => simp [sum0]
  | cons z zs ih =>
    rw [sum0_cons]
    have := h z (List.mem_cons_self ..)
    have := ih (fun x hx => h x (List.mem_cons_of_mem _ hx))
    omega
theorem drv_nonneg {zs : List Int} {d : Int} : ∀ z ∈ drv zs d, 0 ≤ z := by
  intro z hz
  obtain ⟨k, _, rfl⟩ := List.mem_map.1 (show z ∈ zs.map (fun k => rt (d / k)) from hz)
  exact rt_nonneg _

/-- the drop k f f of the first resistance k drives the flow f -/
theorem par_first {zs : List Int} {f : Int} (hr : Res zs) (hn : zs.length ≤ 8) (h1 : 1 ≤ zs.length) (hf : 0 ≤ f) (hf2 : f ≤ 30000) : f ≤ par zs (ig zs 0 * f * f) := by
  have hz := hr.at_ (j := 0) (by omega)
  have e1 : 0 ≤ ig zs 0 * f * f := Int.mul_nonneg (Int.mul_nonneg (by omega) hf) hf
  have e2 : ig zs 0 * f * f ≤ 900000000000 := by
    have a := Int.mul_le_mul hz.2 hf2 hf (by omega)
    have b := Int.mul_le_mul a hf2 hf (by omega)
    omega
  rw [par_eq hr hn e1 (by omega)]
  cases zs with
  | nil => simp at h1
  | cons z zs =>
    have : ig (z :: zs) 0 = z := rfl
    rw [this] at hz e1 e2 ⊢
    simp only [drv, List.map_cons, sum0_cons]
    have a : f ≤ rt (z * f * f / z) := by
      rw [Int.mul_assoc, Int.mul_ediv_cancel_left _ (by omega)]
      exact le_rt hf (Int.le_refl _)
    have b := sum0_nonneg (zs := drv zs (z * f * f)) drv_nonneg
    unfold drv at b
    omega

/-- d is the least drop that drives the flow f -/
def Least (zs : List Int) (f d : Int) : Prop := 0 ≤ d ∧ d ≤ ig zs 0 * f * f ∧ f ≤ par zs d ∧ ∀ e, 0 ≤ e → e < d → par zs e < f

theorem Least.unique {zs : List Int} {f d e : Int} (h : Least zs f d) (g : Least zs f e) : d = e := by
  rcases Int.lt_trichotomy d e with h1 | h1 | h1
  · have := g.2.2.2 d h.1 h1; have := h.2.2.1; omega
  · exact h1
  · have := h.2.2.2 e g.1 h1; have := g.2.2.1; omega

theorem least_of {zs : List Int} {f : Int} : ∀ n : Nat, f ≤ par zs n → ∃ d : Int, 0 ≤ d ∧ d ≤ n ∧ f ≤ par zs d ∧ ∀ e, 0 ≤ e → e < d → par zs e < f := by
  intro n
  induction n using Nat.strongRecOn with
  | ind n ih =>
    intro h
    by_cases hex : ∃ m : Nat, m < n ∧ f ≤ par zs m
    · obtain ⟨m, hm, hm'⟩ := hex
      obtain ⟨d, h1, h2, h3, h4⟩ := ih m hm hm'
      exact ⟨d, h1, by omega, h3, h4⟩
    · refine ⟨n, by omega, by omega, h, fun e he hlt => ?_⟩
      obtain ⟨m, rfl⟩ := Int.eq_ofNat_of_zero_le he
      rcases Int.lt_or_le (par zs m) f with h' | h'
      · exact h'
      · exact absurd ⟨m, by omega, h'⟩ hex

theorem least_ex {zs : List Int} {f : Int} (hr : Res zs) (hn : zs.length ≤ 8) (h1 : 1 ≤ zs.length) (hf : 0 ≤ f) (hf2 : f ≤ 30000) : ∃ d, Least zs f d := by
  have e1 : 0 ≤ ig zs 0 * f * f := Int.mul_nonneg (Int.mul_nonneg (by have := hr.at_ (j := 0) (by omega); omega) hf) hf
  obtain ⟨m, hm⟩ := Int.eq_ofNat_of_zero_le e1
  have := par_first hr hn h1 hf hf2
  rw [hm] at this
  obtain ⟨d, a, b, c, e⟩ := least_of m this
  exact ⟨d, a, by rw [hm]; exact b, c, e⟩

theorem Least.bound {zs : List Int} {f d : Int} (h : Least zs f d) (hr : Res zs) (h1 : 1 ≤ zs.length) (hf : 0 ≤ f) (hf2 : f ≤ 30000) : 0 ≤ d ∧ d ≤ 900000000000 := by
  have hz := hr.at_ (j := 0) (by omega)
  have a := Int.mul_le_mul hz.2 hf2 hf (by omega)
  have b := Int.mul_le_mul a hf2 hf (by omega)
  have := h.2.1
  exact ⟨h.1, by omega⟩

theorem Least.up {zs : List Int} {f d m : Int} (h : Least zs f d) (h0 : 0 ≤ m) (hm : f ≤ par zs m) : d ≤ m := by
  rcases Int.lt_or_le m d with h' | h'
  · have := h.2.2.2 m h0 h'; omega
  · exact h'
theorem Least.down {zs : List Int} {f d m : Int} (h : Least zs f d) (hr : Res zs) (hn : zs.length ≤ 8) (h1 : m ≤ 1000000000000000000) (hm : par zs m < f) : m + 1 ≤ d := by
  rcases Int.lt_or_le m d with h' | h'
  · omega
  · have := par_mono hr hn h.1 h' h1
    have := h.2.2.1
    omega

theorem midstep (lo hi : Int) (h : lo < hi) : lo ≤ (lo + hi) / 2 ∧ (lo + hi) / 2 < hi := by omega

set_option maxHeartbeats 1000000 in
theorem l09Drop_any (A : Option Addr) (n c : Nat) (zs : List Int) (f d : Int) (w : World) (h : Ints w A n c zs) (hr : Res zs) (hn : zs.length ≤ 8) (h1 : 1 ≤ zs.length) (hf : 0 ≤ f) (hf2 : f ≤ 30000) (hd : Least zs f d) :
    Calls Try.prog 111 #[.slice A n c, .int .i64 f] w fun e w' => e = .returned (.int .i64 d) ∧ w = w' := by
  obtain ⟨b1, b2⟩ := hd.bound hr h1 hf hf2
  go_enter Try.func111, Try.ntmps111
  go_wp2_with fail
  go_loop [5, 6] (fun lo hi => ∃ a b : Int, 0 ≤ a ∧ a ≤ d ∧ d ≤ b ∧ b ≤ 900000000000 ∧ lo = .int .i64 a ∧ hi = .int .i64 b) (fun lo hi => (intOf hi - intOf lo).toNat)
  case atStart => exact ⟨0, 900000000000, by omega, by omega, by omega, by omega, rfl, rfl⟩
  case round =>
    obtain ⟨a, b, ha, had, hdb, hb, rfl, rfl⟩ := hrel
    by_cases hlt : a < b
    · obtain ⟨m1, m2⟩ := midstep a b hlt
      by_cases hp : f ≤ par zs ((a + b) / 2)
      · have hu := hd.up (by omega) hp
        go_wp2_with (go_at_call 72; refine (l09Parallel_any _ _ _ _ _ _ h hr (by omega) (by omega)).mono ?_; rintro e w' ⟨rfl, rfl⟩)
        go_round
        case rel => exact ⟨a, (a + b) / 2, ha, had, hu, by omega, rfl, rfl⟩
        case measure => simp [intOf]; omega
      · have hu := hd.down hr hn (m := (a + b) / 2) (by omega) (by omega)
        go_wp2_with (go_at_call 72; refine (l09Parallel_any _ _ _ _ _ _ h hr (by omega) (by omega)).mono ?_; rintro e w' ⟨rfl, rfl⟩)
        go_round
        case rel => exact ⟨(a + b) / 2 + 1, b, by omega, hu, hdb, hb, rfl, rfl⟩
        case measure => simp [intOf]; omega
    · go_wp2_with fail
      go_ret
      exact ⟨ret_int (by omega), rfl⟩

set_option maxHeartbeats 2000000 in
theorem dropFor_any (A : Option Addr) (n c : Nat) (zs : List Int) (f d : Int) (w : World) (h : Ints w A n c zs) (hr : Res zs) (hn : zs.length ≤ 8) (h1 : 1 ≤ zs.length) (hf : 0 ≤ f) (hf2 : f ≤ 30000) (hd : Least zs f d) :
    Calls Try.prog 74 #[.slice A n c, .int .i64 f] w fun e w' => e = .returned (.int .i64 d) ∧ Below w.heap.size w w' := by
  obtain ⟨b1, b2⟩ := hd.bound hr h1 hf hf2
  have hz := hr.at_ (j := 0) (by omega)
  obtain ⟨z1, z2⟩ := hz
  have p0 : 0 ≤ ig zs 0 * f := Int.mul_nonneg (by omega) hf
  have p1 := Int.mul_le_mul z2 hf2 hf (by omega)
  have p2 : 0 ≤ ig zs 0 * f * f := Int.mul_nonneg p0 hf
  have p3 := Int.mul_le_mul p1 hf2 hf (by omega)
  have hd2 := hd.2.1
  have hn8 : n ≤ 8 := by have := h.len; omega
  have hn1 : 1 ≤ n := by have := h.len; omega
  have hi0 : 0 < n := by omega
  obtain ⟨b, off, rfl, hb, hc⟩ := h.cells (by omega)
  have hck : w.cell? ⟨b, off, none⟩ = some (.int .i64 (ig zs 0)) := hc 0 (by omega)
  clear hc
  go_enter Try.func74, Try.ntmps74
  go_wp2_with fail
  go_quiet (fail)
  go_wp2_with fail
  go_loopw [5, 6] (fun lo hi wr => ∃ a b : Int, 0 ≤ a ∧ a ≤ d ∧ d ≤ b ∧ b ≤ 900000000000 ∧ lo = .int .i64 a ∧ hi = .int .i64 b ∧ Below w.heap.size w wr) (fun lo hi _ => (intOf hi - intOf lo).toNat)
  case atStart => exact ⟨0, _, by omega, by omega, hd2, by omega, rfl, rfl, below_drew (Below.refl _ _) _⟩
  case round =>
    obtain ⟨a, b, ha, had, hdb, hb, rfl, rfl, hbw⟩ := hrel
    by_cases hlt : a < b
    · obtain ⟨m1, m2⟩ := midstep a b hlt
      by_cases hp : f ≤ par zs ((a + b) / 2)
      · have hu := hd.up (by omega) hp
        have hp' : f ≤ sumW (drv zs ((a + b) / 2)) := hp
        go_wp2_with (first | (go_at_call 59; refine (drivenFlows_any _ _ _ _ _ _ (h.later hbw) (by omega) hr (by omega) (by omega)).mono ?_; rintro e w1 ⟨A1, c1, rfl, o1, f1, b1⟩) | (go_at_call 60; refine (sumOf_any _ _ _ _ _ o1.ints).mono ?_; rintro e w' ⟨rfl, rfl⟩))
        go_roundw
        case rel => exact ⟨a, (a + b) / 2, ha, had, hu, by omega, rfl, rfl, below_step hbw b1⟩
        case measure => simp [intOf]; omega
      · have hu := hd.down hr hn (m := (a + b) / 2) (by omega) (by omega)
        have hp' : sumW (drv zs ((a + b) / 2)) < f := by have : ¬ f ≤ sumW (drv zs ((a + b) / 2)) := hp; omega
        go_wp2_with (first | (go_at_call 59; refine (drivenFlows_any _ _ _ _ _ _ (h.later hbw) (by omega) hr (by omega) (by omega)).mono ?_; rintro e w1 ⟨A1, c1, rfl, o1, f1, b1⟩) | (go_at_call 60; refine (sumOf_any _ _ _ _ _ o1.ints).mono ?_; rintro e w' ⟨rfl, rfl⟩))
        go_roundw
        case rel => exact ⟨(a + b) / 2 + 1, b, by omega, hu, hdb, hb, rfl, rfl, below_step hbw b1⟩
        case measure => simp [intOf]; omega
    · go_wp2_with fail
      go_ret
      exact ⟨ret_int (by omega), hbw⟩

def dropR (zs : List Int) (f d : Int) : Int × Int := if codeR zs = 0 then (if inB f 0 30000 then (d, 0) else (0, 2)) else (0, codeR zs)
theorem dropR_bad {zs : List Int} {f d : Int} (h : codeR zs ≠ 0) : dropR zs f d = (0, codeR zs) := by unfold dropR; rw [if_neg h]
theorem dropR_out {zs : List Int} {f d : Int} (h : codeR zs = 0) (h2 : inB f 0 30000 = false) : dropR zs f d = (0, 2) := by unfold dropR; rw [if_pos h, h2]; rfl
theorem dropR_ok {zs : List Int} {f d : Int} (h : codeR zs = 0) (h2 : inB f 0 30000 = true) : dropR zs f d = (d, 0) := by unfold dropR; rw [if_pos h, h2]; rfl
/-- d is the drop for f, if there is one -/
def IsDrop (zs : List Int) (f d : Int) : Prop := codeR zs = 0 → inB f 0 30000 = true → Least zs f d
theorem isDrop_ex (zs : List Int) (f : Int) : ∃ d, IsDrop zs f d := by
  by_cases h : codeR zs = 0 ∧ inB f 0 30000 = true
  · obtain ⟨a, b, r⟩ := codeR_ok h.1
    obtain ⟨f1, f2⟩ := inB_iff.1 h.2
    obtain ⟨d, hd⟩ := least_ex r b a f1 f2
    exact ⟨d, fun _ _ => hd⟩
  · exact ⟨0, fun h1 h2 => absurd ⟨h1, h2⟩ h⟩

set_option maxHeartbeats 1000000 in
theorem specDropFor_any (A : Option Addr) (n c : Nat) (zs : List Int) (f d : Int) (w : World) (h : Ints w A n c zs) (hd : IsDrop zs f d) :
    Calls Try.prog 57 #[.slice A n c, .int .i64 f] w fun e w' => e = .returned (.tuple #[.int .i64 (dropR zs f d).1, .int .i64 (dropR zs f d).2]) ∧ w = w' := by
  by_cases hz : codeR zs = 0
  · have hb : (codeR zs == 0) = true := by simp [hz]
    have hb' : (codeR zs != 0) = false := by simp [hz]
    obtain ⟨l1, l8, hr⟩ := codeR_ok hz
    have hd' := hd hz
    have hr' := Lib.hid hr
    have hz' := Lib.hid hz
    clear hz hr hd
    rcases h2 : inB f 0 30000 with _ | _
    · go_enter Try.func57, Try.ntmps57
      go_wp2_with (first | (go_at_call 70; refine (l09Code_any _ _ _ _ _ h).mono ?_; rintro e w' ⟨rfl, rfl⟩) | (go_at_call 66; refine (l01In_any _ _ _ _).mono ?_; rintro e w' ⟨rfl, rfl⟩))
      go_ret2
      exact ⟨by rw [dropR_out hz'.out h2]; rfl, rfl⟩
    · obtain ⟨g3, g4⟩ := inB_iff.1 h2
      have hL := Lib.hid (hd' h2)
      clear hd'
      go_enter Try.func57, Try.ntmps57
      go_wp2_with (first | (go_at_call 70; refine (l09Code_any _ _ _ _ _ h).mono ?_; rintro e w' ⟨rfl, rfl⟩) | (go_at_call 66; refine (l01In_any _ _ _ _).mono ?_; rintro e w' ⟨rfl, rfl⟩) | (go_at_call 111; refine (l09Drop_any _ _ _ _ _ _ _ h hr'.out l8 l1 g3 g4 hL.out).mono ?_; rintro e w' ⟨rfl, rfl⟩))
      go_ret2
      exact ⟨by rw [dropR_ok hz'.out h2]; rfl, rfl⟩
  · have hb : (codeR zs == 0) = false := by simp [hz]
    have hb' : (codeR zs != 0) = true := by simp [hz]
    clear hd
    go_enter Try.func57, Try.ntmps57
    go_wp2_with (go_at_call 70; refine (l09Code_any _ _ _ _ _ h).mono ?_; rintro e w' ⟨rfl, rfl⟩)
    go_ret2
    exact ⟨by rw [dropR_bad hz]; rfl, rfl⟩

set_option maxHeartbeats 1000000 in
theorem implDropFor_any (A : Option Addr) (n c : Nat) (zs : List Int) (f d : Int) (w : World) (h : Ints w A n c zs) (hd : IsDrop zs f d) :
    Calls Try.prog 33 #[.slice A n c, .int .i64 f] w fun e w' => e = .returned (.tuple #[.int .i64 (dropR zs f d).1, .int .i64 (dropR zs f d).2]) ∧ Below w.heap.size w w' := by
  by_cases hz : codeR zs = 0
  · have hb' : (codeR zs != 0) = false := by simp [hz]
    obtain ⟨l1, l8, hr⟩ := codeR_ok hz
    have hd' := hd hz
    have hr' := Lib.hid hr
    have hz' := Lib.hid hz
    clear hz hr hd
    rcases h2 : inB f 0 30000 with _ | _
    · go_enter Try.func33, Try.ntmps33
      go_wp2_with (first | (go_at_call 69; refine (checkResistances_any _ _ _ _ _ h).mono ?_; rintro e w' ⟨rfl, rfl⟩) | (go_at_call 65; refine (within_any _ _ _ _).mono ?_; rintro e w' ⟨rfl, rfl⟩))
      go_ret2
      exact ⟨by rw [dropR_out hz'.out h2]; rfl, Below.refl _ _⟩
    · obtain ⟨g3, g4⟩ := inB_iff.1 h2
      have hL := Lib.hid (hd' h2)
      clear hd'
      go_enter Try.func33, Try.ntmps33
      go_wp2_with (first | (go_at_call 69; refine (checkResistances_any _ _ _ _ _ h).mono ?_; rintro e w' ⟨rfl, rfl⟩) | (go_at_call 65; refine (within_any _ _ _ _).mono ?_; rintro e w' ⟨rfl, rfl⟩) | (go_at_call 74; refine (dropFor_any _ _ _ _ _ _ _ h hr'.out l8 l1 g3 g4 hL.out).mono ?_; rintro e w1 ⟨rfl, b1⟩))
      go_ret2
      exact ⟨by rw [dropR_ok hz'.out h2]; rfl, b1⟩
  · have hb' : (codeR zs != 0) = true := by simp [hz]
    clear hd
    go_enter Try.func33, Try.ntmps33
    go_wp2_with (go_at_call 69; refine (checkResistances_any _ _ _ _ _ h).mono ?_; rintro e w' ⟨rfl, rfl⟩)
    go_ret2
    exact ⟨by rw [dropR_bad hz]; rfl, Below.refl _ _⟩

end Go.Proofs.Ytlinofehnpmbgaa
