/- pipes and flows: drops -/
import Derived.Test.YtioiebjgjimeiaaW
namespace Go.Proofs.Ytioiebjgjimeiaa
open Go.RowKit

/-- without the sign -/
def ab (q : Int) : Int := if q < 0 then -q else q
/-- the drop of a pipe -/
def drp (k q : Int) : Int := k * (q * ab q)
theorem ab_cases (q : Int) : (0 ≤ q ∧ ab q = q) ∨ (q < 0 ∧ ab q = -q) := by unfold ab; split <;> omega
theorem ab_nn (q : Int) : 0 ≤ ab q := by unfold ab; split <;> omega
theorem ab_le {q M : Int} (h0 : -M ≤ q) (h1 : q ≤ M) : ab q ≤ M := by unfold ab; split <;> omega
theorem ab_neg (q : Int) : ab (-q) = ab q := by unfold ab; split <;> split <;> omega
theorem bnd_mul {a b A B : Int} (ha : -A ≤ a) (ha' : a ≤ A) (hb : -B ≤ b) (hb' : b ≤ B) : -(A * B) ≤ a * b ∧ a * b ≤ A * B := by
  have hA : 0 ≤ A := by omega
  have hB : 0 ≤ B := by omega
  have h1 : a.natAbs ≤ A.natAbs := by omega
  have h2 : b.natAbs ≤ B.natAbs := by omega
  have h3 : (a * b).natAbs ≤ (A * B).natAbs := by rw [Int.natAbs_mul, Int.natAbs_mul]; exact Nat.mul_le_mul h1 h2
  have h4 : 0 ≤ A * B := Int.mul_nonneg hA hB
  omega
theorem drp_bnd {k q : Int} (hk0 : -1000 ≤ k) (hk1 : k ≤ 1000) (hq0 : -30000 ≤ q) (hq1 : q ≤ 30000) : -900000000000 ≤ drp k q ∧ drp k q ≤ 900000000000 := by
  have ha := ab_nn q
  have ha' := ab_le hq0 hq1
  have h1 := bnd_mul (a := q) (b := ab q) (A := 30000) (B := 30000) hq0 hq1 (by omega) ha'
  have h2 := bnd_mul (a := k) (b := q * ab q) (A := 1000) (B := 900000000) hk0 hk1 (by omega) (by omega)
  unfold drp
  omega
theorem wrap_is {x : Int} (h0 : -9223372036854775808 ≤ x) (h1 : x ≤ 9223372036854775807) : wrap64 x = x := by unfold wrap64; omega

set_option maxHeartbeats 1000000 in
theorem absOf_any (q : Int) (w : World) (hq : -9000000000000000000 ≤ q ∧ q ≤ 9000000000000000000) :
    Calls Try.prog 144 #[.int .i64 q] w fun e w' => e = .returned (.int .i64 (ab q)) ∧ w = w' := by
  by_cases h : q < 0
  · have ha := Lib.hid (show ab q = -q by unfold ab; rw [if_pos h])
    go_enter Try.func144, Try.ntmps144
    go_wp2_with fail
    go_ret
    exact ⟨ret_int ha.out.symm, rfl⟩
  · have ha := Lib.hid (show ab q = q by unfold ab; rw [if_neg h])
    go_enter Try.func144, Try.ntmps144
    go_wp2_with fail
    go_ret
    exact ⟨ret_int ha.out.symm, rfl⟩

set_option maxHeartbeats 1000000 in
theorem l01Abs_any (q : Int) (w : World) (hq : -9000000000000000000 ≤ q ∧ q ≤ 9000000000000000000) :
    Calls Try.prog 142 #[.int .i64 q] w fun e w' => e = .returned (.int .i64 (ab q)) ∧ w = w' := by
  by_cases h : q < 0
  · have ha := Lib.hid (show ab q = -q by unfold ab; rw [if_pos h])
    go_enter Try.func142, Try.ntmps142
    go_wp2_with fail
    go_ret
    exact ⟨ret_int ha.out.symm, rfl⟩
  · have ha := Lib.hid (show ab q = q by unfold ab; rw [if_neg h])
    go_enter Try.func142, Try.ntmps142
    go_wp2_with fail
    go_ret
    exact ⟨ret_int ha.out.symm, rfl⟩

theorem absOf_is (q r : Int) (w : World) (hq : -9000000000000000000 ≤ q ∧ q ≤ 9000000000000000000) (hr : ab q = r) :
    Calls Try.prog 144 #[.int .i64 q] w fun e w' => e = .returned (.int .i64 r) ∧ w = w' := by rw [← hr]; exact absOf_any q w hq
theorem l01Abs_is (q r : Int) (w : World) (hq : -9000000000000000000 ≤ q ∧ q ≤ 9000000000000000000) (hr : ab q = r) :
    Calls Try.prog 142 #[.int .i64 q] w fun e w' => e = .returned (.int .i64 r) ∧ w = w' := by rw [← hr]; exact l01Abs_any q w hq

set_option maxHeartbeats 1000000 in
theorem dropOf_any (f t k v l q : Int) (w : World) (hk : 1 ≤ k ∧ k ≤ 1000) (hq : -30000 ≤ q ∧ q ≤ 30000) :
    Calls Try.prog 117 #[.agg #[.int .i64 f, .int .i64 t, .int .i64 k, .int .i64 v, .int .i64 l], .int .i64 q] w fun e w' => e = .returned (.int .i64 (drp k q)) ∧ Below w.heap.size w w' := by
  obtain ⟨a, ha⟩ : ∃ a, ab q = a := ⟨_, rfl⟩
  have h1 := ab_nn q
  have h2 := ab_le hq.1 hq.2
  rw [ha] at h1 h2
  have m1 := bnd_mul (a := k) (b := q) (A := 1000) (B := 30000) (by omega) (by omega) (by omega) (by omega)
  have m2 := bnd_mul (a := k * q) (b := a) (A := 30000000) (B := 30000) (by omega) (by omega) (by omega) (by omega)
  have HD : Hid (drp k q = k * q * a) := Lib.hid (by unfold drp; rw [ha, Int.mul_assoc])
  obtain ⟨m11, m12⟩ := m1
  obtain ⟨m21, m22⟩ := m2
  simp only [Int.reduceMul, Int.reduceNeg] at m11 m12 m21 m22
  go_enter Try.func117, Try.ntmps117
  go_wp2_with fail
  go_quiet ((go_at_call 144; first | exact quiet_left (absOf_is _ _ _ (by omega) ha) | exact quiet_add_left (absOf_is _ _ _ (by omega) ha)))
  go_wp2_with fail
  go_ret
  exact ⟨ret_int (by rw [HD.out]), below_drew (bel1 _ _) _⟩

end Go.Proofs.Ytioiebjgjimeiaa

/- DropOf -/
namespace Go.Proofs.Ytioiebjgjimeiaa
open Go.RowKit

/-- the box of a call's network -/
theorem box_cells {w w' : World} {A B : Option Addr} {n c m d : Nat} (hb : Below (w.alloc (.cells #[.slice A n c, .slice B m d] 27)).heap.size (w.alloc (.cells #[.slice A n c, .slice B m d] 27)) w') :
    w'.cell? ⟨w.heap.size, 0, none⟩ = some (.slice A n c) ∧ w'.cell? ⟨w.heap.size, 1, none⟩ = some (.slice B m d) := by
  have g := (hb.block w.heap.size (by simp)).trans (heap_alloc_new w _)
  have k0 := cell_blk g 0
  have k1 := cell_blk g 1
  simp at k0 k1
  exact ⟨k0, k1⟩

theorem netB_sizes {net : Net} (h : netB net = true) : 1 ≤ net.nodes.length ∧ net.nodes.length ≤ 24 ∧ net.pipes.length ≤ 40 := by
  unfold netB at h; simp at h; omega
theorem netB_pipe_at {net : Net} (h : netB net = true) {j : Nat} (hj : j < net.pipes.length) :
    0 ≤ (pp net.pipes j).fr ∧ (pp net.pipes j).fr < net.nodes.length ∧ 0 ≤ (pp net.pipes j).to ∧ (pp net.pipes j).to < net.nodes.length ∧ (pp net.pipes j).fr ≠ (pp net.pipes j).to ∧ 1 ≤ (pp net.pipes j).k ∧ (pp net.pipes j).k ≤ 1000 ∧ 1 ≤ (pp net.pipes j).lim ∧ (pp net.pipes j).lim ≤ 30000 := by
  unfold netB at h
  simp only [Bool.and_eq_true, List.all_eq_true] at h
  have := h.2.2 j (List.mem_range.2 hj)
  simp [pipeB, inB] at this
  omega

set_option maxHeartbeats 1000000 in
theorem l05Flow_is (x : Int) (b : Bool) (w : World) (hb : inB x (-30000) 30000 = b) :
    Calls Try.prog 139 #[.int .i64 x] w fun e w' => e = .returned (.bool b) ∧ w = w' := by
  go_enter Try.func139, Try.ntmps139
  go_wp2_with (go_at_call 164; refine (l01In_is _ _ _ _ _ hb).mono ?_; rintro e w' ⟨rfl, rfl⟩)
  go_ret
  exact ⟨rfl, rfl⟩

set_option maxHeartbeats 1000000 in
theorem l01Signed_any (q : Int) (w : World) (hq : -1000000000 ≤ q ∧ q ≤ 1000000000) :
    Calls Try.prog 193 #[.int .i64 q] w fun e w' => e = .returned (.int .i64 (q * ab q)) ∧ w = w' := by
  obtain ⟨a, ha⟩ : ∃ a, ab q = a := ⟨_, rfl⟩
  have h1 := ab_nn q
  have h2 := ab_le hq.1 hq.2
  rw [ha] at h1 h2
  have m1 := bnd_mul (a := q) (b := a) (A := 1000000000) (B := 1000000000) (by omega) (by omega) (by omega) (by omega)
  have HD : Hid (q * ab q = q * a) := Lib.hid (by rw [ha])
  obtain ⟨m11, m12⟩ := m1
  simp only [Int.reduceMul, Int.reduceNeg] at m11 m12
  go_enter Try.func193, Try.ntmps193
  go_wp2_with (go_at_call 142; refine (l01Abs_is _ _ _ (by omega) ha).mono ?_; rintro e w' ⟨rfl, rfl⟩)
  go_ret
  exact ⟨ret_int (by rw [HD.out]), rfl⟩

theorem l01Signed_is (q r : Int) (w : World) (hq : -1000000000 ≤ q ∧ q ≤ 1000000000) (hr : q * ab q = r) :
    Calls Try.prog 193 #[.int .i64 q] w fun e w' => e = .returned (.int .i64 r) ∧ w = w' := by rw [← hr]; exact l01Signed_any q w hq

set_option maxHeartbeats 1000000 in
theorem l07Drop_any (A B : Option Addr) (n c m d : Nat) (net : Net) (x q : Int) (w : World) (h : NetAt w A n c B m d net) (hx : 0 ≤ x ∧ x < m) (hk : 1 ≤ (pp net.pipes x.toNat).k ∧ (pp net.pipes x.toNat).k ≤ 1000) (hq : -30000 ≤ q ∧ q ≤ 30000) :
    Calls Try.prog 166 #[.agg #[.slice A n c, .slice B m d], .int .i64 x, .int .i64 q] w fun e w' => e = .returned (.int .i64 (drp (pp net.pipes x.toNat).k q)) ∧ Below w.heap.size w w' := by
  obtain ⟨j, rfl⟩ : ∃ j : Nat, x = j := ⟨x.toNat, by omega⟩
  have hle := h.pipes.le
  have hcap := h.pipes.cap
  obtain ⟨r, hr⟩ : ∃ r, q * ab q = r := ⟨_, rfl⟩
  have h1 := ab_nn q
  have h2 := ab_le hq.1 hq.2
  have m1 := bnd_mul (a := q) (b := ab q) (A := 30000) (B := 30000) (by omega) (by omega) (by omega) (by omega)
  rw [hr] at m1
  simp only [Int.reduceMul, Int.reduceNeg, Int.toNat_natCast] at m1 hk ⊢
  have m2 := bnd_mul (a := (pp net.pipes j).k) (b := r) (A := 1000) (B := 900000000) (by omega) (by omega) (by omega) (by omega)
  simp only [Int.reduceMul, Int.reduceNeg] at m2
  have HD : Hid (drp (pp net.pipes j).k q = (pp net.pipes j).k * r) := Lib.hid (by unfold drp; rw [hr])
  obtain ⟨m21, m22⟩ := m2
  obtain ⟨b, off, rfl, hbl, hc⟩ := (h.pipes.later (bel1 w (.cells #[.slice A n c, .slice B m d] 27))).cells (by omega)
  obtain ⟨c0, c1, c2, c3, c4⟩ := hc j (by omega)
  clear hc m1 h1 h2 c0 c1 c3 c4
  go_enter Try.func166, Try.ntmps166
  go_wp2_with fail
  go_quiet ((go_at_call 193; first | exact quiet_left (l01Signed_is _ _ _ (by omega) hr) | exact quiet_add_left (l01Signed_is _ _ _ (by omega) hr)))
  go_wp2_with fail
  go_ret
  exact ⟨ret_int (by rw [HD.out]), below_drew (bel1 _ _) _⟩

end Go.Proofs.Ytioiebjgjimeiaa
