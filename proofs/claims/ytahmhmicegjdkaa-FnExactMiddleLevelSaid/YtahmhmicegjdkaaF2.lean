/- DropOf -/
import Derived.Test.YtahmhmicegjdkaaF1
namespace Go.Proofs.Ytahmhmicegjdkaa
open Go.RowKit

/-- the box of a call's network -/
theorem box_cells {w w' : World} {A B : Option Addr} {n c m d : Nat} (hb : Below (w.alloc (.cells #[.slice A n c, .slice B m d] 32)).heap.size (w.alloc (.cells #[.slice A n c, .slice B m d] 32)) w') :
    w'.cell? ⟨w.heap.size, 0, none⟩ = some (.slice A n c) ∧ w'.cell? ⟨w.heap.size, 1, none⟩ = some (.slice B m d) := by
  have g := (hb.block w.heap.size (by simp)).trans (heap_alloc_new w _)
  have k0 := cell_blk g 0
  have k1 := cell_blk g 1
  simp at k0 k1
  exact ⟨k0, k1⟩

theorem netB_sizes {net : Net} (h : netB net = true) : 1 ≤ net.nodes.length ∧ net.nodes.length ≤ 24 ∧ net.pipes.length ≤ 40 := by
  unfold netB at h; simp at h; omega
theorem netB_pipe_at {net : Net} (h : netB net = true) {j : Nat} (hj : j < net.pipes.length) :
    0 ≤ (pp net.pipes j).fr ∧ (pp net.pipes j).fr < net.nodes.length ∧ 0 ≤ (pp net.pipes j).to ∧ (pp net.pipes j).to < net.nodes.length ∧ (pp net.pipes j).fr ≠ (pp net.pipes j).to ∧ 1 ≤ (pp net.pipes j).k ∧ (pp net.pipes j).k ≤ 1000 ∧ 1 ≤ (pp net.pipes j).lim ∧ (pp net.pipes j).lim ≤ 30000 := by
  unfold netB at h
  simp only [Bool.and_eq_true, List.all_eq_true] at h
  have := h.2.2 j (List.mem_range.2 hj)
  simp [pipeB, inB] at this
  omega

set_option maxHeartbeats 1000000 in
theorem l05Flow_is (x : Int) (b : Bool) (w : World) (hb : inB x (-30000) 30000 = b) :
    Calls Try.prog 120 #[.int .i64 x] w fun e w' => e = .returned (.bool b) ∧ w = w' := by
  go_enter Try.func120, Try.ntmps120
  go_wp2_with (go_at_call 138; refine (l01In_is _ _ _ _ _ hb).mono ?_; rintro e w' ⟨rfl, rfl⟩)
  go_ret
  exact ⟨rfl, rfl⟩

set_option maxHeartbeats 1000000 in
theorem l01Signed_any (q : Int) (w : World) (hq : -1000000000 ≤ q ∧ q ≤ 1000000000) :
    Calls Try.prog 153 #[.int .i64 q] w fun e w' => e = .returned (.int .i64 (q * ab q)) ∧ w = w' := by
  obtain ⟨a, ha⟩ : ∃ a, ab q = a := ⟨_, rfl⟩
  have h1 := ab_nn q
  have h2 := ab_le hq.1 hq.2
  rw [ha] at h1 h2
  have m1 := bnd_mul (a := q) (b := a) (A := 1000000000) (B := 1000000000) (by omega) (by omega) (by omega) (by omega)
  have HD : Hid (q * ab q = q * a) := Lib.hid (by rw [ha])
  obtain ⟨m11, m12⟩ := m1
  simp only [Int.reduceMul, Int.reduceNeg] at m11 m12
  go_enter Try.func153, Try.ntmps153
  go_wp2_with (go_at_call 78; refine (l01Abs_is _ _ _ (by omega) ha).mono ?_; rintro e w' ⟨rfl, rfl⟩)
  go_ret
  exact ⟨ret_int (by rw [HD.out]), rfl⟩

theorem l01Signed_is (q r : Int) (w : World) (hq : -1000000000 ≤ q ∧ q ≤ 1000000000) (hr : q * ab q = r) :
    Calls Try.prog 153 #[.int .i64 q] w fun e w' => e = .returned (.int .i64 r) ∧ w = w' := by rw [← hr]; exact l01Signed_any q w hq

set_option maxHeartbeats 1000000 in
theorem l07Drop_any (A B : Option Addr) (n c m d : Nat) (net : Net) (x q : Int) (w : World) (h : NetAt w A n c B m d net) (hx : 0 ≤ x ∧ x < m) (hk : 1 ≤ (pp net.pipes x.toNat).k ∧ (pp net.pipes x.toNat).k ≤ 1000) (hq : -30000 ≤ q ∧ q ≤ 30000) :
    Calls Try.prog 130 #[.agg #[.slice A n c, .slice B m d], .int .i64 x, .int .i64 q] w fun e w' => e = .returned (.int .i64 (drp (pp net.pipes x.toNat).k q)) ∧ Below w.heap.size w w' := by
  obtain ⟨j, rfl⟩ : ∃ j : Nat, x = j := ⟨x.toNat, by omega⟩
  have hle := h.pipes.le
  have hcap := h.pipes.cap
  obtain ⟨r, hr⟩ : ∃ r, q * ab q = r := ⟨_, rfl⟩
  have h1 := ab_nn q
  have h2 := ab_le hq.1 hq.2
  have m1 := bnd_mul (a := q) (b := ab q) (A := 30000) (B := 30000) (by omega) (by omega) (by omega) (by omega)
  rw [hr] at m1
  simp only [Int.reduceMul, Int.reduceNeg, Int.toNat_natCast] at m1 hk ⊢
  have m2 := bnd_mul (a := (pp net.pipes j).k) (b := r) (A := 1000) (B := 900000000) (by omega) (by omega) (by omega) (by omega)
  simp only [Int.reduceMul, Int.reduceNeg] at m2
  have HD : Hid (drp (pp net.pipes j).k q = (pp net.pipes j).k * r) := Lib.hid (by unfold drp; rw [hr])
  obtain ⟨m21, m22⟩ := m2
  obtain ⟨b, off, rfl, hbl, hc⟩ := (h.pipes.later (bel1 w (.cells #[.slice A n c, .slice B m d] 32))).cells (by omega)
  obtain ⟨c0, c1, c2, c3, c4⟩ := hc j (by omega)
  clear hc m1 h1 h2 c0 c1 c3 c4
  go_enter Try.func130, Try.ntmps130
  go_wp2_with fail
  go_quiet ((go_at_call 153; first | exact quiet_left (l01Signed_is _ _ _ (by omega) hr) | exact quiet_add_left (l01Signed_is _ _ _ (by omega) hr)))
  go_wp2_with fail
  go_ret
  exact ⟨ret_int (by rw [HD.out]), below_drew (bel1 _ _) _⟩

end Go.Proofs.Ytahmhmicegjdkaa
