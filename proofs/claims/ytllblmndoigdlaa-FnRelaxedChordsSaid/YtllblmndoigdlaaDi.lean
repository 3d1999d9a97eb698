/- the laws' own dice -/
import Derived.Test.YtllblmndoigdlaaK9
import Derived.Laws.BitsLemmas
namespace Go.Proofs.Ytllblmndoigdlaa
open Go.RowKit

def U64 (z : Int) : Prop := 0 ≤ z ∧ z ≤ 18446744073709551615
theorem wrapU_u64 (x : Int) : U64 (IntKind.u64.wrap x) := by
  unfold U64; simp [IntKind.wrap, IntKind.signed, IntKind.bits]; omega
/-- block g is a die -/
def Dice (w : World) (g : Nat) (A : Option Addr) (n c : Nat) : Prop :=
  ∃ (i : Nat) (H : Int), i ≤ n ∧ U64 H ∧ w.heap[g]? = some (.cells #[.slice A n c, .int .i64 (i : Int), .int .u64 H] 83 (0, 0))

set_option maxRecDepth 100000 in
set_option maxHeartbeats 4000000 in
theorem roll_any (A : Option Addr) (n c : Nat) (bs : List Int) (s : Int) (w : World) (h : Bytes w A n c bs) (hn : n ≤ 4096) :
    Calls Try.prog 43 #[.slice A n c, .int .u64 s] w fun e w' => e = .returned (.pointer (some ⟨w.heap.size, 0, none⟩)) ∧ Dice w' w.heap.size A n c ∧ Below w.heap.size w w' := by
  have hle := h.le
  have hcap := h.cap
  go_enter Try.func43, Try.ntmps43
  go_wp2_with fail
  go_loopw [6] (fun i wr => ∃ (k : Nat) (H : Int), k ≤ n ∧ i = .int .i64 k ∧ U64 H ∧ wr.heap[w.heap.size]? = some (.cells #[.slice A n c, .int .i64 0, .int .u64 H] 83 (0, 0)) ∧ Below w.heap.size w wr) (fun i _ => n - (intOf i).toNat)
  case atStart =>
    exact ⟨0, _, by omega, rfl, wrapU_u64 _, heap_alloc_new _ _, bel1 _ _⟩
  case round =>
    obtain ⟨k, H, hk, rfl, hH, hx, hb⟩ := hrel
    have c0 := cell_blk hx 0
    have c1 := cell_blk hx 1
    have c2 := cell_blk hx 2
    simp at c0 c1 c2
    have f2 := frozen_blk hx 2
    by_cases hlt : k < n
    · obtain ⟨b, off, rfl, hbl, hc⟩ := (h.later hb).cells (by omega)
      have hck := hc k hlt
      have hr := h.at_ k
      have hki : (k : Int) < (n : Int) := by omega
      clear hc
      go_wp2_with fail
      go_region
      all_goals
        go_wp2_with fail
        go_roundw
        case rel => exact ⟨k + 1, _, by omega, by go_num, wrapU_u64 _, heap_set hx 2 _, (hb.drew).setCell (p := ⟨w.heap.size, 2, none⟩) (Nat.le_refl _) _⟩
        case measure => simp [intOf]; omega
    · have hki : ¬ (k : Int) < (n : Int) := by omega
      go_wp2_with fail
      go_ret
      exact ⟨rfl, ⟨0, H, by omega, hH, hx⟩, hb⟩

theorem emod_rng (x : Int) {n : Int} (hn : 1 ≤ n) : 0 ≤ x % n ∧ x % n < n := ⟨Int.emod_nonneg _ (by omega), Int.emod_lt_of_pos _ (by omega)⟩

theorem mask24 {x : Int} (h0 : 0 ≤ x) (h1 : x < 9223372036854775808) : 0 ≤ bits .and .u64 x 16777215 ∧ bits .and .u64 x 16777215 ≤ 16777215 := by
  have h := bits_mask .u64 63 (by decide) (fun n h₀ h₁ => by rw [IntKind.wrap_u64]; omega) 24 (by decide) x h0 (by omega)
  have e : ((2 : Int) ^ 24 - 1) = 16777215 := by decide
  have e2 : ((2 : Int) ^ 24) = 16777216 := by decide
  rw [e, e2] at h
  rw [h]; omega

set_option maxRecDepth 100000 in
set_option maxHeartbeats 4000000 in
theorem below_any (A : Option Addr) (n c : Nat) (bs : List Int) (g : Nat) (m : Int) (w : World) (h : Bytes w A n c bs) (hg : 0 < n → ∀ a, A = some a → a.block ≠ g) (hd : Dice w g A n c) (hn : n ≤ 4096) (hm : 1 ≤ m) (hm2 : m ≤ 1000000000) :
    Calls Try.prog 44 #[.pointer (some ⟨g, 0, none⟩), .int .i64 m] w fun e w' => ∃ r : Int, e = .returned (.int .i64 r) ∧ 0 ≤ r ∧ r < m ∧ Below g w w' ∧ w.heap.size ≤ w'.heap.size := by
  have hle := h.le
  have hcap := h.cap
  obtain ⟨i, H, hi, hH, hx⟩ := hd
  have c0 := cell_blk hx 0
  have c1 := cell_blk hx 1
  have c2 := cell_blk hx 2
  simp at c0 c1 c2
  have f2 := frozen_blk hx 2
  have f1 := frozen_blk hx 1
  have hV := wrapU_u64 (IntKind.u64.wrap (H * 6364136223846793005) + 1442695040888963407)
  unfold U64 at hV
  obtain ⟨V, hVe⟩ : ∃ V, IntKind.u64.wrap (IntKind.u64.wrap (H * 6364136223846793005) + 1442695040888963407) = V := ⟨_, rfl⟩
  rw [hVe] at hV
  have hmk := mask24 (x := V / 8589934592) (by omega) (by omega)
  obtain ⟨x, hxe⟩ : ∃ x, bits .and .u64 (V / 8589934592) 16777215 = x := ⟨_, rfl⟩
  rw [hxe] at hmk
  have hwx : wrap64 x = x := by unfold wrap64; omega
  have hx2 := heap_set hx 2 (.int .u64 V)
  have hb2 := (Below.refl g w).setCell (p := ⟨g, 2, none⟩) (Nat.le_refl _) (.int .u64 V)
  obtain ⟨w1, hw1⟩ : ∃ w1, w1 = w.setCell ⟨g, 2, none⟩ (.int .u64 V) := ⟨_, rfl⟩
  have HW1 := Lib.hid hw1
  have h1 : Bytes w1 A n c bs := by rw [hw1]; exact bytes_set h hg 2 _
  rw [← hw1] at hx2 hb2
  have d0 := cell_blk hx2 0
  have d1 := cell_blk hx2 1
  simp at d0 d1
  have f3 := frozen_blk hx2 1
  have hmne : (m == 0) = false := by simp; omega
  clear hw1
  by_cases hin : i < n
  · obtain ⟨b, off, rfl, hbl, hc⟩ := h1.cells (by omega)
    have hck := hc i hin
    have hr := h1.at_ i
    have hii : (i : Int) < (n : Int) := by omega
    clear hc
    have hmod := emod_rng (x + ig bs i) hm
    go_enter Try.func44, Try.ntmps44
    go_wp2_with fail
    rw [← HW1.out]
    go_quiet (fail)
    go_wp2_with fail
    go_quiet (fail)
    go_wp2_with fail
    go_ret
    refine ⟨_, rfl, hmod.1, hmod.2, ?_, ?_⟩
    · exact (below_drew hb2 _).setCell (p := ⟨g, 1, none⟩) (Nat.le_refl _) _
    · have := hb2.size
      simpa [World.setCell] using this
  · have hii : ¬ (i : Int) < (n : Int) := by omega
    have hmod := emod_rng x hm
    go_enter Try.func44, Try.ntmps44
    go_wp2_with fail
    rw [← HW1.out]
    go_quiet (fail)
    go_wp2_with fail
    go_ret
    exact ⟨_, rfl, hmod.1, hmod.2, below_drew hb2 _, (below_drew hb2 _).size⟩

end Go.Proofs.Ytllblmndoigdlaa
