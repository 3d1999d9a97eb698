/- the laws' dice, thrown more than once -/
import Derived.Test.YtllblmndoigdlaaDi
namespace Go.Proofs.Ytllblmndoigdlaa
open Go.RowKit

set_option maxRecDepth 100000 in
set_option maxHeartbeats 4000000 in
theorem below2_any (A : Option Addr) (n c : Nat) (bs : List Int) (g : Nat) (m : Int) (w : World) (h : Bytes w A n c bs) (hg : 0 < n → ∀ a, A = some a → a.block ≠ g) (hd : Dice w g A n c) (hn : n ≤ 4096) (hm : 1 ≤ m) (hm2 : m ≤ 1000000000) :
    Calls Try.prog 44 #[.pointer (some ⟨g, 0, none⟩), .int .i64 m] w fun e w' => ∃ r : Int, e = .returned (.int .i64 r) ∧ 0 ≤ r ∧ r < m ∧ Below g w w' ∧ w.heap.size ≤ w'.heap.size ∧ Dice w' g A n c := by
  have hle := h.le
  have hcap := h.cap
  obtain ⟨i, H, hi, hH, hx⟩ := hd
  have c0 := cell_blk hx 0
  have c1 := cell_blk hx 1
  have c2 := cell_blk hx 2
  simp at c0 c1 c2
  have f2 := frozen_blk hx 2
  have f1 := frozen_blk hx 1
  have hV := wrapU_u64 (IntKind.u64.wrap (H * 6364136223846793005) + 1442695040888963407)
  unfold U64 at hV
  obtain ⟨V, hVe⟩ : ∃ V, IntKind.u64.wrap (IntKind.u64.wrap (H * 6364136223846793005) + 1442695040888963407) = V := ⟨_, rfl⟩
  rw [hVe] at hV
  have hmk := mask24 (x := V / 8589934592) (by omega) (by omega)
  obtain ⟨x, hxe⟩ : ∃ x, bits .and .u64 (V / 8589934592) 16777215 = x := ⟨_, rfl⟩
  rw [hxe] at hmk
  have hwx : wrap64 x = x := by unfold wrap64; omega
  have hx2 := heap_set hx 2 (.int .u64 V)
  have hb2 := (Below.refl g w).setCell (p := ⟨g, 2, none⟩) (Nat.le_refl _) (.int .u64 V)
  obtain ⟨w1, hw1⟩ : ∃ w1, w1 = w.setCell ⟨g, 2, none⟩ (.int .u64 V) := ⟨_, rfl⟩
  have HW1 := Lib.hid hw1
  have h1 : Bytes w1 A n c bs := by rw [hw1]; exact bytes_set h hg 2 _
  rw [← hw1] at hx2 hb2
  have d0 := cell_blk hx2 0
  have d1 := cell_blk hx2 1
  simp at d0 d1
  have f3 := frozen_blk hx2 1
  have hmne : (m == 0) = false := by simp; omega
  clear hw1
  by_cases hin : i < n
  · obtain ⟨b, off, rfl, hbl, hc⟩ := h1.cells (by omega)
    have hck := hc i hin
    have hr := h1.at_ i
    have hii : (i : Int) < (n : Int) := by omega
    clear hc
    have hmod := emod_rng (x + ig bs i) hm
    go_enter Try.func44, Try.ntmps44
    go_wp2_with fail
    rw [← HW1.out]
    go_quiet (fail)
    go_wp2_with fail
    go_quiet (fail)
    go_wp2_with fail
    go_ret
    refine ⟨_, rfl, hmod.1, hmod.2, ?_, ?_, ⟨i + 1, V, by omega, ⟨hV.1, hV.2⟩, ?_⟩⟩
    · exact (below_drew hb2 _).setCell (p := ⟨g, 1, none⟩) (Nat.le_refl _) _
    · have := hb2.size
      simpa [World.setCell] using this
    · have e : ((i + 1 : Nat) : Int) = (i : Int) + 1 := by omega
      rw [e]
      exact heap_set (w := World.drewN _ _) hx2 1 _
  · have hii : ¬ (i : Int) < (n : Int) := by omega
    have hmod := emod_rng x hm
    go_enter Try.func44, Try.ntmps44
    go_wp2_with fail
    rw [← HW1.out]
    go_quiet (fail)
    go_wp2_with fail
    go_ret
    exact ⟨_, rfl, hmod.1, hmod.2, below_drew hb2 _, (below_drew hb2 _).size, ⟨i, V, hi, ⟨hV.1, hV.2⟩, hx2⟩⟩
theorem dice_drew {w : World} {g : Nat} {A : Option Addr} {n c : Nat} (h : Dice w g A n c) : Dice (w.drewN 1) g A n c := h
theorem dice_below {w w' : World} {g : Nat} {A : Option Addr} {n c : Nat} (h : Dice w g A n c) (hb : Below w.heap.size w w') : Dice w' g A n c := by
  obtain ⟨i, H, hi, hH, hx⟩ := h
  exact ⟨i, H, hi, hH, (hb.block _ (Array.getElem?_eq_some_iff.1 hx).1).trans hx⟩

end Go.Proofs.Ytllblmndoigdlaa
