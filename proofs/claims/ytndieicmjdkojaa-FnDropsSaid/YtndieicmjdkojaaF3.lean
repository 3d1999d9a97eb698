/- DropOf -/
import Derived.Test.YtndieicmjdkojaaF2
namespace Go.Proofs.Ytndieicmjdkojaa
open Go.RowKit

/-- what DropOf returns -/
def rDropOf (net : Net) (x q : Int) : Int × Int := if netB net then (if inB x 0 ((net.pipes.length : Int) - 1) && inB q (-30000) 30000 then (drp (pp net.pipes x.toNat).k q, 0) else (0, 2)) else (0, 1)

def codeP (net : Net) (x : Int) : Int := if netB net then (if inB x 0 ((net.pipes.length : Int) - 1) then 0 else 2) else 1

theorem tup2 {a b c d : Int} (h1 : a = c) (h2 : b = d) : Ending.returned (.tuple #[.int .i64 a, .int .i64 b]) = .returned (.tuple #[.int .i64 c, .int .i64 d]) := by rw [h1, h2]

set_option maxHeartbeats 1000000 in
theorem l02PipeCode_is (A B : Option Addr) (n c m d : Nat) (net : Net) (x r : Int) (w : World) (h : NetAt w A n c B m d net) (hr : codeP net x = r) :
    Calls Try.prog 77 #[.agg #[.slice A n c, .slice B m d], .int .i64 x] w fun e w' => e = .returned (.int .i64 r) ∧ Below w.heap.size w w' := by
  have hml := h.pipes.len
  have hle := h.pipes.le
  have hcap := h.pipes.cap
  have HB := Lib.hid (bel1 w (.cells #[.slice A n c, .slice B m d] 27))
  unfold codeP at hr
  rw [hml] at hr
  rcases hv : netB net with _ | _
  · have HR : Hid (1 = r) := Lib.hid (by rw [← hr, hv]; simp)
    clear hr
    go_enter Try.func77, Try.ntmps77
    go_wp2_with fail
    refine (specIsNetwork_is _ _ _ _ _ _ net _ _ (h.later HB.out) hv).mono ?_
    rintro e w1 ⟨rfl, b1⟩
    go_wp2_with fail
    go_ret
    exact ⟨ret_int HR.out, below_step HB.out b1⟩
  · rcases hp : inB x 0 ((m : Int) - 1) with _ | _
    · have HR : Hid (2 = r) := Lib.hid (by rw [← hr, hv, hp]; simp)
      clear hr
      go_enter Try.func77, Try.ntmps77
      go_wp2_with fail
      refine (specIsNetwork_is _ _ _ _ _ _ net _ _ (h.later HB.out) hv).mono ?_
      rintro e w1 ⟨rfl, b1⟩
      obtain ⟨k0, k1⟩ := box_cells b1
      go_wp2_with (go_at_call 135; refine (l01In_is _ _ _ _ _ hp).mono ?_; rintro e w' ⟨rfl, rfl⟩)
      go_ret
      exact ⟨ret_int HR.out, below_step HB.out b1⟩
    · have HR : Hid (0 = r) := Lib.hid (by rw [← hr, hv, hp]; simp)
      clear hr
      go_enter Try.func77, Try.ntmps77
      go_wp2_with fail
      refine (specIsNetwork_is _ _ _ _ _ _ net _ _ (h.later HB.out) hv).mono ?_
      rintro e w1 ⟨rfl, b1⟩
      obtain ⟨k0, k1⟩ := box_cells b1
      go_wp2_with (go_at_call 135; refine (l01In_is _ _ _ _ _ hp).mono ?_; rintro e w' ⟨rfl, rfl⟩)
      go_ret
      exact ⟨ret_int HR.out, below_step HB.out b1⟩

set_option maxHeartbeats 1000000 in
theorem specDropOf_any (A : Option Addr) (n c : Nat) (B : Option Addr) (m d : Nat) (net : Net) (x q : Int) (w : World) (h : NetAt w A n c B m d net) (_hx : I64 x) (_hq : I64 q) :
    Calls Try.prog 25 #[.agg #[.slice A n c, .slice B m d], .int .i64 x, .int .i64 q] w fun e w' => e = .returned (.tuple #[.int .i64 (rDropOf net x q).1, .int .i64 (rDropOf net x q).2]) ∧ Below w.heap.size w w' := by
  have hml := h.pipes.len
  have HB := Lib.hid (bel1 w (.cells #[.slice A n c, .slice B m d] 27))
  rcases hv : netB net with _ | _
  · have hc : codeP net x = 1 := by unfold codeP; rw [hv]; simp
    have HR : Hid (rDropOf net x q = (0, 1)) := Lib.hid (by unfold rDropOf; rw [hv]; simp)
    clear hml
    go_enter Try.func25, Try.ntmps25
    go_wp2_with fail
    refine (l02PipeCode_is _ _ _ _ _ _ net _ _ _ (h.later HB.out) hc).mono ?_
    rintro e w1 ⟨rfl, b1⟩
    clear hc
    go_wp2_with fail
    go_ret2
    exact ⟨by rw [HR.out]; rfl, below_step HB.out b1⟩
  · rcases hp : inB x 0 ((m : Int) - 1) with _ | _
    · have hc : codeP net x = 2 := by unfold codeP; rw [hv, hml, hp]; simp
      have HR : Hid (rDropOf net x q = (0, 2)) := Lib.hid (by unfold rDropOf; rw [hv, hml, hp]; simp)
      clear hml
      go_enter Try.func25, Try.ntmps25
      go_wp2_with fail
      refine (l02PipeCode_is _ _ _ _ _ _ net _ _ _ (h.later HB.out) hc).mono ?_
      rintro e w1 ⟨rfl, b1⟩
      clear hc
      go_wp2_with fail
      go_ret2
      exact ⟨by rw [HR.out]; rfl, below_step HB.out b1⟩
    · have hc : codeP net x = 0 := by unfold codeP; rw [hv, hml, hp]; simp
      rcases hf : inB q (-30000) 30000 with _ | _
      · have HR : Hid (rDropOf net x q = (0, 2)) := Lib.hid (by unfold rDropOf; rw [hv, hml, hp, hf]; simp)
        clear hml
        go_enter Try.func25, Try.ntmps25
        go_wp2_with fail
        refine (l02PipeCode_is _ _ _ _ _ _ net _ _ _ (h.later HB.out) hc).mono ?_
        rintro e w1 ⟨rfl, b1⟩
        clear hc
        go_wp2_with (go_at_call 78; refine (l05Flow_is _ _ _ hf).mono ?_; rintro e w' ⟨rfl, rfl⟩)
        go_ret2
        exact ⟨by rw [HR.out]; rfl, below_step HB.out b1⟩
      · have HR : Hid (rDropOf net x q = (drp (pp net.pipes x.toNat).k q, 0)) := Lib.hid (by unfold rDropOf; rw [hv, hml, hp, hf]; simp)
        have hx' := inB_iff'.1 hp
        have hq' := inB_iff'.1 hf
        have hk := netB_pipe_at hv (j := x.toNat) (by omega)
        clear hml
        go_enter Try.func25, Try.ntmps25
        go_wp2_with fail
        refine (l02PipeCode_is _ _ _ _ _ _ net _ _ _ (h.later HB.out) hc).mono ?_
        rintro e w1 ⟨rfl, b1⟩
        clear hc
        obtain ⟨k0, k1⟩ := box_cells b1
        have t1 := below_step HB.out b1
        go_wp2_with (go_at_call 78; refine (l05Flow_is _ _ _ hf).mono ?_; rintro e w' ⟨rfl, rfl⟩)
        refine (l07Drop_any _ _ _ _ _ _ net _ _ _ (h.later t1) (by omega) (by omega) (by omega)).mono ?_
        rintro e w2 ⟨rfl, b2⟩
        go_wp2_with fail
        go_ret2
        exact ⟨by rw [HR.out]; rfl, below_step t1 b2⟩

set_option maxHeartbeats 1000000 in
theorem implDropOf_any (A : Option Addr) (n c : Nat) (B : Option Addr) (m d : Nat) (net : Net) (x q : Int) (w : World) (h : NetAt w A n c B m d net) (_hx : I64 x) (_hq : I64 q) :
    Calls Try.prog 24 #[.agg #[.slice A n c, .slice B m d], .int .i64 x, .int .i64 q] w fun e w' => e = .returned (.tuple #[.int .i64 (rDropOf net x q).1, .int .i64 (rDropOf net x q).2]) ∧ Below w.heap.size w w' := by
  have hml := h.pipes.len
  have hle := h.pipes.le
  have hcap := h.pipes.cap
  have HB := Lib.hid (bel1 w (.cells #[.slice A n c, .slice B m d] 27))
  rcases hv : netB net with _ | _
  · have HR : Hid (rDropOf net x q = (0, 1)) := Lib.hid (by unfold rDropOf; rw [hv]; simp)
    clear hml
    go_enter Try.func24, Try.ntmps24
    go_wp2_with fail
    refine (implIsNetwork_is _ _ _ _ _ _ net _ _ (h.later HB.out) hv).mono ?_
    rintro e w1 ⟨rfl, b1⟩
    go_wp2_with fail
    go_ret2
    exact ⟨by rw [HR.out]; rfl, below_step HB.out b1⟩
  · rcases hp : inB x 0 ((m : Int) - 1) with _ | _
    · have HR : Hid (rDropOf net x q = (0, 2)) := Lib.hid (by unfold rDropOf; rw [hv, hml, hp]; simp)
      clear hml
      go_enter Try.func24, Try.ntmps24
      go_wp2_with fail
      refine (implIsNetwork_is _ _ _ _ _ _ net _ _ (h.later HB.out) hv).mono ?_
      rintro e w1 ⟨rfl, b1⟩
      obtain ⟨k0, k1⟩ := box_cells b1
      have t1 := below_step HB.out b1
      go_wp2_with fail
      refine (isPipeOf_is _ _ _ _ _ _ _ _ _ (by omega) hp).mono ?_
      rintro e w2 ⟨rfl, b2⟩
      go_wp2_with fail
      go_ret2
      exact ⟨by rw [HR.out]; rfl, below_step t1 b2⟩
    · rcases hf : inB q (-30000) 30000 with _ | _
      · have HR : Hid (rDropOf net x q = (0, 2)) := Lib.hid (by unfold rDropOf; rw [hv, hml, hp, hf]; simp)
        clear hml
        go_enter Try.func24, Try.ntmps24
        go_wp2_with fail
        refine (implIsNetwork_is _ _ _ _ _ _ net _ _ (h.later HB.out) hv).mono ?_
        rintro e w1 ⟨rfl, b1⟩
        obtain ⟨k0, k1⟩ := box_cells b1
        have t1 := below_step HB.out b1
        go_wp2_with fail
        refine (isPipeOf_is _ _ _ _ _ _ _ _ _ (by omega) hp).mono ?_
        rintro e w2 ⟨rfl, b2⟩
        go_wp2_with (go_at_call 67; refine (within_is _ _ _ _ _ hf).mono ?_; rintro e w' ⟨rfl, rfl⟩)
        go_ret2
        exact ⟨by rw [HR.out]; rfl, below_step t1 b2⟩
      · have HR : Hid (rDropOf net x q = (drp (pp net.pipes x.toNat).k q, 0)) := Lib.hid (by unfold rDropOf; rw [hv, hml, hp, hf]; simp)
        have hx' := inB_iff'.1 hp
        have hq' := inB_iff'.1 hf
        obtain ⟨j, rfl⟩ : ∃ j : Nat, x = j := ⟨x.toNat, by omega⟩
        have hk := netB_pipe_at hv (j := j) (by omega)
        simp only [Int.toNat_natCast] at HR
        clear hml
        go_enter Try.func24, Try.ntmps24
        go_wp2_with fail
        refine (implIsNetwork_is _ _ _ _ _ _ net _ _ (h.later HB.out) hv).mono ?_
        rintro e w1 ⟨rfl, b1⟩
        obtain ⟨k0, k1⟩ := box_cells b1
        have t1 := below_step HB.out b1
        go_wp2_with fail
        refine (isPipeOf_is _ _ _ _ _ _ _ _ _ (by omega) hp).mono ?_
        rintro e w2 ⟨rfl, b2⟩
        have t2 := below_step t1 b2
        obtain ⟨k0', k1'⟩ := box_cells (below_step b1 b2)
        obtain ⟨b, off, rfl, hbl, hc⟩ := (h.pipes.later t2).cells (by omega)
        obtain ⟨c0, c1, c2, c3, c4⟩ := hc j (by omega)
        clear hc k0 k1
        go_wp2_with (go_at_call 67; refine (within_is _ _ _ _ _ hf).mono ?_; rintro e w' ⟨rfl, rfl⟩)
        refine (dropOf_any _ _ _ _ _ _ _ (by omega) (by omega)).mono ?_
        rintro e w3 ⟨rfl, b3⟩
        go_wp2_with fail
        go_ret2
        exact ⟨by rw [HR.out]; rfl, below_step t2 b3⟩

end Go.Proofs.Ytndieicmjdkojaa
