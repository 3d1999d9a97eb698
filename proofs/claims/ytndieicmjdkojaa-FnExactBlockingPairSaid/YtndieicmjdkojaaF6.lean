/- energy (the reference), transit -/
import Derived.Test.YtndieicmjdkojaaF5
namespace Go.Proofs.Ytndieicmjdkojaa
open Go.RowKit

set_option maxRecDepth 100000 in
set_option maxHeartbeats 1000000 in
theorem l10Energy_any (A : Option Addr) (n c : Nat) (B : Option Addr) (m d : Nat) (net : Net) (C : Option Addr) (l e : Nat) (zs : List Int) (w : World) (h : NetAt w A n c B m d net) (hz : Ints w C l e zs) (hv : netB net = true) (hs : flowB net zs = true) :
    Calls Try.prog 129 #[.agg #[.slice A n c, .slice B m d], .slice C l e] w fun e w' => e = .returned (.int .i64 (eng net.pipes zs l)) ∧ Below w.heap.size w w' := by
  have HB := Lib.hid (bel1 w (.cells #[.slice A n c, .slice B m d] 27))
  have hl : l = m := by have := flowB_len hs; have := h.pipes.len; have := hz.len; omega
  have HM := Lib.hid h.pipes.len
  have h40 := (netB_sizes hv).2.2
  rw [HM.out] at h40
  subst hl
  have HS := Lib.hid hs
  have HV := Lib.hid hv
  have hple := h.pipes.le
  have hpcap := h.pipes.cap
  have hzle := hz.le
  have hzcap := hz.cap
  clear hs hv
  go_enter Try.func129, Try.ntmps129
  go_wp2_with fail
  go_loop [5, 6] (fun s i => ∃ k : Nat, k ≤ l ∧ s = .int .i64 (eng net.pipes zs k) ∧ i = .int .i64 k) (fun _ i => l - (intOf i).toNat)
  case atStart => exact ⟨0, by omega, rfl, rfl⟩
  case round =>
    obtain ⟨k, hk, rfl, rfl⟩ := hrel
    by_cases hlt : k < l
    · obtain ⟨bb, off, rfl, hbl, hc⟩ := (hz.later HB.out).cells (by omega)
      have hck := hc k hlt
      obtain ⟨bp, offp, rfl, hblp, hcp⟩ := (h.pipes.later HB.out).cells (by omega)
      obtain ⟨c0, c1, c2, c3, c4⟩ := hcp k hlt
      clear hc hcp c0 c1 c3 c4
      have hb1 := eng_bnd HV.out HS.out k (by rw [HM.out]; omega)
      have hb2 := eng_bnd HV.out HS.out (k + 1) (by rw [HM.out]; omega)
      rw [eng_succ] at hb2
      have HT := Lib.hid (eng_succ net.pipes zs k)
      have hz1 := flowB_all HS.out k
      have hk1 := netB_pipe_at HV.out (j := k) (by rw [HM.out]; omega)
      obtain ⟨a, ha⟩ : ∃ a, ab (ig zs k) = a := ⟨_, rfl⟩
      have a1 := ab_nn (ig zs k)
      have a2 := ab_le hz1.1 hz1.2
      rw [ha] at a1 a2
      obtain ⟨K, hK⟩ : ∃ K, (pp net.pipes k).k = K := ⟨_, rfl⟩
      have HD : Hid (enr (pp net.pipes k).k (ig zs k) = K * a * a * a) := Lib.hid (by unfold enr; rw [ha, hK])
      rw [HD.out] at hb2
      rw [hK] at c2 hk1
      have m1 := bnd_mul (a := K) (b := a) (A := 1000) (B := 30000) (by omega) (by omega) (by omega) (by omega)
      have m2 := bnd_mul (a := K * a) (b := a) (A := 30000000) (B := 30000) (by omega) (by omega) (by omega) (by omega)
      have m3 := bnd_mul (a := K * a * a) (b := a) (A := 900000000000) (B := 30000) (by omega) (by omega) (by omega) (by omega)
      obtain ⟨m11, m12⟩ := m1
      obtain ⟨m21, m22⟩ := m2
      obtain ⟨m31, m32⟩ := m3
      simp only [Int.reduceMul, Int.reduceNeg] at m11 m12 m21 m22 m31 m32
      clear hK
      go_wp2_with (go_at_call 130; refine (l01Abs_is _ _ _ (by omega) ha).mono ?_; rintro e w' ⟨rfl, rfl⟩)
      go_round
      case rel => exact ⟨k + 1, by omega, by rw [HT.out, HD.out], by go_num⟩
      case measure => simp [intOf]; omega
    · have hkl : k = l := by omega
      subst hkl
      go_wp2_with fail
      go_ret
      exact ⟨rfl, HB.out⟩

/-- what flows into a node through one pipe -/
def tin (p : Pipe) (z x : Int) : Int := (if p.to = x then pos z else 0) + (if p.fr = x then pos (-z) else 0)
def tra (ps : List Pipe) (zs : List Int) (x : Int) (k : Nat) : Int := sumTo (fun j => tin (pp ps j) (ig zs j) x) k
theorem tra_succ (ps : List Pipe) (zs : List Int) (x : Int) (k : Nat) : tra ps zs x (k + 1) = tra ps zs x k + tin (pp ps k) (ig zs k) x := rfl
theorem tra_bnd {net : Net} {zs : List Int} (h : flowB net zs = true) (x : Int) (k : Nat) (hk : k ≤ 40) : -2400000 ≤ tra net.pipes zs x k ∧ tra net.pipes zs x k ≤ 2400000 := by
  have := sumTo_le (f := fun j => tin (pp net.pipes j) (ig zs j) x) (k := k) (N := 40) (M := 60000) (by omega) (by omega) fun j hj => by
    have h1 := flowB_all h j
    have h2 := pos_bnd (z := ig zs j) (by omega)
    have h3 := pos_bnd (z := -ig zs j) (by omega)
    show -60000 ≤ tin _ _ _ ∧ tin _ _ _ ≤ 60000
    unfold tin
    split <;> split <;> omega
  exact this
/-- what TransitOf returns -/
def rTransitOf (net : Net) (zs : List Int) (x : Int) : Int × Int :=
  if codeF net zs = 0 then (if inB x 0 ((net.nodes.length : Int) - 1) then (tra net.pipes zs x zs.length, 0) else (0, 2)) else (0, codeF net zs)

set_option maxHeartbeats 1000000 in
theorem l02Node_is (A B : Option Addr) (n c m d : Nat) (x : Int) (b : Bool) (w : World) (hn : n ≤ 9223372036854775807) (hb : inB x 0 ((n : Int) - 1) = b) :
    Calls Try.prog 104 #[.agg #[.slice A n c, .slice B m d], .int .i64 x] w fun e w' => e = .returned (.bool b) ∧ Below w.heap.size w w' := by
  go_enter Try.func104, Try.ntmps104
  go_wp2_with (go_at_call 135; refine (l01In_is _ _ _ _ _ hb).mono ?_; rintro e w' ⟨rfl, rfl⟩)
  go_ret
  exact ⟨rfl, bel1 _ _⟩

theorem tin_b (p : Pipe) (z x : Int) : tin p z x = (if (p.to == x) = true then pos z else 0) + (if (p.fr == x) = true then pos (-z) else 0) := by unfold tin; simp only [beq_iff_eq]
theorem pos_np {z : Int} (h : z ≤ 0) : pos z = 0 := by unfold pos; split <;> omega
theorem pos_neg {z : Int} (h : z < 0) : pos z = 0 := by unfold pos; rw [if_pos h]
theorem pos_nn {z : Int} (h : ¬ z < 0) : pos z = z := by unfold pos; rw [if_neg h]

end Go.Proofs.Ytndieicmjdkojaa
