/- pipes and flows: drops -/
import Derived.Test.YtllblmndoigdlaaW
import Derived.Test.YtllblmndoigdlaaMark
import Derived.StillTailTactics
import Derived.Deep.RegionWith
namespace Go.Proofs.Ytllblmndoigdlaa
open Go.RowKit

/-- without the sign -/
def ab (q : Int) : Int := if q < 0 then -q else q
/-- the drop of a pipe -/
def drp (k q : Int) : Int := k * (q * ab q)
theorem ab_cases (q : Int) : (0 ≤ q ∧ ab q = q) ∨ (q < 0 ∧ ab q = -q) := by unfold ab; split <;> omega
theorem ab_nn (q : Int) : 0 ≤ ab q := by unfold ab; split <;> omega
theorem ab_le {q M : Int} (h0 : -M ≤ q) (h1 : q ≤ M) : ab q ≤ M := by unfold ab; split <;> omega
theorem ab_neg (q : Int) : ab (-q) = ab q := by unfold ab; split <;> split <;> omega
theorem bnd_mul {a b A B : Int} (ha : -A ≤ a) (ha' : a ≤ A) (hb : -B ≤ b) (hb' : b ≤ B) : -(A * B) ≤ a * b ∧ a * b ≤ A * B := by
  have hA : 0 ≤ A := by omega
  have hB : 0 ≤ B := by omega
  have h1 : a.natAbs ≤ A.natAbs := by omega
  have h2 : b.natAbs ≤ B.natAbs := by omega
  have h3 : (a * b).natAbs ≤ (A * B).natAbs := by rw [Int.natAbs_mul, Int.natAbs_mul]; exact Nat.mul_le_mul h1 h2
  have h4 : 0 ≤ A * B := Int.mul_nonneg hA hB
  omega
theorem drp_bnd {k q : Int} (hk0 : -1000 ≤ k) (hk1 : k ≤ 1000) (hq0 : -30000 ≤ q) (hq1 : q ≤ 30000) : -900000000000 ≤ drp k q ∧ drp k q ≤ 900000000000 := by
  have ha := ab_nn q
  have ha' := ab_le hq0 hq1
  have h1 := bnd_mul (a := q) (b := ab q) (A := 30000) (B := 30000) hq0 hq1 (by omega) ha'
  have h2 := bnd_mul (a := k) (b := q * ab q) (A := 1000) (B := 900000000) hk0 hk1 (by omega) (by omega)
  unfold drp
  omega
theorem wrap_is {x : Int} (h0 : -9223372036854775808 ≤ x) (h1 : x ≤ 9223372036854775807) : wrap64 x = x := by unfold wrap64; omega

set_option maxHeartbeats 1000000 in
theorem absOf_any (q : Int) (w : World) (hq : -9000000000000000000 ≤ q ∧ q ≤ 9000000000000000000) :
    Calls Try.prog 87 #[.int .i64 q] w fun e w' => e = .returned (.int .i64 (ab q)) ∧ w = w' := by
  by_cases h : q < 0
  · have ha := Lib.hid (show ab q = -q by unfold ab; rw [if_pos h])
    go_enter Try.func87, Try.ntmps87
    go_wp2_with fail
    go_ret
    exact ⟨ret_int ha.out.symm, rfl⟩
  · have ha := Lib.hid (show ab q = q by unfold ab; rw [if_neg h])
    go_enter Try.func87, Try.ntmps87
    go_wp2_with fail
    go_ret
    exact ⟨ret_int ha.out.symm, rfl⟩

set_option maxHeartbeats 1000000 in
theorem l01Abs_any (q : Int) (w : World) (hq : -9000000000000000000 ≤ q ∧ q ≤ 9000000000000000000) :
    Calls Try.prog 89 #[.int .i64 q] w fun e w' => e = .returned (.int .i64 (ab q)) ∧ w = w' := by
  by_cases h : q < 0
  · have ha := Lib.hid (show ab q = -q by unfold ab; rw [if_pos h])
    go_enter Try.func89, Try.ntmps89
    go_wp2_with fail
    go_ret
    exact ⟨ret_int ha.out.symm, rfl⟩
  · have ha := Lib.hid (show ab q = q by unfold ab; rw [if_neg h])
    go_enter Try.func89, Try.ntmps89
    go_wp2_with fail
    go_ret
    exact ⟨ret_int ha.out.symm, rfl⟩

theorem absOf_is (q r : Int) (w : World) (hq : -9000000000000000000 ≤ q ∧ q ≤ 9000000000000000000) (hr : ab q = r) :
    Calls Try.prog 87 #[.int .i64 q] w fun e w' => e = .returned (.int .i64 r) ∧ w = w' := by rw [← hr]; exact absOf_any q w hq
theorem l01Abs_is (q r : Int) (w : World) (hq : -9000000000000000000 ≤ q ∧ q ≤ 9000000000000000000) (hr : ab q = r) :
    Calls Try.prog 89 #[.int .i64 q] w fun e w' => e = .returned (.int .i64 r) ∧ w = w' := by rw [← hr]; exact l01Abs_any q w hq

set_option maxHeartbeats 1000000 in
theorem dropOf_any (f t k v l q : Int) (w : World) (hk : 1 ≤ k ∧ k ≤ 1000) (hq : -30000 ≤ q ∧ q ≤ 30000) :
    Calls Try.prog 124 #[.agg #[.int .i64 f, .int .i64 t, .int .i64 k, .int .i64 v, .int .i64 l], .int .i64 q] w fun e w' => e = .returned (.int .i64 (drp k q)) ∧ Below w.heap.size w w' := by
  obtain ⟨a, ha⟩ : ∃ a, ab q = a := ⟨_, rfl⟩
  have h1 := ab_nn q
  have h2 := ab_le hq.1 hq.2
  rw [ha] at h1 h2
  have m1 := bnd_mul (a := k) (b := q) (A := 1000) (B := 30000) (by omega) (by omega) (by omega) (by omega)
  have m2 := bnd_mul (a := k * q) (b := a) (A := 30000000) (B := 30000) (by omega) (by omega) (by omega) (by omega)
  have HD : Hid (drp k q = k * q * a) := Lib.hid (by unfold drp; rw [ha, Int.mul_assoc])
  obtain ⟨m11, m12⟩ := m1
  obtain ⟨m21, m22⟩ := m2
  simp only [Int.reduceMul, Int.reduceNeg] at m11 m12 m21 m22
  go_enter Try.func124, Try.ntmps124
  go_wp2_with fail
  go_quiet ((go_at_call 87; first | exact quiet_left (absOf_is _ _ _ (by omega) ha) | exact quiet_add_left (absOf_is _ _ _ (by omega) ha)))
  go_wp2_with fail
  go_ret
  exact ⟨ret_int (by rw [HD.out]), below_drew (bel1 _ _) _⟩

end Go.Proofs.Ytllblmndoigdlaa

/- DropOf -/
namespace Go.Proofs.Ytllblmndoigdlaa
open Go.RowKit

/-- the box of a call's network -/
theorem box_cells {w w' : World} {A B : Option Addr} {n c m d : Nat} (hb : Below (w.alloc (.cells #[.slice A n c, .slice B m d] 27)).heap.size (w.alloc (.cells #[.slice A n c, .slice B m d] 27)) w') :
    w'.cell? ⟨w.heap.size, 0, none⟩ = some (.slice A n c) ∧ w'.cell? ⟨w.heap.size, 1, none⟩ = some (.slice B m d) := by
  have g := (hb.block w.heap.size (by simp)).trans (heap_alloc_new w _)
  have k0 := cell_blk g 0
  have k1 := cell_blk g 1
  simp at k0 k1
  exact ⟨k0, k1⟩

theorem netB_sizes {net : Net} (h : netB net = true) : 1 ≤ net.nodes.length ∧ net.nodes.length ≤ 24 ∧ net.pipes.length ≤ 40 := by
  unfold netB at h; simp at h; omega
theorem netB_pipe_at {net : Net} (h : netB net = true) {j : Nat} (hj : j < net.pipes.length) :
    0 ≤ (pp net.pipes j).fr ∧ (pp net.pipes j).fr < net.nodes.length ∧ 0 ≤ (pp net.pipes j).to ∧ (pp net.pipes j).to < net.nodes.length ∧ (pp net.pipes j).fr ≠ (pp net.pipes j).to ∧ 1 ≤ (pp net.pipes j).k ∧ (pp net.pipes j).k ≤ 1000 ∧ 1 ≤ (pp net.pipes j).lim ∧ (pp net.pipes j).lim ≤ 30000 := by
  unfold netB at h
  simp only [Bool.and_eq_true, List.all_eq_true] at h
  have := h.2.2 j (List.mem_range.2 hj)
  simp [pipeB, inB] at this
  omega

set_option maxHeartbeats 1000000 in
theorem l05Flow_is (x : Int) (b : Bool) (w : World) (hb : inB x (-30000) 30000 = b) :
    Calls Try.prog 79 #[.int .i64 x] w fun e w' => e = .returned (.bool b) ∧ w = w' := by
  go_enter Try.func79, Try.ntmps79
  go_wp2_with (go_at_call 119; refine (l01In_is _ _ _ _ _ hb).mono ?_; rintro e w' ⟨rfl, rfl⟩)
  go_ret
  exact ⟨rfl, rfl⟩

set_option maxHeartbeats 1000000 in
theorem l01Signed_any (q : Int) (w : World) (hq : -1000000000 ≤ q ∧ q ≤ 1000000000) :
    Calls Try.prog 147 #[.int .i64 q] w fun e w' => e = .returned (.int .i64 (q * ab q)) ∧ w = w' := by
  obtain ⟨a, ha⟩ : ∃ a, ab q = a := ⟨_, rfl⟩
  have h1 := ab_nn q
  have h2 := ab_le hq.1 hq.2
  rw [ha] at h1 h2
  have m1 := bnd_mul (a := q) (b := a) (A := 1000000000) (B := 1000000000) (by omega) (by omega) (by omega) (by omega)
  have HD : Hid (q * ab q = q * a) := Lib.hid (by rw [ha])
  obtain ⟨m11, m12⟩ := m1
  simp only [Int.reduceMul, Int.reduceNeg] at m11 m12
  go_enter Try.func147, Try.ntmps147
  go_wp2_with (go_at_call 89; refine (l01Abs_is _ _ _ (by omega) ha).mono ?_; rintro e w' ⟨rfl, rfl⟩)
  go_ret
  exact ⟨ret_int (by rw [HD.out]), rfl⟩

theorem l01Signed_is (q r : Int) (w : World) (hq : -1000000000 ≤ q ∧ q ≤ 1000000000) (hr : q * ab q = r) :
    Calls Try.prog 147 #[.int .i64 q] w fun e w' => e = .returned (.int .i64 r) ∧ w = w' := by rw [← hr]; exact l01Signed_any q w hq

set_option maxHeartbeats 1000000 in
theorem l07Drop_any (A B : Option Addr) (n c m d : Nat) (net : Net) (x q : Int) (w : World) (h : NetAt w A n c B m d net) (hx : 0 ≤ x ∧ x < m) (hk : 1 ≤ (pp net.pipes x.toNat).k ∧ (pp net.pipes x.toNat).k ≤ 1000) (hq : -30000 ≤ q ∧ q ≤ 30000) :
    Calls Try.prog 141 #[.agg #[.slice A n c, .slice B m d], .int .i64 x, .int .i64 q] w fun e w' => e = .returned (.int .i64 (drp (pp net.pipes x.toNat).k q)) ∧ Below w.heap.size w w' := by
  obtain ⟨j, rfl⟩ : ∃ j : Nat, x = j := ⟨x.toNat, by omega⟩
  have hle := h.pipes.le
  have hcap := h.pipes.cap
  obtain ⟨r, hr⟩ : ∃ r, q * ab q = r := ⟨_, rfl⟩
  have h1 := ab_nn q
  have h2 := ab_le hq.1 hq.2
  have m1 := bnd_mul (a := q) (b := ab q) (A := 30000) (B := 30000) (by omega) (by omega) (by omega) (by omega)
  rw [hr] at m1
  simp only [Int.reduceMul, Int.reduceNeg, Int.toNat_natCast] at m1 hk ⊢
  have m2 := bnd_mul (a := (pp net.pipes j).k) (b := r) (A := 1000) (B := 900000000) (by omega) (by omega) (by omega) (by omega)
  simp only [Int.reduceMul, Int.reduceNeg] at m2
  have HD : Hid (drp (pp net.pipes j).k q = (pp net.pipes j).k * r) := Lib.hid (by unfold drp; rw [hr])
  obtain ⟨m21, m22⟩ := m2
  obtain ⟨b, off, rfl, hbl, hc⟩ := (h.pipes.later (bel1 w (.cells #[.slice A n c, .slice B m d] 27))).cells (by omega)
  obtain ⟨c0, c1, c2, c3, c4⟩ := hc j (by omega)
  clear hc m1 h1 h2 c0 c1 c3 c4
  go_enter Try.func141, Try.ntmps141
  go_wp2_with fail
  go_quiet ((go_at_call 147; first | exact quiet_left (l01Signed_is _ _ _ (by omega) hr) | exact quiet_add_left (l01Signed_is _ _ _ (by omega) hr)))
  go_wp2_with fail
  go_ret
  exact ⟨ret_int (by rw [HD.out]), below_drew (bel1 _ _) _⟩

end Go.Proofs.Ytllblmndoigdlaa

/- flow lists and supplies -/
namespace Go.Proofs.Ytllblmndoigdlaa
open Go.RowKit

/-- is the list a flow list of the network -/
def flowB (net : Net) (zs : List Int) : Bool := decide (zs.length = net.pipes.length) && allB zs (-30000) 30000
def codeF (net : Net) (zs : List Int) : Int := if netB net then (if flowB net zs then 0 else 3) else 1
theorem codeF_cases (net : Net) (zs : List Int) : (netB net = false ∧ codeF net zs = 1) ∨ (netB net = true ∧ flowB net zs = false ∧ codeF net zs = 3) ∨ (netB net = true ∧ flowB net zs = true ∧ codeF net zs = 0) := by
  unfold codeF
  rcases netB net <;> rcases flowB net zs <;> simp
theorem flowB_len {net : Net} {zs : List Int} (h : flowB net zs = true) : zs.length = net.pipes.length := by unfold flowB at h; simp at h; exact h.1
theorem flowB_at {net : Net} {zs : List Int} (h : flowB net zs = true) (j : Nat) (hj : j < zs.length) : -30000 ≤ ig zs j ∧ ig zs j ≤ 30000 := by
  unfold flowB at h; simp only [Bool.and_eq_true] at h; exact allB_at h.2 j hj
theorem flowB_all {net : Net} {zs : List Int} (h : flowB net zs = true) (j : Nat) : -30000 ≤ ig zs j ∧ ig zs j ≤ 30000 := by
  rcases Nat.lt_or_ge j zs.length with hj | hj
  · exact flowB_at h j hj
  · rw [ig_ge hj]; omega

set_option maxHeartbeats 1000000 in
theorem isFlowList_is (A B C : Option Addr) (n c m d l e : Nat) (net : Net) (zs : List Int) (b : Bool) (w : World) (h : NetAt w A n c B m d net) (hz : Ints w C l e zs) (hb : flowB net zs = b) :
    Calls Try.prog 53 #[.agg #[.slice A n c, .slice B m d], .slice C l e] w fun e w' => e = .returned (.bool b) ∧ Below w.heap.size w w' := by
  have hml := h.pipes.len
  have hzl := hz.len
  have hle := h.pipes.le
  have hcap := h.pipes.cap
  have HB := Lib.hid (bel1 w (.cells #[.slice A n c, .slice B m d] 27))
  unfold flowB at hb
  rw [hml, hzl] at hb
  by_cases hl : l = m
  · subst hl
    have hne : ((l : Int) == (l : Int)) = true := by simp
    have HR : Hid (allB zs (-30000) 30000 = b) := Lib.hid (by simpa using hb)
    clear hb hml hzl
    go_enter Try.func53, Try.ntmps53
    go_wp2_with fail
    refine (allWithin_any _ _ _ _ _ _ _ (hz.later HB.out)).mono ?_
    rintro e w' ⟨rfl, rfl⟩
    go_wp2_with fail
    go_ret
    exact ⟨ret_bool HR.out, HB.out⟩
  · have hne : ((l : Int) == (m : Int)) = false := by simp; omega
    have HR : Hid (false = b) := Lib.hid (by simpa [hl] using hb)
    clear hb hml hzl
    go_enter Try.func53, Try.ntmps53
    go_wp2_with fail
    go_ret
    exact ⟨ret_bool HR.out, HB.out⟩

set_option maxHeartbeats 1000000 in
theorem checkFlows_is (A B C : Option Addr) (n c m d l e : Nat) (net : Net) (zs : List Int) (r : Int) (w : World) (h : NetAt w A n c B m d net) (hz : Ints w C l e zs) (hr : codeF net zs = r) :
    Calls Try.prog 59 #[.agg #[.slice A n c, .slice B m d], .slice C l e] w fun e w' => e = .returned (.int .i64 r) ∧ Below w.heap.size w w' := by
  have HB := Lib.hid (bel1 w (.cells #[.slice A n c, .slice B m d] 27))
  rcases codeF_cases net zs with ⟨hv, hc⟩ | ⟨hv, hf, hc⟩ | ⟨hv, hf, hc⟩
  · have HR : Hid (1 = r) := Lib.hid (by rw [← hr, hc])
    clear hr hc
    go_enter Try.func59, Try.ntmps59
    go_wp2_with fail
    refine (implIsNetwork_is _ _ _ _ _ _ net _ _ (h.later HB.out) hv).mono ?_
    rintro e w1 ⟨rfl, b1⟩
    go_wp2_with fail
    go_ret
    exact ⟨ret_int HR.out, below_step HB.out b1⟩
  · have HR : Hid (3 = r) := Lib.hid (by rw [← hr, hc])
    clear hr hc
    go_enter Try.func59, Try.ntmps59
    go_wp2_with fail
    refine (implIsNetwork_is _ _ _ _ _ _ net _ _ (h.later HB.out) hv).mono ?_
    rintro e w1 ⟨rfl, b1⟩
    obtain ⟨k0, k1⟩ := box_cells b1
    have t1 := below_step HB.out b1
    go_wp2_with fail
    refine (isFlowList_is _ _ _ _ _ _ _ _ _ net zs _ _ (h.later t1) (hz.later t1) hf).mono ?_
    rintro e w2 ⟨rfl, b2⟩
    go_wp2_with fail
    go_ret
    exact ⟨ret_int HR.out, below_step t1 b2⟩
  · have HR : Hid (0 = r) := Lib.hid (by rw [← hr, hc])
    clear hr hc
    go_enter Try.func59, Try.ntmps59
    go_wp2_with fail
    refine (implIsNetwork_is _ _ _ _ _ _ net _ _ (h.later HB.out) hv).mono ?_
    rintro e w1 ⟨rfl, b1⟩
    obtain ⟨k0, k1⟩ := box_cells b1
    have t1 := below_step HB.out b1
    go_wp2_with fail
    refine (isFlowList_is _ _ _ _ _ _ _ _ _ net zs _ _ (h.later t1) (hz.later t1) hf).mono ?_
    rintro e w2 ⟨rfl, b2⟩
    go_wp2_with fail
    go_ret
    exact ⟨ret_int HR.out, below_step t1 b2⟩

set_option maxHeartbeats 1000000 in
theorem l05List_is (A B C : Option Addr) (n c m d l e : Nat) (net : Net) (zs : List Int) (b : Bool) (w : World) (h : NetAt w A n c B m d net) (hz : Ints w C l e zs) (hb : flowB net zs = b) :
    Calls Try.prog 56 #[.agg #[.slice A n c, .slice B m d], .slice C l e] w fun e w' => e = .returned (.bool b) ∧ Below w.heap.size w w' := by
  have hml := h.pipes.len
  have hzl := Lib.hid hz.len
  have hzle := hz.le
  have hzcap := hz.cap
  have hle := h.pipes.le
  have hcap := h.pipes.cap
  have HB := Lib.hid (bel1 w (.cells #[.slice A n c, .slice B m d] 27))
  unfold flowB at hb
  rw [hml, hzl.out] at hb
  have Hb := Lib.hid hb
  clear hb hml
  go_enter Try.func56, Try.ntmps56
  go_wp2_with fail
  go_loop [5] (fun i => ∃ k : Nat, k ≤ l ∧ i = .int .i64 k ∧ Hid (∀ j, j < k → inB (ig zs j) (-30000) 30000 = true)) (fun i => l - (intOf i).toNat)
  case atStart => exact ⟨0, by omega, rfl, Lib.hid (fun j hj => absurd hj (by omega))⟩
  case round =>
    obtain ⟨k, hk, rfl, hq⟩ := hrel
    by_cases hlt : k < l
    · obtain ⟨bb, off, rfl, hbl, hc⟩ := (hz.later HB.out).cells (by omega)
      have hck := hc k hlt
      clear hc
      rcases hin : inB (ig zs k) (-30000) 30000 with _ | _
      · have HR : Hid (false = b) := Lib.hid (by rw [← Hb.out, allB_no (by rw [hzl.out]; exact hlt) hin]; simp)
        go_wp2_with (go_at_call 79; refine (l05Flow_is _ _ _ hin).mono ?_; rintro e w' ⟨rfl, rfl⟩)
        go_ret
        exact ⟨ret_bool HR.out, HB.out⟩
      · go_wp2_with (go_at_call 79; refine (l05Flow_is _ _ _ hin).mono ?_; rintro e w' ⟨rfl, rfl⟩)
        go_round
        case rel => exact ⟨k + 1, by omega, by go_num, Lib.hid (fun j hj => by
            rcases Nat.lt_or_ge j k with h' | h'
            · exact hq.out j h'
            · have : j = k := by omega
              subst this; exact hin)⟩
        case measure => simp [intOf]; omega
    · have hall := allB_yes (lo := -30000) (hi := 30000) (by rw [hzl.out]; omega) hq.out
      by_cases hl : l = m
      · subst hl
        have hne : ((l : Int) == (l : Int)) = true := by simp
        have HR : Hid (true = b) := Lib.hid (by rw [← Hb.out, hall]; simp)
        clear hall
        go_wp2_with fail
        go_ret
        exact ⟨ret_bool HR.out, HB.out⟩
      · have hne : ((l : Int) == (m : Int)) = false := by simp; omega
        have HR : Hid (false = b) := Lib.hid (by rw [← Hb.out]; simp [hl])
        clear hall
        go_wp2_with fail
        go_ret
        exact ⟨ret_bool HR.out, HB.out⟩

set_option maxHeartbeats 1000000 in
theorem l05Code_is (A B C : Option Addr) (n c m d l e : Nat) (net : Net) (zs : List Int) (r : Int) (w : World) (h : NetAt w A n c B m d net) (hz : Ints w C l e zs) (hr : codeF net zs = r) :
    Calls Try.prog 72 #[.agg #[.slice A n c, .slice B m d], .slice C l e] w fun e w' => e = .returned (.int .i64 r) ∧ Below w.heap.size w w' := by
  have HB := Lib.hid (bel1 w (.cells #[.slice A n c, .slice B m d] 27))
  rcases codeF_cases net zs with ⟨hv, hc⟩ | ⟨hv, hf, hc⟩ | ⟨hv, hf, hc⟩
  · have HR : Hid (1 = r) := Lib.hid (by rw [← hr, hc])
    clear hr hc
    go_enter Try.func72, Try.ntmps72
    go_wp2_with fail
    refine (specIsNetwork_is _ _ _ _ _ _ net _ _ (h.later HB.out) hv).mono ?_
    rintro e w1 ⟨rfl, b1⟩
    go_wp2_with fail
    go_ret
    exact ⟨ret_int HR.out, below_step HB.out b1⟩
  · have HR : Hid (3 = r) := Lib.hid (by rw [← hr, hc])
    clear hr hc
    go_enter Try.func72, Try.ntmps72
    go_wp2_with fail
    refine (specIsNetwork_is _ _ _ _ _ _ net _ _ (h.later HB.out) hv).mono ?_
    rintro e w1 ⟨rfl, b1⟩
    obtain ⟨k0, k1⟩ := box_cells b1
    have t1 := below_step HB.out b1
    go_wp2_with fail
    refine (l05List_is _ _ _ _ _ _ _ _ _ net zs _ _ (h.later t1) (hz.later t1) hf).mono ?_
    rintro e w2 ⟨rfl, b2⟩
    go_wp2_with fail
    go_ret
    exact ⟨ret_int HR.out, below_step t1 b2⟩
  · have HR : Hid (0 = r) := Lib.hid (by rw [← hr, hc])
    clear hr hc
    go_enter Try.func72, Try.ntmps72
    go_wp2_with fail
    refine (specIsNetwork_is _ _ _ _ _ _ net _ _ (h.later HB.out) hv).mono ?_
    rintro e w1 ⟨rfl, b1⟩
    obtain ⟨k0, k1⟩ := box_cells b1
    have t1 := below_step HB.out b1
    go_wp2_with fail
    refine (l05List_is _ _ _ _ _ _ _ _ _ net zs _ _ (h.later t1) (hz.later t1) hf).mono ?_
    rintro e w2 ⟨rfl, b2⟩
    go_wp2_with fail
    go_ret
    exact ⟨ret_int HR.out, below_step t1 b2⟩

set_option maxHeartbeats 1000000 in
theorem l06Supply_is (x : Int) (b : Bool) (w : World) (hb : inB x (-30000) 30000 = b) :
    Calls Try.prog 118 #[.int .i64 x] w fun e w' => e = .returned (.bool b) ∧ w = w' := by
  go_enter Try.func118, Try.ntmps118
  go_wp2_with (go_at_call 119; refine (l01In_is _ _ _ _ _ hb).mono ?_; rintro e w' ⟨rfl, rfl⟩)
  go_ret
  exact ⟨rfl, rfl⟩

/-- is the list a supply list of the network -/
def supB (net : Net) (zs : List Int) : Bool := decide (zs.length = net.nodes.length) && allB zs (-30000) 30000
def codeS (net : Net) (zs : List Int) : Int := if netB net then (if supB net zs then 0 else 3) else 1
theorem codeS_cases (net : Net) (zs : List Int) : (netB net = false ∧ codeS net zs = 1) ∨ (netB net = true ∧ supB net zs = false ∧ codeS net zs = 3) ∨ (netB net = true ∧ supB net zs = true ∧ codeS net zs = 0) := by
  unfold codeS
  rcases netB net <;> rcases supB net zs <;> simp
theorem supB_len {net : Net} {zs : List Int} (h : supB net zs = true) : zs.length = net.nodes.length := by unfold supB at h; simp at h; exact h.1
theorem supB_at {net : Net} {zs : List Int} (h : supB net zs = true) (j : Nat) (hj : j < zs.length) : -30000 ≤ ig zs j ∧ ig zs j ≤ 30000 := by
  unfold supB at h; simp only [Bool.and_eq_true] at h; exact allB_at h.2 j hj
theorem supB_all {net : Net} {zs : List Int} (h : supB net zs = true) (j : Nat) : -30000 ≤ ig zs j ∧ ig zs j ≤ 30000 := by
  rcases Nat.lt_or_ge j zs.length with hj | hj
  · exact supB_at h j hj
  · rw [ig_ge hj]; omega

set_option maxHeartbeats 1000000 in
theorem areSupplies_is (A B C : Option Addr) (n c m d l e : Nat) (net : Net) (zs : List Int) (b : Bool) (w : World) (h : NetAt w A n c B m d net) (hz : Ints w C l e zs) (hb : supB net zs = b) :
    Calls Try.prog 70 #[.agg #[.slice A n c, .slice B m d], .slice C l e] w fun e w' => e = .returned (.bool b) ∧ Below w.heap.size w w' := by
  have hml := h.nodes.len
  have hzl := hz.len
  have hle := h.nodes.le
  have hcap := h.nodes.cap
  have HB := Lib.hid (bel1 w (.cells #[.slice A n c, .slice B m d] 27))
  unfold supB at hb
  rw [hml, hzl] at hb
  by_cases hl : l = n
  · subst hl
    have hne : ((l : Int) == (l : Int)) = true := by simp
    have HR : Hid (allB zs (-30000) 30000 = b) := Lib.hid (by simpa using hb)
    clear hb hml hzl
    go_enter Try.func70, Try.ntmps70
    go_wp2_with fail
    refine (allWithin_any _ _ _ _ _ _ _ (hz.later HB.out)).mono ?_
    rintro e w' ⟨rfl, rfl⟩
    go_wp2_with fail
    go_ret
    exact ⟨ret_bool HR.out, HB.out⟩
  · have hne : ((l : Int) == (n : Int)) = false := by simp; omega
    have HR : Hid (false = b) := Lib.hid (by simpa [hl] using hb)
    clear hb hml hzl
    go_enter Try.func70, Try.ntmps70
    go_wp2_with fail
    go_ret
    exact ⟨ret_bool HR.out, HB.out⟩

set_option maxHeartbeats 1000000 in
theorem checkSupplies_is (A B C : Option Addr) (n c m d l e : Nat) (net : Net) (zs : List Int) (r : Int) (w : World) (h : NetAt w A n c B m d net) (hz : Ints w C l e zs) (hr : codeS net zs = r) :
    Calls Try.prog 64 #[.agg #[.slice A n c, .slice B m d], .slice C l e] w fun e w' => e = .returned (.int .i64 r) ∧ Below w.heap.size w w' := by
  have HB := Lib.hid (bel1 w (.cells #[.slice A n c, .slice B m d] 27))
  rcases codeS_cases net zs with ⟨hv, hc⟩ | ⟨hv, hf, hc⟩ | ⟨hv, hf, hc⟩
  · have HR : Hid (1 = r) := Lib.hid (by rw [← hr, hc])
    clear hr hc
    go_enter Try.func64, Try.ntmps64
    go_wp2_with fail
    refine (implIsNetwork_is _ _ _ _ _ _ net _ _ (h.later HB.out) hv).mono ?_
    rintro e w1 ⟨rfl, b1⟩
    go_wp2_with fail
    go_ret
    exact ⟨ret_int HR.out, below_step HB.out b1⟩
  · have HR : Hid (3 = r) := Lib.hid (by rw [← hr, hc])
    clear hr hc
    go_enter Try.func64, Try.ntmps64
    go_wp2_with fail
    refine (implIsNetwork_is _ _ _ _ _ _ net _ _ (h.later HB.out) hv).mono ?_
    rintro e w1 ⟨rfl, b1⟩
    obtain ⟨k0, k1⟩ := box_cells b1
    have t1 := below_step HB.out b1
    go_wp2_with fail
    refine (areSupplies_is _ _ _ _ _ _ _ _ _ net zs _ _ (h.later t1) (hz.later t1) hf).mono ?_
    rintro e w2 ⟨rfl, b2⟩
    go_wp2_with fail
    go_ret
    exact ⟨ret_int HR.out, below_step t1 b2⟩
  · have HR : Hid (0 = r) := Lib.hid (by rw [← hr, hc])
    clear hr hc
    go_enter Try.func64, Try.ntmps64
    go_wp2_with fail
    refine (implIsNetwork_is _ _ _ _ _ _ net _ _ (h.later HB.out) hv).mono ?_
    rintro e w1 ⟨rfl, b1⟩
    obtain ⟨k0, k1⟩ := box_cells b1
    have t1 := below_step HB.out b1
    go_wp2_with fail
    refine (areSupplies_is _ _ _ _ _ _ _ _ _ net zs _ _ (h.later t1) (hz.later t1) hf).mono ?_
    rintro e w2 ⟨rfl, b2⟩
    go_wp2_with fail
    go_ret
    exact ⟨ret_int HR.out, below_step t1 b2⟩

set_option maxHeartbeats 1000000 in
theorem l06List_is (A B C : Option Addr) (n c m d l e : Nat) (net : Net) (zs : List Int) (b : Bool) (w : World) (h : NetAt w A n c B m d net) (hz : Ints w C l e zs) (hb : supB net zs = b) :
    Calls Try.prog 71 #[.agg #[.slice A n c, .slice B m d], .slice C l e] w fun e w' => e = .returned (.bool b) ∧ Below w.heap.size w w' := by
  have hml := h.nodes.len
  have hzl := Lib.hid hz.len
  have hzle := hz.le
  have hzcap := hz.cap
  have hle := h.nodes.le
  have hcap := h.nodes.cap
  have HB := Lib.hid (bel1 w (.cells #[.slice A n c, .slice B m d] 27))
  unfold supB at hb
  rw [hml, hzl.out] at hb
  have Hb := Lib.hid hb
  clear hb hml
  go_enter Try.func71, Try.ntmps71
  go_wp2_with fail
  go_loop [5] (fun i => ∃ k : Nat, k ≤ l ∧ i = .int .i64 k ∧ Hid (∀ j, j < k → inB (ig zs j) (-30000) 30000 = true)) (fun i => l - (intOf i).toNat)
  case atStart => exact ⟨0, by omega, rfl, Lib.hid (fun j hj => absurd hj (by omega))⟩
  case round =>
    obtain ⟨k, hk, rfl, hq⟩ := hrel
    by_cases hlt : k < l
    · obtain ⟨bb, off, rfl, hbl, hc⟩ := (hz.later HB.out).cells (by omega)
      have hck := hc k hlt
      clear hc
      rcases hin : inB (ig zs k) (-30000) 30000 with _ | _
      · have HR : Hid (false = b) := Lib.hid (by rw [← Hb.out, allB_no (by rw [hzl.out]; exact hlt) hin]; simp)
        go_wp2_with (go_at_call 118; refine (l06Supply_is _ _ _ hin).mono ?_; rintro e w' ⟨rfl, rfl⟩)
        go_ret
        exact ⟨ret_bool HR.out, HB.out⟩
      · go_wp2_with (go_at_call 118; refine (l06Supply_is _ _ _ hin).mono ?_; rintro e w' ⟨rfl, rfl⟩)
        go_round
        case rel => exact ⟨k + 1, by omega, by go_num, Lib.hid (fun j hj => by
            rcases Nat.lt_or_ge j k with h' | h'
            · exact hq.out j h'
            · have : j = k := by omega
              subst this; exact hin)⟩
        case measure => simp [intOf]; omega
    · have hall := allB_yes (lo := -30000) (hi := 30000) (by rw [hzl.out]; omega) hq.out
      by_cases hl : l = n
      · subst hl
        have hne : ((l : Int) == (l : Int)) = true := by simp
        have HR : Hid (true = b) := Lib.hid (by rw [← Hb.out, hall]; simp)
        clear hall
        go_wp2_with fail
        go_ret
        exact ⟨ret_bool HR.out, HB.out⟩
      · have hne : ((l : Int) == (n : Int)) = false := by simp; omega
        have HR : Hid (false = b) := Lib.hid (by rw [← Hb.out]; simp [hl])
        clear hall
        go_wp2_with fail
        go_ret
        exact ⟨ret_bool HR.out, HB.out⟩

set_option maxHeartbeats 1000000 in
theorem l06Code_is (A B C : Option Addr) (n c m d l e : Nat) (net : Net) (zs : List Int) (r : Int) (w : World) (h : NetAt w A n c B m d net) (hz : Ints w C l e zs) (hr : codeS net zs = r) :
    Calls Try.prog 67 #[.agg #[.slice A n c, .slice B m d], .slice C l e] w fun e w' => e = .returned (.int .i64 r) ∧ Below w.heap.size w w' := by
  have HB := Lib.hid (bel1 w (.cells #[.slice A n c, .slice B m d] 27))
  rcases codeS_cases net zs with ⟨hv, hc⟩ | ⟨hv, hf, hc⟩ | ⟨hv, hf, hc⟩
  · have HR : Hid (1 = r) := Lib.hid (by rw [← hr, hc])
    clear hr hc
    go_enter Try.func67, Try.ntmps67
    go_wp2_with fail
    refine (specIsNetwork_is _ _ _ _ _ _ net _ _ (h.later HB.out) hv).mono ?_
    rintro e w1 ⟨rfl, b1⟩
    go_wp2_with fail
    go_ret
    exact ⟨ret_int HR.out, below_step HB.out b1⟩
  · have HR : Hid (3 = r) := Lib.hid (by rw [← hr, hc])
    clear hr hc
    go_enter Try.func67, Try.ntmps67
    go_wp2_with fail
    refine (specIsNetwork_is _ _ _ _ _ _ net _ _ (h.later HB.out) hv).mono ?_
    rintro e w1 ⟨rfl, b1⟩
    obtain ⟨k0, k1⟩ := box_cells b1
    have t1 := below_step HB.out b1
    go_wp2_with fail
    refine (l06List_is _ _ _ _ _ _ _ _ _ net zs _ _ (h.later t1) (hz.later t1) hf).mono ?_
    rintro e w2 ⟨rfl, b2⟩
    go_wp2_with fail
    go_ret
    exact ⟨ret_int HR.out, below_step t1 b2⟩
  · have HR : Hid (0 = r) := Lib.hid (by rw [← hr, hc])
    clear hr hc
    go_enter Try.func67, Try.ntmps67
    go_wp2_with fail
    refine (specIsNetwork_is _ _ _ _ _ _ net _ _ (h.later HB.out) hv).mono ?_
    rintro e w1 ⟨rfl, b1⟩
    obtain ⟨k0, k1⟩ := box_cells b1
    have t1 := below_step HB.out b1
    go_wp2_with fail
    refine (l06List_is _ _ _ _ _ _ _ _ _ net zs _ _ (h.later t1) (hz.later t1) hf).mono ?_
    rintro e w2 ⟨rfl, b2⟩
    go_wp2_with fail
    go_ret
    exact ⟨ret_int HR.out, below_step t1 b2⟩

end Go.Proofs.Ytllblmndoigdlaa

/- throughput, energy, transit -/
namespace Go.Proofs.Ytllblmndoigdlaa
open Go.RowKit

/-- the box of a pipe -/
theorem pipe_box (w : World) (p : Pipe) : ∃ wq, wq = w.alloc (.cells #[.int .i64 p.fr, .int .i64 p.to, .int .i64 p.k, .int .i64 p.vol, .int .i64 p.lim] 76) ∧ Below w.heap.size w wq ∧
    wq.cell? ⟨w.heap.size, 0, none⟩ = some (.int .i64 p.fr) ∧ wq.cell? ⟨w.heap.size, 1, none⟩ = some (.int .i64 p.to) ∧ wq.cell? ⟨w.heap.size, 2, none⟩ = some (.int .i64 p.k) ∧ wq.cell? ⟨w.heap.size, 3, none⟩ = some (.int .i64 p.vol) ∧ wq.cell? ⟨w.heap.size, 4, none⟩ = some (.int .i64 p.lim) := by
  refine ⟨_, rfl, bel1 _ _, ?_⟩
  have g := heap_alloc_new w (.cells #[.int .i64 p.fr, .int .i64 p.to, .int .i64 p.k, .int .i64 p.vol, .int .i64 p.lim] 76)
  exact ⟨cell_blk g 0, cell_blk g 1, cell_blk g 2, cell_blk g 3, cell_blk g 4⟩

/-- f 0 + .. + f (k - 1) -/
def sumTo (f : Nat → Int) : Nat → Int
  | 0 => 0
  | k + 1 => sumTo f k + f k
theorem sumTo_succ (f : Nat → Int) (k : Nat) : sumTo f (k + 1) = sumTo f k + f k := rfl
theorem sumTo_bnd {f : Nat → Int} {k : Nat} {M : Int} (h : ∀ j, j < k → -M ≤ f j ∧ f j ≤ M) : -(M * k) ≤ sumTo f k ∧ sumTo f k ≤ M * k := by
  induction k with
  | zero => simp [sumTo]
  | succ k ih =>
    have h1 := ih fun j hj => h j (by omega)
    have h2 := h k (by omega)
    have e : M * ((k + 1 : Nat) : Int) = M * k + M := by push_cast; rw [Int.mul_add, Int.mul_one]
    rw [sumTo_succ, e]; omega
theorem sumTo_le {f : Nat → Int} {k N : Nat} {M : Int} (hM : 0 ≤ M) (hk : k ≤ N) (h : ∀ j, j < k → -M ≤ f j ∧ f j ≤ M) : -(M * N) ≤ sumTo f k ∧ sumTo f k ≤ M * N := by
  have h1 := sumTo_bnd h
  have h2 : M * (k : Int) ≤ M * (N : Int) := Int.mul_le_mul_of_nonneg_left (by omega) hM
  omega
theorem sumTo_congr {f g : Nat → Int} {k : Nat} (h : ∀ j, j < k → f j = g j) : sumTo f k = sumTo g k := by
  induction k with
  | zero => rfl
  | succ k ih => rw [sumTo_succ, sumTo_succ, ih fun j hj => h j (by omega), h k (by omega)]

def pos (z : Int) : Int := if z < 0 then 0 else z
theorem pos_bnd {z : Int} (h : z ≤ 30000) : 0 ≤ pos z ∧ pos z ≤ 30000 := by unfold pos; split <;> omega
def thr (zs : List Int) (k : Nat) : Int := sumTo (fun j => pos (ig zs j)) k
def rThroughputOf (net : Net) (zs : List Int) : Int × Int := if codeS net zs = 0 then (thr zs zs.length, 0) else (0, codeS net zs)
theorem thr_bnd {net : Net} {zs : List Int} (h : supB net zs = true) (k : Nat) (hk : k ≤ 24) : -720000 ≤ thr zs k ∧ thr zs k ≤ 720000 := by
  have := sumTo_le (f := fun j => pos (ig zs j)) (k := k) (N := 24) (M := 30000) (by omega) hk fun j hj => by
    have h1 := supB_all h j
    have h2 := pos_bnd h1.2
    omega
  exact this
theorem thr_succ (zs : List Int) (k : Nat) : thr zs (k + 1) = thr zs k + pos (ig zs k) := rfl

/-- the energy of a pipe -/
def enr (k q : Int) : Int := k * ab q * ab q * ab q
theorem ab_sq (q : Int) : ab q * ab q = q * q := by rcases ab_cases q with ⟨_, h⟩ | ⟨_, h⟩ <;> rw [h]; rw [Int.neg_mul_neg]
theorem enr_bnd {k q : Int} (hk0 : -1000 ≤ k) (hk1 : k ≤ 1000) (hq0 : -30000 ≤ q) (hq1 : q ≤ 30000) : -27000000000000000 ≤ enr k q ∧ enr k q ≤ 27000000000000000 := by
  have ha := ab_nn q
  have ha' := ab_le hq0 hq1
  have h1 := bnd_mul (a := k) (b := ab q) (A := 1000) (B := 30000) hk0 hk1 (by omega) ha'
  have h2 := bnd_mul (a := k * ab q) (b := ab q) (A := 30000000) (B := 30000) (by omega) (by omega) (by omega) (by omega)
  have h3 := bnd_mul (a := k * ab q * ab q) (b := ab q) (A := 900000000000) (B := 30000) (by omega) (by omega) (by omega) (by omega)
  unfold enr
  omega
def eng (ps : List Pipe) (zs : List Int) (k : Nat) : Int := sumTo (fun j => enr (pp ps j).k (ig zs j)) k
theorem eng_succ (ps : List Pipe) (zs : List Int) (k : Nat) : eng ps zs (k + 1) = eng ps zs k + enr (pp ps k).k (ig zs k) := rfl
theorem eng_bnd {net : Net} {zs : List Int} (hv : netB net = true) (h : flowB net zs = true) (k : Nat) (hk : k ≤ net.pipes.length) : -1080000000000000000 ≤ eng net.pipes zs k ∧ eng net.pipes zs k ≤ 1080000000000000000 := by
  have h40 := (netB_sizes hv).2.2
  have := sumTo_le (f := fun j => enr (pp net.pipes j).k (ig zs j)) (k := k) (N := 40) (M := 27000000000000000) (by omega) (by omega) fun j hj => by
    have h1 := flowB_all h j
    have h2 := netB_pipe_at hv (j := j) (by omega)
    exact enr_bnd (by omega) (by omega) h1.1 h1.2
  exact this
def rEnergyOf (net : Net) (zs : List Int) : Int × Int := if codeF net zs = 0 then (eng net.pipes zs zs.length, 0) else (0, codeF net zs)

set_option maxHeartbeats 1000000 in
theorem energyOf_any (f t k v l q : Int) (w : World) (hk : 1 ≤ k ∧ k ≤ 1000) (hq : -30000 ≤ q ∧ q ≤ 30000) :
    Calls Try.prog 84 #[.agg #[.int .i64 f, .int .i64 t, .int .i64 k, .int .i64 v, .int .i64 l], .int .i64 q] w fun e w' => e = .returned (.int .i64 (enr k q)) ∧ Below w.heap.size w w' := by
  obtain ⟨a, ha⟩ : ∃ a, ab q = a := ⟨_, rfl⟩
  have h1 := ab_nn q
  have h2 := ab_le hq.1 hq.2
  have h3 := ab_sq q
  rw [ha] at h1 h2 h3
  have HD : Hid (enr k q = k * a * q * q) := Lib.hid (by unfold enr; rw [ha, Int.mul_assoc, h3, Int.mul_assoc (k * a)])
  have m1 := bnd_mul (a := k) (b := a) (A := 1000) (B := 30000) (by omega) (by omega) (by omega) (by omega)
  have m2 := bnd_mul (a := k * a) (b := q) (A := 30000000) (B := 30000) (by omega) (by omega) (by omega) (by omega)
  have m3 := bnd_mul (a := k * a * q) (b := q) (A := 900000000000) (B := 30000) (by omega) (by omega) (by omega) (by omega)
  obtain ⟨m11, m12⟩ := m1
  obtain ⟨m21, m22⟩ := m2
  obtain ⟨m31, m32⟩ := m3
  simp only [Int.reduceMul, Int.reduceNeg] at m11 m12 m21 m22 m31 m32
  clear h3
  go_enter Try.func84, Try.ntmps84
  go_wp2_with fail
  go_quiet ((go_at_call 87; first | exact quiet_left (absOf_is _ _ _ (by omega) ha) | exact quiet_add_left (absOf_is _ _ _ (by omega) ha)))
  go_wp2_with fail
  go_ret
  exact ⟨ret_int (by rw [HD.out]), below_drew (bel1 _ _) _⟩

theorem codeF_zero {net : Net} {zs : List Int} (h : codeF net zs = 0) : netB net = true ∧ flowB net zs = true := by
  rcases codeF_cases net zs with ⟨_, h'⟩ | ⟨_, _, h'⟩ | ⟨h1, h2, _⟩
  · omega
  · omega
  · exact ⟨h1, h2⟩
theorem codeS_zero {net : Net} {zs : List Int} (h : codeS net zs = 0) : netB net = true ∧ supB net zs = true := by
  rcases codeS_cases net zs with ⟨_, h'⟩ | ⟨_, _, h'⟩ | ⟨h1, h2, _⟩
  · omega
  · omega
  · exact ⟨h1, h2⟩

set_option maxRecDepth 100000 in
set_option maxHeartbeats 1000000 in
theorem implEnergyOf_any (A : Option Addr) (n c : Nat) (B : Option Addr) (m d : Nat) (net : Net) (C : Option Addr) (l e : Nat) (zs : List Int) (w : World) (h : NetAt w A n c B m d net) (hz : Ints w C l e zs) :
    Calls Try.prog 27 #[.agg #[.slice A n c, .slice B m d], .slice C l e] w fun e w' => e = .returned (.tuple #[.int .i64 (rEnergyOf net zs).1, .int .i64 (rEnergyOf net zs).2]) ∧ Below w.heap.size w w' := by
  have HB := Lib.hid (bel1 w (.cells #[.slice A n c, .slice B m d] 27))
  by_cases hz0 : codeF net zs = 0
  · have HR : Hid (rEnergyOf net zs = (eng net.pipes zs l, 0)) := Lib.hid (by unfold rEnergyOf; rw [if_pos hz0, hz.len])
    obtain ⟨hv, hs⟩ := codeF_zero hz0
    have hl : l = m := by have := flowB_len hs; have := h.pipes.len; have := hz.len; omega
    have HM := Lib.hid h.pipes.len
    have h40 := (netB_sizes hv).2.2
    rw [HM.out] at h40
    subst hl
    have HS := Lib.hid hs
    have HV := Lib.hid hv
    have hple := h.pipes.le
    have hpcap := h.pipes.cap
    clear hs hv
    go_enter Try.func27, Try.ntmps27
    go_wp2_with fail
    refine (checkFlows_is _ _ _ _ _ _ _ _ _ net zs _ _ (h.later HB.out) (hz.later HB.out) hz0).mono ?_
    rintro e w1 ⟨rfl, b1⟩
    have t1 := below_step HB.out b1
    obtain ⟨k0, k1⟩ := box_cells b1
    clear hz0
    go_wp2_with fail
    go_loopw [7, 19] (fun s i wr => ∃ k : Nat, k ≤ l ∧ s = .int .i64 (eng net.pipes zs k) ∧ i = .int .i64 k ∧ Below w.heap.size w wr) (fun _ i _ => l - (intOf i).toNat)
    case atStart => exact ⟨0, by omega, rfl, rfl, t1⟩
    case round =>
      obtain ⟨k, hk, rfl, rfl, hb⟩ := hrel
      clear k0 k1
      by_cases hlt : k < l
      · obtain ⟨bb, off, rfl, hbl, hc⟩ := (hz.later hb).cells (by omega)
        have hck := hc k hlt
        obtain ⟨bp, offp, rfl, hblp, hcp⟩ := (h.pipes.later hb).cells (by omega)
        obtain ⟨c0, c1, c2, c3, c4⟩ := hcp k hlt
        clear hc hcp
        have hb1 := eng_bnd HV.out HS.out k (by rw [HM.out]; omega)
        have hb2 := eng_bnd HV.out HS.out (k + 1) (by rw [HM.out]; omega)
        rw [eng_succ] at hb2
        have hz1 := flowB_all HS.out k
        have hk1 := netB_pipe_at HV.out (j := k) (by rw [HM.out]; omega)
        have HT := Lib.hid (eng_succ net.pipes zs k)
        have hbs := hb.size
        go_wp2_with fail
        obtain ⟨wq, hwq, bq, n0, n1, n2, n3, n4⟩ := pipe_box wr (pp net.pipes k)
        rw [← hwq]
        replace hck := (bq.cell (p := ⟨bb, off + k, none⟩) hbl).trans hck
        clear hwq c0 c1 c2 c3 c4
        go_region_with ((go_at_call 84; refine (energyOf_any _ _ _ _ _ _ _ (by omega) (by omega)).mono ?_; rintro e w2 ⟨rfl, b2⟩))
        all_goals
          have b2' : Below wr.heap.size wr w2 := below_step bq.drew b2
          go_wp2_with fail
          go_roundw
          case rel => exact ⟨k + 1, by omega, by rw [HT.out], by go_num, below_step hb b2'⟩
          case measure => simp [intOf]; omega
      · have hkl : k = l := by omega
        subst hkl
        go_wp2_with fail
        go_ret2
        exact ⟨by rw [HR.out]; rfl, hb⟩
  · have HR : Hid (rEnergyOf net zs = (0, codeF net zs)) := Lib.hid (by unfold rEnergyOf; rw [if_neg hz0])
    obtain ⟨r, hr⟩ : ∃ r, codeF net zs = r := ⟨_, rfl⟩
    rw [hr] at HR hz0
    have hne : (r != 0) = true := by simp [hz0]
    go_enter Try.func27, Try.ntmps27
    go_wp2_with fail
    refine (checkFlows_is _ _ _ _ _ _ _ _ _ net zs _ _ (h.later HB.out) (hz.later HB.out) hr).mono ?_
    rintro e w1 ⟨rfl, b1⟩
    go_wp2_with fail
    go_ret2
    exact ⟨by rw [HR.out]; rfl, below_step HB.out b1⟩

end Go.Proofs.Ytllblmndoigdlaa

/- energy (the reference), transit -/
namespace Go.Proofs.Ytllblmndoigdlaa
open Go.RowKit

set_option maxRecDepth 100000 in
set_option maxHeartbeats 1000000 in
theorem l10Energy_any (A : Option Addr) (n c : Nat) (B : Option Addr) (m d : Nat) (net : Net) (C : Option Addr) (l e : Nat) (zs : List Int) (w : World) (h : NetAt w A n c B m d net) (hz : Ints w C l e zs) (hv : netB net = true) (hs : flowB net zs = true) :
    Calls Try.prog 82 #[.agg #[.slice A n c, .slice B m d], .slice C l e] w fun e w' => e = .returned (.int .i64 (eng net.pipes zs l)) ∧ Below w.heap.size w w' := by
  have HB := Lib.hid (bel1 w (.cells #[.slice A n c, .slice B m d] 27))
  have hl : l = m := by have := flowB_len hs; have := h.pipes.len; have := hz.len; omega
  have HM := Lib.hid h.pipes.len
  have h40 := (netB_sizes hv).2.2
  rw [HM.out] at h40
  subst hl
  have HS := Lib.hid hs
  have HV := Lib.hid hv
  have hple := h.pipes.le
  have hpcap := h.pipes.cap
  have hzle := hz.le
  have hzcap := hz.cap
  clear hs hv
  go_enter Try.func82, Try.ntmps82
  go_wp2_with fail
  go_loop [5, 6] (fun s i => ∃ k : Nat, k ≤ l ∧ s = .int .i64 (eng net.pipes zs k) ∧ i = .int .i64 k) (fun _ i => l - (intOf i).toNat)
  case atStart => exact ⟨0, by omega, rfl, rfl⟩
  case round =>
    obtain ⟨k, hk, rfl, rfl⟩ := hrel
    by_cases hlt : k < l
    · obtain ⟨bb, off, rfl, hbl, hc⟩ := (hz.later HB.out).cells (by omega)
      have hck := hc k hlt
      obtain ⟨bp, offp, rfl, hblp, hcp⟩ := (h.pipes.later HB.out).cells (by omega)
      obtain ⟨c0, c1, c2, c3, c4⟩ := hcp k hlt
      clear hc hcp c0 c1 c3 c4
      have hb1 := eng_bnd HV.out HS.out k (by rw [HM.out]; omega)
      have hb2 := eng_bnd HV.out HS.out (k + 1) (by rw [HM.out]; omega)
      rw [eng_succ] at hb2
      have HT := Lib.hid (eng_succ net.pipes zs k)
      have hz1 := flowB_all HS.out k
      have hk1 := netB_pipe_at HV.out (j := k) (by rw [HM.out]; omega)
      obtain ⟨a, ha⟩ : ∃ a, ab (ig zs k) = a := ⟨_, rfl⟩
      have a1 := ab_nn (ig zs k)
      have a2 := ab_le hz1.1 hz1.2
      rw [ha] at a1 a2
      obtain ⟨K, hK⟩ : ∃ K, (pp net.pipes k).k = K := ⟨_, rfl⟩
      have HD : Hid (enr (pp net.pipes k).k (ig zs k) = K * a * a * a) := Lib.hid (by unfold enr; rw [ha, hK])
      rw [HD.out] at hb2
      rw [hK] at c2 hk1
      have m1 := bnd_mul (a := K) (b := a) (A := 1000) (B := 30000) (by omega) (by omega) (by omega) (by omega)
      have m2 := bnd_mul (a := K * a) (b := a) (A := 30000000) (B := 30000) (by omega) (by omega) (by omega) (by omega)
      have m3 := bnd_mul (a := K * a * a) (b := a) (A := 900000000000) (B := 30000) (by omega) (by omega) (by omega) (by omega)
      obtain ⟨m11, m12⟩ := m1
      obtain ⟨m21, m22⟩ := m2
      obtain ⟨m31, m32⟩ := m3
      simp only [Int.reduceMul, Int.reduceNeg] at m11 m12 m21 m22 m31 m32
      clear hK
      go_wp2_with (go_at_call 89; refine (l01Abs_is _ _ _ (by omega) ha).mono ?_; rintro e w' ⟨rfl, rfl⟩)
      go_round
      case rel => exact ⟨k + 1, by omega, by rw [HT.out, HD.out], by go_num⟩
      case measure => simp [intOf]; omega
    · have hkl : k = l := by omega
      subst hkl
      go_wp2_with fail
      go_ret
      exact ⟨rfl, HB.out⟩

/-- what flows into a node through one pipe -/
def tin (p : Pipe) (z x : Int) : Int := (if p.to = x then pos z else 0) + (if p.fr = x then pos (-z) else 0)
def tra (ps : List Pipe) (zs : List Int) (x : Int) (k : Nat) : Int := sumTo (fun j => tin (pp ps j) (ig zs j) x) k
theorem tra_succ (ps : List Pipe) (zs : List Int) (x : Int) (k : Nat) : tra ps zs x (k + 1) = tra ps zs x k + tin (pp ps k) (ig zs k) x := rfl
theorem tra_bnd {net : Net} {zs : List Int} (h : flowB net zs = true) (x : Int) (k : Nat) (hk : k ≤ 40) : -2400000 ≤ tra net.pipes zs x k ∧ tra net.pipes zs x k ≤ 2400000 := by
  have := sumTo_le (f := fun j => tin (pp net.pipes j) (ig zs j) x) (k := k) (N := 40) (M := 60000) (by omega) (by omega) fun j hj => by
    have h1 := flowB_all h j
    have h2 := pos_bnd (z := ig zs j) (by omega)
    have h3 := pos_bnd (z := -ig zs j) (by omega)
    show -60000 ≤ tin _ _ _ ∧ tin _ _ _ ≤ 60000
    unfold tin
    split <;> split <;> omega
  exact this
/-- what TransitOf returns -/
def rTransitOf (net : Net) (zs : List Int) (x : Int) : Int × Int :=
  if codeF net zs = 0 then (if inB x 0 ((net.nodes.length : Int) - 1) then (tra net.pipes zs x zs.length, 0) else (0, 2)) else (0, codeF net zs)

theorem tin_b (p : Pipe) (z x : Int) : tin p z x = (if (p.to == x) = true then pos z else 0) + (if (p.fr == x) = true then pos (-z) else 0) := by unfold tin; simp only [beq_iff_eq]
theorem pos_np {z : Int} (h : z ≤ 0) : pos z = 0 := by unfold pos; split <;> omega
theorem pos_neg {z : Int} (h : z < 0) : pos z = 0 := by unfold pos; rw [if_pos h]
theorem pos_nn {z : Int} (h : ¬ z < 0) : pos z = z := by unfold pos; rw [if_neg h]

end Go.Proofs.Ytllblmndoigdlaa
