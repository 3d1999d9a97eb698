/- flow lists and supplies -/
import Derived.Test.YtioiebjgjimeiaaF2
import Derived.Test.YtioiebjgjimeiaaC
namespace Go.Proofs.Ytioiebjgjimeiaa
open Go.RowKit

/-- is the list a flow list of the network -/
def flowB (net : Net) (zs : List Int) : Bool := decide (zs.length = net.pipes.length) && allB zs (-30000) 30000
def codeF (net : Net) (zs : List Int) : Int := if netB net then (if flowB net zs then 0 else 3) else 1
theorem codeF_cases (net : Net) (zs : List Int) : (netB net = false ∧ codeF net zs = 1) ∨ (netB net = true ∧ flowB net zs = false ∧ codeF net zs = 3) ∨ (netB net = true ∧ flowB net zs = true ∧ codeF net zs = 0) := by
  unfold codeF
  rcases netB net <;> rcases flowB net zs <;> simp
theorem flowB_len {net : Net} {zs : List Int} (h : flowB net zs = true) : zs.length = net.pipes.length := by unfold flowB at h; simp at h; exact h.1
theorem flowB_at {net : Net} {zs : List Int} (h : flowB net zs = true) (j : Nat) (hj : j < zs.length) : -30000 ≤ ig zs j ∧ ig zs j ≤ 30000 := by
  unfold flowB at h; simp only [Bool.and_eq_true] at h; exact allB_at h.2 j hj
theorem flowB_all {net : Net} {zs : List Int} (h : flowB net zs = true) (j : Nat) : -30000 ≤ ig zs j ∧ ig zs j ≤ 30000 := by
  rcases Nat.lt_or_ge j zs.length with hj | hj
  · exact flowB_at h j hj
  · rw [ig_ge hj]; omega

set_option maxHeartbeats 1000000 in
theorem isFlowList_is (A B C : Option Addr) (n c m d l e : Nat) (net : Net) (zs : List Int) (b : Bool) (w : World) (h : NetAt w A n c B m d net) (hz : Ints w C l e zs) (hb : flowB net zs = b) :
    Calls Try.prog 80 #[.agg #[.slice A n c, .slice B m d], .slice C l e] w fun e w' => e = .returned (.bool b) ∧ Below w.heap.size w w' := by
  have hml := h.pipes.len
  have hzl := hz.len
  have hle := h.pipes.le
  have hcap := h.pipes.cap
  have HB := Lib.hid (bel1 w (.cells #[.slice A n c, .slice B m d] 27))
  unfold flowB at hb
  rw [hml, hzl] at hb
  by_cases hl : l = m
  · subst hl
    have hne : ((l : Int) == (l : Int)) = true := by simp
    have HR : Hid (allB zs (-30000) 30000 = b) := Lib.hid (by simpa using hb)
    clear hb hml hzl
    go_enter Try.func80, Try.ntmps80
    go_wp2_with fail
    refine (allWithin_any _ _ _ _ _ _ _ (hz.later HB.out)).mono ?_
    rintro e w' ⟨rfl, rfl⟩
    go_wp2_with fail
    go_ret
    exact ⟨ret_bool HR.out, HB.out⟩
  · have hne : ((l : Int) == (m : Int)) = false := by simp; omega
    have HR : Hid (false = b) := Lib.hid (by simpa [hl] using hb)
    clear hb hml hzl
    go_enter Try.func80, Try.ntmps80
    go_wp2_with fail
    go_ret
    exact ⟨ret_bool HR.out, HB.out⟩

set_option maxHeartbeats 1000000 in
theorem checkFlows_is (A B C : Option Addr) (n c m d l e : Nat) (net : Net) (zs : List Int) (r : Int) (w : World) (h : NetAt w A n c B m d net) (hz : Ints w C l e zs) (hr : codeF net zs = r) :
    Calls Try.prog 91 #[.agg #[.slice A n c, .slice B m d], .slice C l e] w fun e w' => e = .returned (.int .i64 r) ∧ Below w.heap.size w w' := by
  have HB := Lib.hid (bel1 w (.cells #[.slice A n c, .slice B m d] 27))
  rcases codeF_cases net zs with ⟨hv, hc⟩ | ⟨hv, hf, hc⟩ | ⟨hv, hf, hc⟩
  · have HR : Hid (1 = r) := Lib.hid (by rw [← hr, hc])
    clear hr hc
    go_enter Try.func91, Try.ntmps91
    go_wp2_with fail
    refine (implIsNetwork_is _ _ _ _ _ _ net _ _ (h.later HB.out) hv).mono ?_
    rintro e w1 ⟨rfl, b1⟩
    go_wp2_with fail
    go_ret
    exact ⟨ret_int HR.out, below_step HB.out b1⟩
  · have HR : Hid (3 = r) := Lib.hid (by rw [← hr, hc])
    clear hr hc
    go_enter Try.func91, Try.ntmps91
    go_wp2_with fail
    refine (implIsNetwork_is _ _ _ _ _ _ net _ _ (h.later HB.out) hv).mono ?_
    rintro e w1 ⟨rfl, b1⟩
    obtain ⟨k0, k1⟩ := box_cells b1
    have t1 := below_step HB.out b1
    go_wp2_with fail
    refine (isFlowList_is _ _ _ _ _ _ _ _ _ net zs _ _ (h.later t1) (hz.later t1) hf).mono ?_
    rintro e w2 ⟨rfl, b2⟩
    go_wp2_with fail
    go_ret
    exact ⟨ret_int HR.out, below_step t1 b2⟩
  · have HR : Hid (0 = r) := Lib.hid (by rw [← hr, hc])
    clear hr hc
    go_enter Try.func91, Try.ntmps91
    go_wp2_with fail
    refine (implIsNetwork_is _ _ _ _ _ _ net _ _ (h.later HB.out) hv).mono ?_
    rintro e w1 ⟨rfl, b1⟩
    obtain ⟨k0, k1⟩ := box_cells b1
    have t1 := below_step HB.out b1
    go_wp2_with fail
    refine (isFlowList_is _ _ _ _ _ _ _ _ _ net zs _ _ (h.later t1) (hz.later t1) hf).mono ?_
    rintro e w2 ⟨rfl, b2⟩
    go_wp2_with fail
    go_ret
    exact ⟨ret_int HR.out, below_step t1 b2⟩

set_option maxHeartbeats 1000000 in
theorem l05List_is (A B C : Option Addr) (n c m d l e : Nat) (net : Net) (zs : List Int) (b : Bool) (w : World) (h : NetAt w A n c B m d net) (hz : Ints w C l e zs) (hb : flowB net zs = b) :
    Calls Try.prog 84 #[.agg #[.slice A n c, .slice B m d], .slice C l e] w fun e w' => e = .returned (.bool b) ∧ Below w.heap.size w w' := by
  have hml := h.pipes.len
  have hzl := Lib.hid hz.len
  have hzle := hz.le
  have hzcap := hz.cap
  have hle := h.pipes.le
  have hcap := h.pipes.cap
  have HB := Lib.hid (bel1 w (.cells #[.slice A n c, .slice B m d] 27))
  unfold flowB at hb
  rw [hml, hzl.out] at hb
  have Hb := Lib.hid hb
  clear hb hml
  go_enter Try.func84, Try.ntmps84
  go_wp2_with fail
  go_loop [5] (fun i => ∃ k : Nat, k ≤ l ∧ i = .int .i64 k ∧ Hid (∀ j, j < k → inB (ig zs j) (-30000) 30000 = true)) (fun i => l - (intOf i).toNat)
  case atStart => exact ⟨0, by omega, rfl, Lib.hid (fun j hj => absurd hj (by omega))⟩
  case round =>
    obtain ⟨k, hk, rfl, hq⟩ := hrel
    by_cases hlt : k < l
    · obtain ⟨bb, off, rfl, hbl, hc⟩ := (hz.later HB.out).cells (by omega)
      have hck := hc k hlt
      clear hc
      rcases hin : inB (ig zs k) (-30000) 30000 with _ | _
      · have HR : Hid (false = b) := Lib.hid (by rw [← Hb.out, allB_no (by rw [hzl.out]; exact hlt) hin]; simp)
        go_wp2_with (go_at_call 139; refine (l05Flow_is _ _ _ hin).mono ?_; rintro e w' ⟨rfl, rfl⟩)
        go_ret
        exact ⟨ret_bool HR.out, HB.out⟩
      · go_wp2_with (go_at_call 139; refine (l05Flow_is _ _ _ hin).mono ?_; rintro e w' ⟨rfl, rfl⟩)
        go_round
        case rel => exact ⟨k + 1, by omega, by go_num, Lib.hid (fun j hj => by
            rcases Nat.lt_or_ge j k with h' | h'
            · exact hq.out j h'
            · have : j = k := by omega
              subst this; exact hin)⟩
        case measure => simp [intOf]; omega
    · have hall := allB_yes (lo := -30000) (hi := 30000) (by rw [hzl.out]; omega) hq.out
      by_cases hl : l = m
      · subst hl
        have hne : ((l : Int) == (l : Int)) = true := by simp
        have HR : Hid (true = b) := Lib.hid (by rw [← Hb.out, hall]; simp)
        clear hall
        go_wp2_with fail
        go_ret
        exact ⟨ret_bool HR.out, HB.out⟩
      · have hne : ((l : Int) == (m : Int)) = false := by simp; omega
        have HR : Hid (false = b) := Lib.hid (by rw [← Hb.out]; simp [hl])
        clear hall
        go_wp2_with fail
        go_ret
        exact ⟨ret_bool HR.out, HB.out⟩

set_option maxHeartbeats 1000000 in
theorem l05Code_is (A B C : Option Addr) (n c m d l e : Nat) (net : Net) (zs : List Int) (r : Int) (w : World) (h : NetAt w A n c B m d net) (hz : Ints w C l e zs) (hr : codeF net zs = r) :
    Calls Try.prog 118 #[.agg #[.slice A n c, .slice B m d], .slice C l e] w fun e w' => e = .returned (.int .i64 r) ∧ Below w.heap.size w w' := by
  have HB := Lib.hid (bel1 w (.cells #[.slice A n c, .slice B m d] 27))
  rcases codeF_cases net zs with ⟨hv, hc⟩ | ⟨hv, hf, hc⟩ | ⟨hv, hf, hc⟩
  · have HR : Hid (1 = r) := Lib.hid (by rw [← hr, hc])
    clear hr hc
    go_enter Try.func118, Try.ntmps118
    go_wp2_with fail
    refine (specIsNetwork_is _ _ _ _ _ _ net _ _ (h.later HB.out) hv).mono ?_
    rintro e w1 ⟨rfl, b1⟩
    go_wp2_with fail
    go_ret
    exact ⟨ret_int HR.out, below_step HB.out b1⟩
  · have HR : Hid (3 = r) := Lib.hid (by rw [← hr, hc])
    clear hr hc
    go_enter Try.func118, Try.ntmps118
    go_wp2_with fail
    refine (specIsNetwork_is _ _ _ _ _ _ net _ _ (h.later HB.out) hv).mono ?_
    rintro e w1 ⟨rfl, b1⟩
    obtain ⟨k0, k1⟩ := box_cells b1
    have t1 := below_step HB.out b1
    go_wp2_with fail
    refine (l05List_is _ _ _ _ _ _ _ _ _ net zs _ _ (h.later t1) (hz.later t1) hf).mono ?_
    rintro e w2 ⟨rfl, b2⟩
    go_wp2_with fail
    go_ret
    exact ⟨ret_int HR.out, below_step t1 b2⟩
  · have HR : Hid (0 = r) := Lib.hid (by rw [← hr, hc])
    clear hr hc
    go_enter Try.func118, Try.ntmps118
    go_wp2_with fail
    refine (specIsNetwork_is _ _ _ _ _ _ net _ _ (h.later HB.out) hv).mono ?_
    rintro e w1 ⟨rfl, b1⟩
    obtain ⟨k0, k1⟩ := box_cells b1
    have t1 := below_step HB.out b1
    go_wp2_with fail
    refine (l05List_is _ _ _ _ _ _ _ _ _ net zs _ _ (h.later t1) (hz.later t1) hf).mono ?_
    rintro e w2 ⟨rfl, b2⟩
    go_wp2_with fail
    go_ret
    exact ⟨ret_int HR.out, below_step t1 b2⟩

set_option maxHeartbeats 1000000 in
theorem l06Supply_is (x : Int) (b : Bool) (w : World) (hb : inB x (-30000) 30000 = b) :
    Calls Try.prog 149 #[.int .i64 x] w fun e w' => e = .returned (.bool b) ∧ w = w' := by
  go_enter Try.func149, Try.ntmps149
  go_wp2_with (go_at_call 164; refine (l01In_is _ _ _ _ _ hb).mono ?_; rintro e w' ⟨rfl, rfl⟩)
  go_ret
  exact ⟨rfl, rfl⟩

/-- is the list a supply list of the network -/
def supB (net : Net) (zs : List Int) : Bool := decide (zs.length = net.nodes.length) && allB zs (-30000) 30000
def codeS (net : Net) (zs : List Int) : Int := if netB net then (if supB net zs then 0 else 3) else 1
theorem codeS_cases (net : Net) (zs : List Int) : (netB net = false ∧ codeS net zs = 1) ∨ (netB net = true ∧ supB net zs = false ∧ codeS net zs = 3) ∨ (netB net = true ∧ supB net zs = true ∧ codeS net zs = 0) := by
  unfold codeS
  rcases netB net <;> rcases supB net zs <;> simp
theorem supB_len {net : Net} {zs : List Int} (h : supB net zs = true) : zs.length = net.nodes.length := by unfold supB at h; simp at h; exact h.1
theorem supB_at {net : Net} {zs : List Int} (h : supB net zs = true) (j : Nat) (hj : j < zs.length) : -30000 ≤ ig zs j ∧ ig zs j ≤ 30000 := by
  unfold supB at h; simp only [Bool.and_eq_true] at h; exact allB_at h.2 j hj
theorem supB_all {net : Net} {zs : List Int} (h : supB net zs = true) (j : Nat) : -30000 ≤ ig zs j ∧ ig zs j ≤ 30000 := by
  rcases Nat.lt_or_ge j zs.length with hj | hj
  · exact supB_at h j hj
  · rw [ig_ge hj]; omega

set_option maxHeartbeats 1000000 in
theorem areSupplies_is (A B C : Option Addr) (n c m d l e : Nat) (net : Net) (zs : List Int) (b : Bool) (w : World) (h : NetAt w A n c B m d net) (hz : Ints w C l e zs) (hb : supB net zs = b) :
    Calls Try.prog 81 #[.agg #[.slice A n c, .slice B m d], .slice C l e] w fun e w' => e = .returned (.bool b) ∧ Below w.heap.size w w' := by
  have hml := h.nodes.len
  have hzl := hz.len
  have hle := h.nodes.le
  have hcap := h.nodes.cap
  have HB := Lib.hid (bel1 w (.cells #[.slice A n c, .slice B m d] 27))
  unfold supB at hb
  rw [hml, hzl] at hb
  by_cases hl : l = n
  · subst hl
    have hne : ((l : Int) == (l : Int)) = true := by simp
    have HR : Hid (allB zs (-30000) 30000 = b) := Lib.hid (by simpa using hb)
    clear hb hml hzl
    go_enter Try.func81, Try.ntmps81
    go_wp2_with fail
    refine (allWithin_any _ _ _ _ _ _ _ (hz.later HB.out)).mono ?_
    rintro e w' ⟨rfl, rfl⟩
    go_wp2_with fail
    go_ret
    exact ⟨ret_bool HR.out, HB.out⟩
  · have hne : ((l : Int) == (n : Int)) = false := by simp; omega
    have HR : Hid (false = b) := Lib.hid (by simpa [hl] using hb)
    clear hb hml hzl
    go_enter Try.func81, Try.ntmps81
    go_wp2_with fail
    go_ret
    exact ⟨ret_bool HR.out, HB.out⟩

set_option maxHeartbeats 1000000 in
theorem checkSupplies_is (A B C : Option Addr) (n c m d l e : Nat) (net : Net) (zs : List Int) (r : Int) (w : World) (h : NetAt w A n c B m d net) (hz : Ints w C l e zs) (hr : codeS net zs = r) :
    Calls Try.prog 72 #[.agg #[.slice A n c, .slice B m d], .slice C l e] w fun e w' => e = .returned (.int .i64 r) ∧ Below w.heap.size w w' := by
  have HB := Lib.hid (bel1 w (.cells #[.slice A n c, .slice B m d] 27))
  rcases codeS_cases net zs with ⟨hv, hc⟩ | ⟨hv, hf, hc⟩ | ⟨hv, hf, hc⟩
  · have HR : Hid (1 = r) := Lib.hid (by rw [← hr, hc])
    clear hr hc
    go_enter Try.func72, Try.ntmps72
    go_wp2_with fail
    refine (implIsNetwork_is _ _ _ _ _ _ net _ _ (h.later HB.out) hv).mono ?_
    rintro e w1 ⟨rfl, b1⟩
    go_wp2_with fail
    go_ret
    exact ⟨ret_int HR.out, below_step HB.out b1⟩
  · have HR : Hid (3 = r) := Lib.hid (by rw [← hr, hc])
    clear hr hc
    go_enter Try.func72, Try.ntmps72
    go_wp2_with fail
    refine (implIsNetwork_is _ _ _ _ _ _ net _ _ (h.later HB.out) hv).mono ?_
    rintro e w1 ⟨rfl, b1⟩
    obtain ⟨k0, k1⟩ := box_cells b1
    have t1 := below_step HB.out b1
    go_wp2_with fail
    refine (areSupplies_is _ _ _ _ _ _ _ _ _ net zs _ _ (h.later t1) (hz.later t1) hf).mono ?_
    rintro e w2 ⟨rfl, b2⟩
    go_wp2_with fail
    go_ret
    exact ⟨ret_int HR.out, below_step t1 b2⟩
  · have HR : Hid (0 = r) := Lib.hid (by rw [← hr, hc])
    clear hr hc
    go_enter Try.func72, Try.ntmps72
    go_wp2_with fail
    refine (implIsNetwork_is _ _ _ _ _ _ net _ _ (h.later HB.out) hv).mono ?_
    rintro e w1 ⟨rfl, b1⟩
    obtain ⟨k0, k1⟩ := box_cells b1
    have t1 := below_step HB.out b1
    go_wp2_with fail
    refine (areSupplies_is _ _ _ _ _ _ _ _ _ net zs _ _ (h.later t1) (hz.later t1) hf).mono ?_
    rintro e w2 ⟨rfl, b2⟩
    go_wp2_with fail
    go_ret
    exact ⟨ret_int HR.out, below_step t1 b2⟩

set_option maxHeartbeats 1000000 in
theorem l06List_is (A B C : Option Addr) (n c m d l e : Nat) (net : Net) (zs : List Int) (b : Bool) (w : World) (h : NetAt w A n c B m d net) (hz : Ints w C l e zs) (hb : supB net zs = b) :
    Calls Try.prog 75 #[.agg #[.slice A n c, .slice B m d], .slice C l e] w fun e w' => e = .returned (.bool b) ∧ Below w.heap.size w w' := by
  have hml := h.nodes.len
  have hzl := Lib.hid hz.len
  have hzle := hz.le
  have hzcap := hz.cap
  have hle := h.nodes.le
  have hcap := h.nodes.cap
  have HB := Lib.hid (bel1 w (.cells #[.slice A n c, .slice B m d] 27))
  unfold supB at hb
  rw [hml, hzl.out] at hb
  have Hb := Lib.hid hb
  clear hb hml
  go_enter Try.func75, Try.ntmps75
  go_wp2_with fail
  go_loop [5] (fun i => ∃ k : Nat, k ≤ l ∧ i = .int .i64 k ∧ Hid (∀ j, j < k → inB (ig zs j) (-30000) 30000 = true)) (fun i => l - (intOf i).toNat)
  case atStart => exact ⟨0, by omega, rfl, Lib.hid (fun j hj => absurd hj (by omega))⟩
  case round =>
    obtain ⟨k, hk, rfl, hq⟩ := hrel
    by_cases hlt : k < l
    · obtain ⟨bb, off, rfl, hbl, hc⟩ := (hz.later HB.out).cells (by omega)
      have hck := hc k hlt
      clear hc
      rcases hin : inB (ig zs k) (-30000) 30000 with _ | _
      · have HR : Hid (false = b) := Lib.hid (by rw [← Hb.out, allB_no (by rw [hzl.out]; exact hlt) hin]; simp)
        go_wp2_with (go_at_call 149; refine (l06Supply_is _ _ _ hin).mono ?_; rintro e w' ⟨rfl, rfl⟩)
        go_ret
        exact ⟨ret_bool HR.out, HB.out⟩
      · go_wp2_with (go_at_call 149; refine (l06Supply_is _ _ _ hin).mono ?_; rintro e w' ⟨rfl, rfl⟩)
        go_round
        case rel => exact ⟨k + 1, by omega, by go_num, Lib.hid (fun j hj => by
            rcases Nat.lt_or_ge j k with h' | h'
            · exact hq.out j h'
            · have : j = k := by omega
              subst this; exact hin)⟩
        case measure => simp [intOf]; omega
    · have hall := allB_yes (lo := -30000) (hi := 30000) (by rw [hzl.out]; omega) hq.out
      by_cases hl : l = n
      · subst hl
        have hne : ((l : Int) == (l : Int)) = true := by simp
        have HR : Hid (true = b) := Lib.hid (by rw [← Hb.out, hall]; simp)
        clear hall
        go_wp2_with fail
        go_ret
        exact ⟨ret_bool HR.out, HB.out⟩
      · have hne : ((l : Int) == (n : Int)) = false := by simp; omega
        have HR : Hid (false = b) := Lib.hid (by rw [← Hb.out]; simp [hl])
        clear hall
        go_wp2_with fail
        go_ret
        exact ⟨ret_bool HR.out, HB.out⟩

set_option maxHeartbeats 1000000 in
theorem l06Code_is (A B C : Option Addr) (n c m d l e : Nat) (net : Net) (zs : List Int) (r : Int) (w : World) (h : NetAt w A n c B m d net) (hz : Ints w C l e zs) (hr : codeS net zs = r) :
    Calls Try.prog 73 #[.agg #[.slice A n c, .slice B m d], .slice C l e] w fun e w' => e = .returned (.int .i64 r) ∧ Below w.heap.size w w' := by
  have HB := Lib.hid (bel1 w (.cells #[.slice A n c, .slice B m d] 27))
  rcases codeS_cases net zs with ⟨hv, hc⟩ | ⟨hv, hf, hc⟩ | ⟨hv, hf, hc⟩
  · have HR : Hid (1 = r) := Lib.hid (by rw [← hr, hc])
    clear hr hc
    go_enter Try.func73, Try.ntmps73
    go_wp2_with fail
    refine (specIsNetwork_is _ _ _ _ _ _ net _ _ (h.later HB.out) hv).mono ?_
    rintro e w1 ⟨rfl, b1⟩
    go_wp2_with fail
    go_ret
    exact ⟨ret_int HR.out, below_step HB.out b1⟩
  · have HR : Hid (3 = r) := Lib.hid (by rw [← hr, hc])
    clear hr hc
    go_enter Try.func73, Try.ntmps73
    go_wp2_with fail
    refine (specIsNetwork_is _ _ _ _ _ _ net _ _ (h.later HB.out) hv).mono ?_
    rintro e w1 ⟨rfl, b1⟩
    obtain ⟨k0, k1⟩ := box_cells b1
    have t1 := below_step HB.out b1
    go_wp2_with fail
    refine (l06List_is _ _ _ _ _ _ _ _ _ net zs _ _ (h.later t1) (hz.later t1) hf).mono ?_
    rintro e w2 ⟨rfl, b2⟩
    go_wp2_with fail
    go_ret
    exact ⟨ret_int HR.out, below_step t1 b2⟩
  · have HR : Hid (0 = r) := Lib.hid (by rw [← hr, hc])
    clear hr hc
    go_enter Try.func73, Try.ntmps73
    go_wp2_with fail
    refine (specIsNetwork_is _ _ _ _ _ _ net _ _ (h.later HB.out) hv).mono ?_
    rintro e w1 ⟨rfl, b1⟩
    obtain ⟨k0, k1⟩ := box_cells b1
    have t1 := below_step HB.out b1
    go_wp2_with fail
    refine (l06List_is _ _ _ _ _ _ _ _ _ net zs _ _ (h.later t1) (hz.later t1) hf).mono ?_
    rintro e w2 ⟨rfl, b2⟩
    go_wp2_with fail
    go_ret
    exact ⟨ret_int HR.out, below_step t1 b2⟩

end Go.Proofs.Ytioiebjgjimeiaa
