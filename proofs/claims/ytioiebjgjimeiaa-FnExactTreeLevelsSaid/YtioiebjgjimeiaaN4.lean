/- names, nodes -/
import Derived.Test.YtioiebjgjimeiaaN3
import Derived.Test.YtioiebjgjimeiaaB
import Derived.PlainAid
namespace Go.Proofs.Ytioiebjgjimeiaa
open Go.RowKit Go.PlainAid

/-- a letter or a digit -/
def chB (c : Int) : Bool := (decide (97 ≤ c) && decide (c ≤ 122)) || (decide (48 ≤ c) && decide (c ≤ 57))
def nameB (s : ByteArray) : Bool := decide (1 ≤ s.size) && decide (s.size ≤ 8) && (List.range s.size).all (fun j => chB (bt s j))
theorem nameB_size {s : ByteArray} (h : ¬ (1 ≤ s.size ∧ s.size ≤ 8)) : nameB s = false := by
  unfold nameB
  by_cases h1 : 1 ≤ s.size
  · have h2 : ¬ s.size ≤ 8 := fun h2 => h ⟨h1, h2⟩
    simp [h2]
  · simp [h1]
theorem nameB_no {s : ByteArray} {k : Nat} (hk : k < s.size) (h : chB (bt s k) = false) : nameB s = false := by
  unfold nameB
  have : (List.range s.size).all (fun j => chB (bt s j)) = false := by
    rw [List.all_eq_false]
    exact ⟨k, by simpa using hk, by simp [h]⟩
  rw [this, Bool.and_false]
theorem nameB_yes {s : ByteArray} {k : Nat} (hs1 : 1 ≤ s.size) (hs8 : s.size ≤ 8) (hk : s.size ≤ k) (h : ∀ j, j < k → chB (bt s j) = true) : nameB s = true := by
  unfold nameB
  have : (List.range s.size).all (fun j => chB (bt s j)) = true := by
    rw [List.all_eq_true]
    intro x hx
    exact h x (by have := List.mem_range.1 hx; omega)
  simp [this, hs1, hs8]

set_option maxHeartbeats 2000000 in
theorem isName_any (s : ByteArray) (w : World) (hs : s.size ≤ 9223372036854775807) :
    Calls Try.prog 186 #[.string s] w fun e w' => e = .returned (.bool (nameB s)) ∧ w = w' := by
  by_cases h1 : s.size < 1
  · go_enter Try.func186, Try.ntmps186
    go_wp2_with fail
    go_ret
    exact ⟨ret_bool (nameB_size (by omega)).symm, rfl⟩
  · by_cases h8 : 8 < s.size
    · go_enter Try.func186, Try.ntmps186
      go_wp2_with fail
      go_ret
      exact ⟨ret_bool (nameB_size (by omega)).symm, rfl⟩
    · go_enter Try.func186, Try.ntmps186
      go_wp2_with fail
      go_loop [3] (fun i => ∃ k : Nat, k ≤ s.size ∧ i = .int .i64 k ∧ Hid (∀ j, j < k → chB (bt s j) = true)) (fun i => s.size - (intOf i).toNat)
      case atStart => exact ⟨0, by omega, rfl, Lib.hid (fun j hj => absurd hj (by omega))⟩
      case round =>
        obtain ⟨k, hk, rfl, hq⟩ := hrel
        by_cases hlt : k < s.size
        · have hget := get_bt s
          have hstep : ∀ (_ : chB (bt s k) = true), Hid (∀ j, j < k + 1 → chB (bt s j) = true) := fun hc => Lib.hid (fun j hj => by
            rcases Nat.lt_or_ge j k with h' | h'
            · exact hq.out j h'
            · have : j = k := by omega
              subst this; exact hc)
          have HSTEP := Lib.hid hstep
          clear hstep
          by_cases a1 : 97 ≤ bt s k
          · by_cases a2 : bt s k ≤ 122
            · have hc : chB (bt s k) = true := by simp [chB, a1, a2]
              have HC := Lib.hid hc
              clear hc
              go_wp2_with fail
              go_round
              case rel => exact ⟨k + 1, by omega, by go_num, HSTEP.out HC.out⟩
              case measure => simp [intOf]; omega
            · have hc : chB (bt s k) = false := by simp [chB]; omega
              have HC := Lib.hid hc
              clear hc
              have b1 : 48 ≤ bt s k := by omega
              have b2 : ¬ bt s k ≤ 57 := by omega
              go_wp2_with fail
              go_ret
              exact ⟨ret_bool (nameB_no hlt HC.out).symm, rfl⟩
          · by_cases b1 : 48 ≤ bt s k
            · by_cases b2 : bt s k ≤ 57
              · have hc : chB (bt s k) = true := by simp [chB, b1, b2]
                have HC := Lib.hid hc
                clear hc
                go_wp2_with fail
                go_round
                case rel => exact ⟨k + 1, by omega, by go_num, HSTEP.out HC.out⟩
                case measure => simp [intOf]; omega
              · have hc : chB (bt s k) = false := by simp [chB]; omega
                have HC := Lib.hid hc
                clear hc
                go_wp2_with fail
                go_ret
                exact ⟨ret_bool (nameB_no hlt HC.out).symm, rfl⟩
            · have hc : chB (bt s k) = false := by simp [chB]; omega
              have HC := Lib.hid hc
              clear hc
              go_wp2_with fail
              go_ret
              exact ⟨ret_bool (nameB_no hlt HC.out).symm, rfl⟩
        · go_wp2_with fail
          go_ret
          exact ⟨ret_bool (nameB_yes (by omega) (by omega) (by omega) hq.out).symm, rfl⟩

set_option maxHeartbeats 2000000 in
theorem l02Name_any (s : ByteArray) (w : World) (hs : s.size ≤ 9223372036854775807) :
    Calls Try.prog 185 #[.string s] w fun e w' => e = .returned (.bool (nameB s)) ∧ w = w' := by
  go_enter Try.func185, Try.ntmps185
  go_wp2_with fail
  go_loop [3] (fun i => ∃ k : Nat, k ≤ s.size ∧ i = .int .i64 k ∧ Hid (∀ j, j < k → chB (bt s j) = true)) (fun i => s.size - (intOf i).toNat)
  case atStart => exact ⟨0, by omega, rfl, Lib.hid (fun j hj => absurd hj (by omega))⟩
  case round =>
    obtain ⟨k, hk, rfl, hq⟩ := hrel
    by_cases hlt : k < s.size
    · have hget := get_bt s
      have hstep : ∀ (_ : chB (bt s k) = true), Hid (∀ j, j < k + 1 → chB (bt s j) = true) := fun hc => Lib.hid (fun j hj => by
        rcases Nat.lt_or_ge j k with h' | h'
        · exact hq.out j h'
        · have : j = k := by omega
          subst this; exact hc)
      have HSTEP := Lib.hid hstep
      clear hstep
      by_cases a1 : 97 ≤ bt s k
      · by_cases a2 : bt s k ≤ 122
        · have hc : chB (bt s k) = true := by simp [chB, a1, a2]
          have HC := Lib.hid hc
          clear hc
          go_wp2_with fail
          go_round
          case rel => exact ⟨k + 1, by omega, by go_num, HSTEP.out HC.out⟩
          case measure => simp [intOf]; omega
        · have hc : chB (bt s k) = false := by simp [chB]; omega
          have HC := Lib.hid hc
          clear hc
          have b1 : 48 ≤ bt s k := by omega
          have b2 : ¬ bt s k ≤ 57 := by omega
          go_wp2_with fail
          go_ret
          exact ⟨ret_bool (nameB_no hlt HC.out).symm, rfl⟩
      · by_cases b1 : 48 ≤ bt s k
        · by_cases b2 : bt s k ≤ 57
          · have hc : chB (bt s k) = true := by simp [chB, b1, b2]
            have HC := Lib.hid hc
            clear hc
            go_wp2_with fail
            go_round
            case rel => exact ⟨k + 1, by omega, by go_num, HSTEP.out HC.out⟩
            case measure => simp [intOf]; omega
          · have hc : chB (bt s k) = false := by simp [chB]; omega
            have HC := Lib.hid hc
            clear hc
            go_wp2_with fail
            go_ret
            exact ⟨ret_bool (nameB_no hlt HC.out).symm, rfl⟩
        · have hc : chB (bt s k) = false := by simp [chB]; omega
          have HC := Lib.hid hc
          clear hc
          go_wp2_with fail
          go_ret
          exact ⟨ret_bool (nameB_no hlt HC.out).symm, rfl⟩
    · by_cases h1 : 1 ≤ s.size
      · by_cases h8 : s.size ≤ 8
        · go_wp2_with fail
          go_ret
          exact ⟨ret_bool (by rw [nameB_yes (by omega) (by omega) (by omega) hq.out]; simp; omega), rfl⟩
        · go_wp2_with fail
          go_ret
          exact ⟨ret_bool (by rw [nameB_size (by omega)]; simp; omega), rfl⟩
      · go_wp2_with fail
        go_ret
        exact ⟨ret_bool (nameB_size (by omega)).symm, rfl⟩

/-- is the node valid -/
def nodeB (x : Node) : Bool := nameB x.name && decide (0 ≤ x.low) && decide (x.low ≤ x.high) && decide (x.high ≤ 100000000)
theorem nodeB_yes {x : Node} (h1 : nameB x.name = true) (h2 : 0 ≤ x.low) (h3 : x.low ≤ x.high) (h4 : x.high ≤ 100000000) : nodeB x = true := by simp [nodeB, h1, h2, h3, h4]
theorem nodeB_1 {x : Node} (h : nameB x.name = false) : nodeB x = false := by simp [nodeB, h]
theorem nodeB_2 {x : Node} (h : ¬ (0 ≤ x.low ∧ x.low ≤ x.high ∧ x.high ≤ 100000000)) : nodeB x = false := by simp [nodeB]; omega

set_option maxHeartbeats 1000000 in
theorem specIsNode_any (x : Node) (w : World) (hs : x.ok) :
    Calls Try.prog 147 #[.agg #[.string x.name, .int .i64 x.low, .int .i64 x.high]] w fun e w' => e = .returned (.bool (nodeB x)) ∧ Below w.heap.size w w' := by
  have hsz := hs.2.2
  rcases h1 : nameB x.name with _ | _
  · go_enter Try.func147, Try.ntmps147
    go_wp2_with (go_at_call 185; refine (l02Name_any _ _ hsz).mono ?_; rintro e w' ⟨rfl, rfl⟩)
    go_ret
    exact ⟨ret_bool (nodeB_1 h1).symm, bel1 _ _⟩
  · by_cases h2 : 0 ≤ x.low
    · by_cases h3 : x.low ≤ x.high
      · by_cases h4 : x.high ≤ 100000000
        · go_enter Try.func147, Try.ntmps147
          go_wp2_with (go_at_call 185; refine (l02Name_any _ _ hsz).mono ?_; rintro e w' ⟨rfl, rfl⟩)
          go_ret
          exact ⟨ret_bool (nodeB_yes h1 h2 h3 h4).symm, bel1 _ _⟩
        · go_enter Try.func147, Try.ntmps147
          go_wp2_with (go_at_call 185; refine (l02Name_any _ _ hsz).mono ?_; rintro e w' ⟨rfl, rfl⟩)
          go_ret
          exact ⟨ret_bool (by rw [nodeB_2 (by omega)]; simp; omega), bel1 _ _⟩
      · go_enter Try.func147, Try.ntmps147
        go_wp2_with (go_at_call 185; refine (l02Name_any _ _ hsz).mono ?_; rintro e w' ⟨rfl, rfl⟩)
        go_ret
        exact ⟨ret_bool (nodeB_2 (by omega)).symm, bel1 _ _⟩
    · go_enter Try.func147, Try.ntmps147
      go_wp2_with (go_at_call 185; refine (l02Name_any _ _ hsz).mono ?_; rintro e w' ⟨rfl, rfl⟩)
      go_ret
      exact ⟨ret_bool (nodeB_2 (by omega)).symm, bel1 _ _⟩

set_option maxHeartbeats 1000000 in
theorem implIsNode_any (x : Node) (w : World) (hs : x.ok) :
    Calls Try.prog 152 #[.agg #[.string x.name, .int .i64 x.low, .int .i64 x.high]] w fun e w' => e = .returned (.bool (nodeB x)) ∧ Below w.heap.size w w' := by
  have hsz := hs.2.2
  rcases h1 : nameB x.name with _ | _
  · go_enter Try.func152, Try.ntmps152
    go_wp2_with (go_at_call 186; refine (isName_any _ _ hsz).mono ?_; rintro e w' ⟨rfl, rfl⟩)
    go_ret
    exact ⟨ret_bool (nodeB_1 h1).symm, bel1 _ _⟩
  · by_cases h2 : 0 ≤ x.low
    · by_cases h3 : x.low ≤ x.high
      · by_cases h4 : x.high ≤ 100000000
        · go_enter Try.func152, Try.ntmps152
          go_wp2_with (go_at_call 186; refine (isName_any _ _ hsz).mono ?_; rintro e w' ⟨rfl, rfl⟩)
          go_ret
          exact ⟨ret_bool (nodeB_yes h1 h2 h3 h4).symm, bel1 _ _⟩
        · go_enter Try.func152, Try.ntmps152
          go_wp2_with (go_at_call 186; refine (isName_any _ _ hsz).mono ?_; rintro e w' ⟨rfl, rfl⟩)
          go_ret
          exact ⟨ret_bool (by rw [nodeB_2 (by omega)]; simp; omega), bel1 _ _⟩
      · go_enter Try.func152, Try.ntmps152
        go_wp2_with (go_at_call 186; refine (isName_any _ _ hsz).mono ?_; rintro e w' ⟨rfl, rfl⟩)
        go_ret
        exact ⟨ret_bool (nodeB_2 (by omega)).symm, bel1 _ _⟩
    · go_enter Try.func152, Try.ntmps152
      go_wp2_with (go_at_call 186; refine (isName_any _ _ hsz).mono ?_; rintro e w' ⟨rfl, rfl⟩)
      go_ret
      exact ⟨ret_bool (nodeB_2 (by omega)).symm, bel1 _ _⟩

def sameName (a b : ByteArray) : Bool := a.toList == b.toList
theorem sameName_comm (a b : ByteArray) : sameName a b = sameName b a := by unfold sameName; rw [Bool.eq_iff_iff]; simp only [beq_iff_eq]; exact eq_comm
def hasName (ns : List Node) (s : ByteArray) : Bool := (List.range ns.length).any (fun j => sameName (nd ns j).name s)
theorem hasName_yes {ns : List Node} {s : ByteArray} {j : Nat} (hj : j < ns.length) (h : sameName (nd ns j).name s = true) : hasName ns s = true := by
  unfold hasName; rw [List.any_eq_true]; exact ⟨j, List.mem_range.2 hj, h⟩
theorem hasName_no {ns : List Node} {s : ByteArray} {k : Nat} (hk : ns.length ≤ k) (h : ∀ j, j < k → sameName (nd ns j).name s = false) : hasName ns s = false := by
  unfold hasName; rw [List.any_eq_false]; intro j hj; have := List.mem_range.1 hj; rw [h j (by omega)]; simp

set_option maxHeartbeats 1000000 in
theorem nodeIndex1_any (x : Node) (g : Nat) (s : ByteArray) (w : World) (hg : w.cell? ⟨g, 0, none⟩ = some (.string s)) :
    Calls Try.prog 188 #[.agg #[.string x.name, .int .i64 x.low, .int .i64 x.high], .pointer (some ⟨g, 0, none⟩)] w fun e w' => e = .returned (.bool (sameName x.name s)) ∧ Below w.heap.size w w' := by
  have hg2 := (bel1 w (.cells #[.string x.name, .int .i64 x.low, .int .i64 x.high] 48)).cell (p := ⟨g, 0, none⟩) (World.block_lt_of_cell? _ _ hg)
  rw [hg] at hg2
  go_enter Try.func188, Try.ntmps188
  go_wp2
  go_ret
  exact ⟨rfl, bel1 _ _⟩

set_option maxHeartbeats 1000000 in
theorem IndexFunc_any (A : Option Addr) (n c : Nat) (ns : List Node) (g : Nat) (s : ByteArray) (w : World) (h : NodesAt w A n c ns) (hg : w.cell? ⟨g, 0, none⟩ = some (.string s)) :
    Calls Try.prog 187 #[.slice A n c, .func (.func 188) #[] #[.pointer (some ⟨g, 0, none⟩)]] w fun e w' => ∃ r : Int, e = .returned (.int .i64 r) ∧ (0 ≤ r ↔ hasName ns s = true) ∧ I64 r ∧ Below w.heap.size w w' := by
  have hle := h.le
  have hcap := h.cap
  have hlen := Lib.hid h.len
  have hgl := World.block_lt_of_cell? _ _ hg
  go_enter Try.func187, Try.ntmps187
  go_wp2_with fail
  go_loopw [8] (fun i wr => ∃ k : Nat, k ≤ n ∧ i = .int .i64 k ∧ Hid (∀ j, j < k → sameName (nd ns j).name s = false) ∧ Below w.heap.size w wr) (fun i _ => n - (intOf i).toNat)
  case atStart => exact ⟨0, by omega, rfl, Lib.hid (fun j hj => absurd hj (by omega)), Below.refl _ _⟩
  case round =>
    obtain ⟨k, hk, rfl, hq, hb⟩ := hrel
    by_cases hlt : k < n
    · obtain ⟨b, off, rfl, hbl, hc⟩ := (h.later hb).cells (by omega)
      obtain ⟨c0, c1, c2⟩ := hc k hlt
      have hg' := (hb.cell (p := ⟨g, 0, none⟩) hgl).trans hg
      clear hc
      go_wp2_with fail
      refine (nodeIndex1_any (nd ns k) _ _ _ hg').mono ?_
      rintro e w2 ⟨rfl, b2⟩
      have t2 := below_step hb b2
      rcases hs : sameName (nd ns k).name s with _ | _
      · have HQ : Hid (∀ j, j < k + 1 → sameName (nd ns j).name s = false) := Lib.hid (fun j hj => by
          rcases Nat.lt_or_ge j k with h' | h'
          · exact hq.out j h'
          · have : j = k := by omega
            subst this; exact hs)
        clear hs
        go_wp2_with fail
        go_roundw
        case rel => exact ⟨k + 1, by omega, by go_num, HQ, t2⟩
        case measure => simp [intOf]; omega
      · have HY := Lib.hid (hasName_yes (by rw [hlen.out]; exact hlt) hs)
        clear hs
        go_wp2_with fail
        go_ret
        exact ⟨_, rfl, by rw [HY.out]; simp, ⟨by omega, by omega⟩, t2⟩
    · have HN := Lib.hid (hasName_no (by rw [hlen.out]; omega) hq.out)
      go_wp2_with fail
      go_ret
      exact ⟨_, rfl, by rw [HN.out]; simp, ⟨by omega, by omega⟩, hb⟩

set_option maxHeartbeats 1000000 in
theorem nodeIndex_any (A B : Option Addr) (n c m d : Nat) (ns : List Node) (s : ByteArray) (w : World) (h : NodesAt w A n c ns) :
    Calls Try.prog 153 #[.agg #[.slice A n c, .slice B m d], .string s] w fun e w' => ∃ r : Int, e = .returned (.int .i64 r) ∧ (0 ≤ r ↔ hasName ns s = true) ∧ Below w.heap.size w w' := by
  have hmf : ∀ (fn : Fn) (first cap : Array Value) (w : World), (Instr.makeFunc fn first cap).run Try.prog w = .ok (.func fn first cap) w := fun _ _ _ _ => rfl
  have HC : Hid (((w.alloc (.cells #[.slice A n c, .slice B m d] 27)).alloc (.cells #[.string s] 9)).cell? ⟨w.heap.size + 1, 0, none⟩ = some (.string s)) := Lib.hid (by simp)
  go_enter Try.func153, Try.ntmps153
  go_wp2_with fail
  refine (IndexFunc_any _ _ _ _ _ _ _ (h.later (bel2 _ _ _)) HC.out).mono ?_
  rintro e w2 ⟨r, rfl, hr, hi, b2⟩
  have HR := Lib.hid hr
  clear hr
  obtain ⟨i0, i1⟩ := hi
  go_wp2_with fail
  go_ret
  exact ⟨r, rfl, HR.out, below_step (bel2 w _ _) b2⟩

end Go.Proofs.Ytioiebjgjimeiaa
