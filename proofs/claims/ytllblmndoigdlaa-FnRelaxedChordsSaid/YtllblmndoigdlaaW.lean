/- names, nodes -/
import Derived.Test.YtllblmndoigdlaaN3
import Derived.Test.YtllblmndoigdlaaB
import Derived.PlainAid
import Derived.Test.YtllblmndoigdlaaMem
namespace Go.Proofs.Ytllblmndoigdlaa
open Go.RowKit Go.PlainAid

/-- a letter or a digit -/
def chB (c : Int) : Bool := (decide (97 ≤ c) && decide (c ≤ 122)) || (decide (48 ≤ c) && decide (c ≤ 57))
def nameB (s : ByteArray) : Bool := decide (1 ≤ s.size) && decide (s.size ≤ 8) && (List.range s.size).all (fun j => chB (bt s j))
theorem nameB_size {s : ByteArray} (h : ¬ (1 ≤ s.size ∧ s.size ≤ 8)) : nameB s = false := by
  unfold nameB
  by_cases h1 : 1 ≤ s.size
  · have h2 : ¬ s.size ≤ 8 := fun h2 => h ⟨h1, h2⟩
    simp [h2]
  · simp [h1]
theorem nameB_no {s : ByteArray} {k : Nat} (hk : k < s.size) (h : chB (bt s k) = false) : nameB s = false := by
  unfold nameB
  have : (List.range s.size).all (fun j => chB (bt s j)) = false := by
    rw [List.all_eq_false]
    exact ⟨k, by simpa using hk, by simp [h]⟩
  rw [this, Bool.and_false]
theorem nameB_yes {s : ByteArray} {k : Nat} (hs1 : 1 ≤ s.size) (hs8 : s.size ≤ 8) (hk : s.size ≤ k) (h : ∀ j, j < k → chB (bt s j) = true) : nameB s = true := by
  unfold nameB
  have : (List.range s.size).all (fun j => chB (bt s j)) = true := by
    rw [List.all_eq_true]
    intro x hx
    exact h x (by have := List.mem_range.1 hx; omega)
  simp [this, hs1, hs8]

set_option maxHeartbeats 2000000 in
theorem isName_any (s : ByteArray) (w : World) (hs : s.size ≤ 9223372036854775807) :
    Calls Try.prog 132 #[.string s] w fun e w' => e = .returned (.bool (nameB s)) ∧ w = w' := by
  by_cases h1 : s.size < 1
  · go_enter Try.func132, Try.ntmps132
    go_wp2_with fail
    go_ret
    exact ⟨ret_bool (nameB_size (by omega)).symm, rfl⟩
  · by_cases h8 : 8 < s.size
    · go_enter Try.func132, Try.ntmps132
      go_wp2_with fail
      go_ret
      exact ⟨ret_bool (nameB_size (by omega)).symm, rfl⟩
    · go_enter Try.func132, Try.ntmps132
      go_wp2_with fail
      go_loop [3] (fun i => ∃ k : Nat, k ≤ s.size ∧ i = .int .i64 k ∧ Hid (∀ j, j < k → chB (bt s j) = true)) (fun i => s.size - (intOf i).toNat)
      case atStart => exact ⟨0, by omega, rfl, Lib.hid (fun j hj => absurd hj (by omega))⟩
      case round =>
        obtain ⟨k, hk, rfl, hq⟩ := hrel
        by_cases hlt : k < s.size
        · have hget := get_bt s
          have hstep : ∀ (_ : chB (bt s k) = true), Hid (∀ j, j < k + 1 → chB (bt s j) = true) := fun hc => Lib.hid (fun j hj => by
            rcases Nat.lt_or_ge j k with h' | h'
            · exact hq.out j h'
            · have : j = k := by omega
              subst this; exact hc)
          have HSTEP := Lib.hid hstep
          clear hstep
          by_cases a1 : 97 ≤ bt s k
          · by_cases a2 : bt s k ≤ 122
            · have hc : chB (bt s k) = true := by simp [chB, a1, a2]
              have HC := Lib.hid hc
              clear hc
              go_wp2_with fail
              go_round
              case rel => exact ⟨k + 1, by omega, by go_num, HSTEP.out HC.out⟩
              case measure => simp [intOf]; omega
            · have hc : chB (bt s k) = false := by simp [chB]; omega
              have HC := Lib.hid hc
              clear hc
              have b1 : 48 ≤ bt s k := by omega
              have b2 : ¬ bt s k ≤ 57 := by omega
              go_wp2_with fail
              go_ret
              exact ⟨ret_bool (nameB_no hlt HC.out).symm, rfl⟩
          · by_cases b1 : 48 ≤ bt s k
            · by_cases b2 : bt s k ≤ 57
              · have hc : chB (bt s k) = true := by simp [chB, b1, b2]
                have HC := Lib.hid hc
                clear hc
                go_wp2_with fail
                go_round
                case rel => exact ⟨k + 1, by omega, by go_num, HSTEP.out HC.out⟩
                case measure => simp [intOf]; omega
              · have hc : chB (bt s k) = false := by simp [chB]; omega
                have HC := Lib.hid hc
                clear hc
                go_wp2_with fail
                go_ret
                exact ⟨ret_bool (nameB_no hlt HC.out).symm, rfl⟩
            · have hc : chB (bt s k) = false := by simp [chB]; omega
              have HC := Lib.hid hc
              clear hc
              go_wp2_with fail
              go_ret
              exact ⟨ret_bool (nameB_no hlt HC.out).symm, rfl⟩
        · go_wp2_with fail
          go_ret
          exact ⟨ret_bool (nameB_yes (by omega) (by omega) (by omega) hq.out).symm, rfl⟩

set_option maxHeartbeats 2000000 in
theorem l02Name_any (s : ByteArray) (w : World) (hs : s.size ≤ 9223372036854775807) :
    Calls Try.prog 131 #[.string s] w fun e w' => e = .returned (.bool (nameB s)) ∧ w = w' := by
  go_enter Try.func131, Try.ntmps131
  go_wp2_with fail
  go_loop [3] (fun i => ∃ k : Nat, k ≤ s.size ∧ i = .int .i64 k ∧ Hid (∀ j, j < k → chB (bt s j) = true)) (fun i => s.size - (intOf i).toNat)
  case atStart => exact ⟨0, by omega, rfl, Lib.hid (fun j hj => absurd hj (by omega))⟩
  case round =>
    obtain ⟨k, hk, rfl, hq⟩ := hrel
    by_cases hlt : k < s.size
    · have hget := get_bt s
      have hstep : ∀ (_ : chB (bt s k) = true), Hid (∀ j, j < k + 1 → chB (bt s j) = true) := fun hc => Lib.hid (fun j hj => by
        rcases Nat.lt_or_ge j k with h' | h'
        · exact hq.out j h'
        · have : j = k := by omega
          subst this; exact hc)
      have HSTEP := Lib.hid hstep
      clear hstep
      by_cases a1 : 97 ≤ bt s k
      · by_cases a2 : bt s k ≤ 122
        · have hc : chB (bt s k) = true := by simp [chB, a1, a2]
          have HC := Lib.hid hc
          clear hc
          go_wp2_with fail
          go_round
          case rel => exact ⟨k + 1, by omega, by go_num, HSTEP.out HC.out⟩
          case measure => simp [intOf]; omega
        · have hc : chB (bt s k) = false := by simp [chB]; omega
          have HC := Lib.hid hc
          clear hc
          have b1 : 48 ≤ bt s k := by omega
          have b2 : ¬ bt s k ≤ 57 := by omega
          go_wp2_with fail
          go_ret
          exact ⟨ret_bool (nameB_no hlt HC.out).symm, rfl⟩
      · by_cases b1 : 48 ≤ bt s k
        · by_cases b2 : bt s k ≤ 57
          · have hc : chB (bt s k) = true := by simp [chB, b1, b2]
            have HC := Lib.hid hc
            clear hc
            go_wp2_with fail
            go_round
            case rel => exact ⟨k + 1, by omega, by go_num, HSTEP.out HC.out⟩
            case measure => simp [intOf]; omega
          · have hc : chB (bt s k) = false := by simp [chB]; omega
            have HC := Lib.hid hc
            clear hc
            go_wp2_with fail
            go_ret
            exact ⟨ret_bool (nameB_no hlt HC.out).symm, rfl⟩
        · have hc : chB (bt s k) = false := by simp [chB]; omega
          have HC := Lib.hid hc
          clear hc
          go_wp2_with fail
          go_ret
          exact ⟨ret_bool (nameB_no hlt HC.out).symm, rfl⟩
    · by_cases h1 : 1 ≤ s.size
      · by_cases h8 : s.size ≤ 8
        · go_wp2_with fail
          go_ret
          exact ⟨ret_bool (by rw [nameB_yes (by omega) (by omega) (by omega) hq.out]; simp; omega), rfl⟩
        · go_wp2_with fail
          go_ret
          exact ⟨ret_bool (by rw [nameB_size (by omega)]; simp; omega), rfl⟩
      · go_wp2_with fail
        go_ret
        exact ⟨ret_bool (nameB_size (by omega)).symm, rfl⟩

/-- is the node valid -/
def nodeB (x : Node) : Bool := nameB x.name && decide (0 ≤ x.low) && decide (x.low ≤ x.high) && decide (x.high ≤ 100000000)
theorem nodeB_yes {x : Node} (h1 : nameB x.name = true) (h2 : 0 ≤ x.low) (h3 : x.low ≤ x.high) (h4 : x.high ≤ 100000000) : nodeB x = true := by simp [nodeB, h1, h2, h3, h4]
theorem nodeB_1 {x : Node} (h : nameB x.name = false) : nodeB x = false := by simp [nodeB, h]
theorem nodeB_2 {x : Node} (h : ¬ (0 ≤ x.low ∧ x.low ≤ x.high ∧ x.high ≤ 100000000)) : nodeB x = false := by simp [nodeB]; omega

set_option maxHeartbeats 1000000 in
theorem specIsNode_any (x : Node) (w : World) (hs : x.ok) :
    Calls Try.prog 101 #[.agg #[.string x.name, .int .i64 x.low, .int .i64 x.high]] w fun e w' => e = .returned (.bool (nodeB x)) ∧ Below w.heap.size w w' := by
  have hsz := hs.2.2
  rcases h1 : nameB x.name with _ | _
  · go_enter Try.func101, Try.ntmps101
    go_wp2_with (go_at_call 131; refine (l02Name_any _ _ hsz).mono ?_; rintro e w' ⟨rfl, rfl⟩)
    go_ret
    exact ⟨ret_bool (nodeB_1 h1).symm, bel1 _ _⟩
  · by_cases h2 : 0 ≤ x.low
    · by_cases h3 : x.low ≤ x.high
      · by_cases h4 : x.high ≤ 100000000
        · go_enter Try.func101, Try.ntmps101
          go_wp2_with (go_at_call 131; refine (l02Name_any _ _ hsz).mono ?_; rintro e w' ⟨rfl, rfl⟩)
          go_ret
          exact ⟨ret_bool (nodeB_yes h1 h2 h3 h4).symm, bel1 _ _⟩
        · go_enter Try.func101, Try.ntmps101
          go_wp2_with (go_at_call 131; refine (l02Name_any _ _ hsz).mono ?_; rintro e w' ⟨rfl, rfl⟩)
          go_ret
          exact ⟨ret_bool (by rw [nodeB_2 (by omega)]; simp; omega), bel1 _ _⟩
      · go_enter Try.func101, Try.ntmps101
        go_wp2_with (go_at_call 131; refine (l02Name_any _ _ hsz).mono ?_; rintro e w' ⟨rfl, rfl⟩)
        go_ret
        exact ⟨ret_bool (nodeB_2 (by omega)).symm, bel1 _ _⟩
    · go_enter Try.func101, Try.ntmps101
      go_wp2_with (go_at_call 131; refine (l02Name_any _ _ hsz).mono ?_; rintro e w' ⟨rfl, rfl⟩)
      go_ret
      exact ⟨ret_bool (nodeB_2 (by omega)).symm, bel1 _ _⟩

set_option maxHeartbeats 1000000 in
theorem implIsNode_any (x : Node) (w : World) (hs : x.ok) :
    Calls Try.prog 106 #[.agg #[.string x.name, .int .i64 x.low, .int .i64 x.high]] w fun e w' => e = .returned (.bool (nodeB x)) ∧ Below w.heap.size w w' := by
  have hsz := hs.2.2
  rcases h1 : nameB x.name with _ | _
  · go_enter Try.func106, Try.ntmps106
    go_wp2_with (go_at_call 132; refine (isName_any _ _ hsz).mono ?_; rintro e w' ⟨rfl, rfl⟩)
    go_ret
    exact ⟨ret_bool (nodeB_1 h1).symm, bel1 _ _⟩
  · by_cases h2 : 0 ≤ x.low
    · by_cases h3 : x.low ≤ x.high
      · by_cases h4 : x.high ≤ 100000000
        · go_enter Try.func106, Try.ntmps106
          go_wp2_with (go_at_call 132; refine (isName_any _ _ hsz).mono ?_; rintro e w' ⟨rfl, rfl⟩)
          go_ret
          exact ⟨ret_bool (nodeB_yes h1 h2 h3 h4).symm, bel1 _ _⟩
        · go_enter Try.func106, Try.ntmps106
          go_wp2_with (go_at_call 132; refine (isName_any _ _ hsz).mono ?_; rintro e w' ⟨rfl, rfl⟩)
          go_ret
          exact ⟨ret_bool (by rw [nodeB_2 (by omega)]; simp; omega), bel1 _ _⟩
      · go_enter Try.func106, Try.ntmps106
        go_wp2_with (go_at_call 132; refine (isName_any _ _ hsz).mono ?_; rintro e w' ⟨rfl, rfl⟩)
        go_ret
        exact ⟨ret_bool (nodeB_2 (by omega)).symm, bel1 _ _⟩
    · go_enter Try.func106, Try.ntmps106
      go_wp2_with (go_at_call 132; refine (isName_any _ _ hsz).mono ?_; rintro e w' ⟨rfl, rfl⟩)
      go_ret
      exact ⟨ret_bool (nodeB_2 (by omega)).symm, bel1 _ _⟩

def sameName (a b : ByteArray) : Bool := a.toList == b.toList
theorem sameName_comm (a b : ByteArray) : sameName a b = sameName b a := by unfold sameName; rw [Bool.eq_iff_iff]; simp only [beq_iff_eq]; exact eq_comm
def hasName (ns : List Node) (s : ByteArray) : Bool := (List.range ns.length).any (fun j => sameName (nd ns j).name s)
theorem hasName_yes {ns : List Node} {s : ByteArray} {j : Nat} (hj : j < ns.length) (h : sameName (nd ns j).name s = true) : hasName ns s = true := by
  unfold hasName; rw [List.any_eq_true]; exact ⟨j, List.mem_range.2 hj, h⟩
theorem hasName_no {ns : List Node} {s : ByteArray} {k : Nat} (hk : ns.length ≤ k) (h : ∀ j, j < k → sameName (nd ns j).name s = false) : hasName ns s = false := by
  unfold hasName; rw [List.any_eq_false]; intro j hj; have := List.mem_range.1 hj; rw [h j (by omega)]; simp

set_option maxHeartbeats 1000000 in
theorem nodeIndex1_any (x : Node) (g : Nat) (s : ByteArray) (w : World) (hg : w.cell? ⟨g, 0, none⟩ = some (.string s)) :
    Calls Try.prog 134 #[.agg #[.string x.name, .int .i64 x.low, .int .i64 x.high], .pointer (some ⟨g, 0, none⟩)] w fun e w' => e = .returned (.bool (sameName x.name s)) ∧ Below w.heap.size w w' := by
  have hg2 := (bel1 w (.cells #[.string x.name, .int .i64 x.low, .int .i64 x.high] 92)).cell (p := ⟨g, 0, none⟩) (World.block_lt_of_cell? _ _ hg)
  rw [hg] at hg2
  go_enter Try.func134, Try.ntmps134
  go_wp2
  go_ret
  exact ⟨rfl, bel1 _ _⟩

set_option maxHeartbeats 1000000 in
theorem IndexFunc_any (A : Option Addr) (n c : Nat) (ns : List Node) (g : Nat) (s : ByteArray) (w : World) (h : NodesAt w A n c ns) (hg : w.cell? ⟨g, 0, none⟩ = some (.string s)) :
    Calls Try.prog 133 #[.slice A n c, .func (.func 134) #[] #[.pointer (some ⟨g, 0, none⟩)]] w fun e w' => ∃ r : Int, e = .returned (.int .i64 r) ∧ (0 ≤ r ↔ hasName ns s = true) ∧ I64 r ∧ Below w.heap.size w w' := by
  have hle := h.le
  have hcap := h.cap
  have hlen := Lib.hid h.len
  have hgl := World.block_lt_of_cell? _ _ hg
  go_enter Try.func133, Try.ntmps133
  go_wp2_with fail
  go_loopw [8] (fun i wr => ∃ k : Nat, k ≤ n ∧ i = .int .i64 k ∧ Hid (∀ j, j < k → sameName (nd ns j).name s = false) ∧ Below w.heap.size w wr) (fun i _ => n - (intOf i).toNat)
  case atStart => exact ⟨0, by omega, rfl, Lib.hid (fun j hj => absurd hj (by omega)), Below.refl _ _⟩
  case round =>
    obtain ⟨k, hk, rfl, hq, hb⟩ := hrel
    by_cases hlt : k < n
    · obtain ⟨b, off, rfl, hbl, hc⟩ := (h.later hb).cells (by omega)
      obtain ⟨c0, c1, c2⟩ := hc k hlt
      have hg' := (hb.cell (p := ⟨g, 0, none⟩) hgl).trans hg
      clear hc
      go_wp2_with fail
      refine (nodeIndex1_any (nd ns k) _ _ _ hg').mono ?_
      rintro e w2 ⟨rfl, b2⟩
      have t2 := below_step hb b2
      rcases hs : sameName (nd ns k).name s with _ | _
      · have HQ : Hid (∀ j, j < k + 1 → sameName (nd ns j).name s = false) := Lib.hid (fun j hj => by
          rcases Nat.lt_or_ge j k with h' | h'
          · exact hq.out j h'
          · have : j = k := by omega
            subst this; exact hs)
        clear hs
        go_wp2_with fail
        go_roundw
        case rel => exact ⟨k + 1, by omega, by go_num, HQ, t2⟩
        case measure => simp [intOf]; omega
      · have HY := Lib.hid (hasName_yes (by rw [hlen.out]; exact hlt) hs)
        clear hs
        go_wp2_with fail
        go_ret
        exact ⟨_, rfl, by rw [HY.out]; simp, ⟨by omega, by omega⟩, t2⟩
    · have HN := Lib.hid (hasName_no (by rw [hlen.out]; omega) hq.out)
      go_wp2_with fail
      go_ret
      exact ⟨_, rfl, by rw [HN.out]; simp, ⟨by omega, by omega⟩, hb⟩

set_option maxHeartbeats 1000000 in
theorem nodeIndex_any (A B : Option Addr) (n c m d : Nat) (ns : List Node) (s : ByteArray) (w : World) (h : NodesAt w A n c ns) :
    Calls Try.prog 107 #[.agg #[.slice A n c, .slice B m d], .string s] w fun e w' => ∃ r : Int, e = .returned (.int .i64 r) ∧ (0 ≤ r ↔ hasName ns s = true) ∧ Below w.heap.size w w' := by
  have hmf : ∀ (fn : Fn) (first cap : Array Value) (w : World), (Instr.makeFunc fn first cap).run Try.prog w = .ok (.func fn first cap) w := fun _ _ _ _ => rfl
  have HC : Hid (((w.alloc (.cells #[.slice A n c, .slice B m d] 27)).alloc (.cells #[.string s] 9)).cell? ⟨w.heap.size + 1, 0, none⟩ = some (.string s)) := Lib.hid (by simp)
  go_enter Try.func107, Try.ntmps107
  go_wp2_with fail
  refine (IndexFunc_any _ _ _ _ _ _ _ (h.later (bel2 _ _ _)) HC.out).mono ?_
  rintro e w2 ⟨r, rfl, hr, hi, b2⟩
  have HR := Lib.hid hr
  clear hr
  obtain ⟨i0, i1⟩ := hi
  go_wp2_with fail
  go_ret
  exact ⟨r, rfl, HR.out, below_step (bel2 w _ _) b2⟩

end Go.Proofs.Ytllblmndoigdlaa

/- IsNetwork -/
namespace Go.Proofs.Ytllblmndoigdlaa
open Go.RowKit

def pipeB (p : Pipe) (n : Int) : Bool := inB p.fr 0 (n - 1) && inB p.to 0 (n - 1) && (p.fr != p.to) && inB p.k 1 1000 && inB p.vol 0 1000000 && inB p.lim 1 30000
def nodeOkB (ns : List Node) (i : Nat) : Bool := nodeB (nd ns i) && !hasName (ns.take i) (nd ns i).name
/-- is the network valid -/
def netB (net : Net) : Bool := (decide (1 ≤ net.nodes.length) && decide (net.nodes.length ≤ 24) && decide (net.pipes.length ≤ 40)) && ((List.range net.nodes.length).all (nodeOkB net.nodes) && (List.range net.pipes.length).all (fun j => pipeB (pp net.pipes j) net.nodes.length))

theorem netB_size {net : Net} (h : ¬ (1 ≤ net.nodes.length ∧ net.nodes.length ≤ 24 ∧ net.pipes.length ≤ 40)) : netB net = false := by
  unfold netB
  have : (decide (1 ≤ net.nodes.length) && decide (net.nodes.length ≤ 24) && decide (net.pipes.length ≤ 40)) = false := by
    rw [Bool.eq_false_iff]; intro h'; simp at h'; exact h ⟨by omega, by omega, by omega⟩
  rw [this, Bool.false_and]
theorem netB_node {net : Net} {i : Nat} (hi : i < net.nodes.length) (h : nodeOkB net.nodes i = false) : netB net = false := by
  unfold netB
  have : (List.range net.nodes.length).all (nodeOkB net.nodes) = false := by rw [List.all_eq_false]; exact ⟨i, List.mem_range.2 hi, by simp [h]⟩
  rw [this, Bool.false_and, Bool.and_false]
theorem netB_pipe {net : Net} {i : Nat} (hi : i < net.pipes.length) (h : pipeB (pp net.pipes i) net.nodes.length = false) : netB net = false := by
  unfold netB
  have : (List.range net.pipes.length).all (fun j => pipeB (pp net.pipes j) net.nodes.length) = false := by rw [List.all_eq_false]; exact ⟨i, List.mem_range.2 hi, by simp [h]⟩
  rw [this, Bool.and_false, Bool.and_false]
theorem netB_yes {net : Net} {k m : Nat} (h1 : 1 ≤ net.nodes.length) (h2 : net.nodes.length ≤ 24) (h3 : net.pipes.length ≤ 40) (hk : net.nodes.length ≤ k) (hn : ∀ j, j < k → nodeOkB net.nodes j = true)
    (hm : net.pipes.length ≤ m) (hp : ∀ j, j < m → pipeB (pp net.pipes j) net.nodes.length = true) : netB net = true := by
  unfold netB
  have a : (List.range net.nodes.length).all (nodeOkB net.nodes) = true := by rw [List.all_eq_true]; intro x hx; exact hn x (by have := List.mem_range.1 hx; omega)
  have b : (List.range net.pipes.length).all (fun j => pipeB (pp net.pipes j) net.nodes.length) = true := by rw [List.all_eq_true]; intro x hx; exact hp x (by have := List.mem_range.1 hx; omega)
  rw [a, b]; simp [h1, h2, h3]

set_option maxHeartbeats 1000000 in
theorem isNodeOf_any (A B : Option Addr) (n c m d : Nat) (x : Int) (w : World) (hn : n ≤ 9223372036854775807) :
    Calls Try.prog 108 #[.agg #[.slice A n c, .slice B m d], .int .i64 x] w fun e w' => e = .returned (.bool (inB x 0 ((n : Int) - 1))) ∧ Below w.heap.size w w' := by
  go_enter Try.func108, Try.ntmps108
  go_wp2_with (go_at_call 76; refine (within_any _ _ _ _).mono ?_; rintro e w' ⟨rfl, rfl⟩)
  go_ret
  exact ⟨rfl, bel1 _ _⟩

theorem isNodeOf_is (A B : Option Addr) (n c m d : Nat) (x : Int) (b : Bool) (w : World) (hn : n ≤ 9223372036854775807) (hb : inB x 0 ((n : Int) - 1) = b) :
    Calls Try.prog 108 #[.agg #[.slice A n c, .slice B m d], .int .i64 x] w fun e w' => e = .returned (.bool b) ∧ Below w.heap.size w w' :=
  (isNodeOf_any A B n c m d x w hn).mono fun _ _ ⟨h1, h2⟩ => ⟨h1.trans (by rw [hb]), h2⟩
theorem within_is (n lo hi : Int) (b : Bool) (w : World) (hb : inB n lo hi = b) :
    Calls Try.prog 76 #[.int .i64 n, .int .i64 lo, .int .i64 hi] w fun e w' => e = .returned (.bool b) ∧ w = w' :=
  (within_any n lo hi w).mono fun _ _ ⟨h1, h2⟩ => ⟨h1.trans (by rw [hb]), h2⟩
theorem pipeB_yes {p : Pipe} {n : Int} (h1 : inB p.fr 0 (n - 1) = true) (h2 : inB p.to 0 (n - 1) = true) (h3 : (p.fr == p.to) = false) (h4 : inB p.k 1 1000 = true) (h5 : inB p.vol 0 1000000 = true) (h6 : inB p.lim 1 30000 = true) : pipeB p n = true := by
  unfold pipeB bne; rw [h1, h2, h3, h4, h5, h6]; rfl
theorem pipeB_no {p : Pipe} {n : Int} (h : inB p.fr 0 (n - 1) = false ∨ inB p.to 0 (n - 1) = false ∨ (p.fr == p.to) = true ∨ inB p.k 1 1000 = false ∨ inB p.vol 0 1000000 = false ∨ inB p.lim 1 30000 = false) : pipeB p n = false := by
  unfold pipeB bne
  rcases h with h | h | h | h | h | h <;> rw [h] <;> simp

theorem implIsNode_is (x : Node) (b : Bool) (w : World) (hs : x.ok) (hb : nodeB x = b) :
    Calls Try.prog 106 #[.agg #[.string x.name, .int .i64 x.low, .int .i64 x.high]] w fun e w' => e = .returned (.bool b) ∧ Below w.heap.size w w' :=
  (implIsNode_any x w hs).mono fun _ _ ⟨h1, h2⟩ => ⟨h1.trans (by rw [hb]), h2⟩

set_option maxHeartbeats 2000000 in
theorem implIsNetwork_any (A B : Option Addr) (n c m d : Nat) (net : Net) (w : World) (h : NetAt w A n c B m d net) :
    Calls Try.prog 52 #[.agg #[.slice A n c, .slice B m d]] w fun e w' => e = .returned (.bool (netB net)) ∧ Below w.heap.size w w' := by
  have hln := h.nodes.len
  have hlp := h.pipes.len
  have hcn := h.nodes.cap
  have hcp := h.pipes.cap
  have hnl := h.nodes.le
  have hpl := h.pipes.le
  rcases hin : inB n 1 24 with _ | _
  · have hf : netB net = false := netB_size (by rw [hln, hlp]; intro h'; have := inB_iff'.2 (show (1:Int) ≤ n ∧ (n:Int) ≤ 24 by omega); rw [this] at hin; cases hin)
    have HF := Lib.hid hf
    clear hf hln hlp
    go_enter Try.func52, Try.ntmps52
    go_wp2_with (go_at_call 76; refine (within_any _ _ _ _).mono ?_; rintro e w' ⟨rfl, rfl⟩)
    go_ret
    exact ⟨ret_bool HF.out.symm, bel1 _ _⟩
  · obtain ⟨n1, n24⟩ := inB_iff'.1 hin
    by_cases hm40 : 40 < m
    · have hf : netB net = false := netB_size (by rw [hln, hlp]; omega)
      have HF := Lib.hid hf
      clear hf hln hlp
      go_enter Try.func52, Try.ntmps52
      go_wp2_with (go_at_call 76; refine (within_any _ _ _ _).mono ?_; rintro e w' ⟨rfl, rfl⟩)
      go_ret
      exact ⟨ret_bool HF.out.symm, bel1 _ _⟩
    · have HLN := Lib.hid hln
      have HLP := Lib.hid hlp
      have hm40' : decide (40 < (m : Int)) = false := by simp; omega
      clear hln hlp
      go_enter Try.func52, Try.ntmps52
      go_wp2_with (go_at_call 76; refine (within_any _ _ _ _).mono ?_; rintro e w' ⟨rfl, rfl⟩)
      go_loopw [21] (fun i wr => ∃ k : Nat, k ≤ n ∧ i = .int .i64 k ∧ Hid (∀ j, j < k → nodeOkB net.nodes j = true) ∧ Below w.heap.size w wr ∧ Hid (wr.heap[w.heap.size]? = some (.cells #[.slice A n c, .slice B m d] 27 (0, 0)))) (fun i _ => n - (intOf i).toNat)
      case atStart => exact ⟨0, by omega, rfl, Lib.hid (fun j hj => absurd hj (by omega)), bel1 _ _, Lib.hid (heap_alloc_new w _)⟩
      case round =>
        obtain ⟨k, hk, rfl, hq, hb, hg⟩ := hrel
        have kc0 := cell_blk hg.out 0
        have kc1 := cell_blk hg.out 1
        simp at kc0 kc1
        have hbs := hb.size
        have hgl := (Array.getElem?_eq_some_iff.1 hg.out).1
        by_cases hlt : k < n
        · obtain ⟨b, off, rfl, hbl, hc⟩ := (h.nodes.later hb).cells (by omega)
          obtain ⟨c0, c1, c2⟩ := hc k hlt
          have hok := nd_ok h.nodes.ok k
          clear hc
          rcases hnb : nodeB (nd net.nodes k) with _ | _
          · have HF := Lib.hid (netB_node (net := net) (i := k) (by rw [HLN.out]; exact hlt) (by simp [nodeOkB, hnb]))
            go_wp2_with fail
            refine wp_region_stage_q 4 11 (by kernel_rfl) (by kernel_rfl) ?_
            simp only [List.take_succ_cons, List.take_zero, List.drop_succ_cons, List.drop_zero]
            intro K HK
            go_wp2_with (go_at_call 106; refine (implIsNode_is (nd net.nodes k) false _ hok hnb).mono ?_; rintro e w2 ⟨rfl, b2⟩)
            refine HK.out _ _ ?_
            clear HK K
            repeat (go_big_quiet_step (fail))
            refine wpQuiet_nil ?_
            go_wp2_with fail
            go_ret
            exact ⟨ret_bool HF.out.symm, below_step (hb.alloc hbs _) ((Below.refl _ _).drew.trans b2)⟩
          · have hsub := (h.nodes.later hb).sub (k := k) (by omega)
            have HSUB := Lib.hid hsub
            clear hsub
            have hkc : k ≤ c := by omega
            have hbw : b < w.heap.size := by obtain ⟨b', off', e, hb', _⟩ := h.nodes.cells (by omega); injection e with e; injection e with e; omega
            go_wp2_with fail
            refine wp_region_stage_q 4 11 (by kernel_rfl) (by kernel_rfl) ?_
            simp only [List.take_succ_cons, List.take_zero, List.drop_succ_cons, List.drop_zero]
            intro K HK
            go_wp2_with (go_at_call 106; refine (implIsNode_is (nd net.nodes k) true _ hok hnb).mono ?_; rintro e w2 ⟨rfl, b2⟩)
            refine HK.out _ _ ?_
            clear HK K
            have b2' : Below (wr.alloc (.cells #[.string (nd net.nodes k).name, .int .i64 (nd net.nodes k).low, .int .i64 (nd net.nodes k).high] 92)).heap.size (wr.alloc (.cells #[.string (nd net.nodes k).name, .int .i64 (nd net.nodes k).low, .int .i64 (nd net.nodes k).high] 92)) w2 := (Below.refl _ _).drew.trans b2
            have g2 := (b2'.block wr.heap.size (by simp)).trans (heap_alloc_new wr _)
            have x0 := cell_blk g2 0
            have t2 := below_step (hb.alloc hbs _) b2'
            have hg2 := (b2'.block w.heap.size (by simp; omega)).trans ((Below.heap_alloc wr _ _ hgl).trans hg.out)
            have y0 := cell_blk hg2 0
            simp at x0 y0
            have HG2 := Lib.hid hg2
            have hn2 := HSUB.out.later (below_step (bel1 wr _) b2')
            have hs2 := t2.size
            have hs2' := b2'.size
            simp at hs2'
            clear hg2 g2 b2 b2' kc0 kc1 c0 c1 c2
            repeat (go_big_quiet_step (fail))
            refine wpQuiet_nil ?_
            go_wp2_with fail
            refine (nodeIndex_any _ _ _ _ _ _ _ _ _ hn2).mono ?_
            rintro e w3 ⟨r, rfl, hr, b3⟩
            have t3 := below_step t2 b3
            have HG3 := Lib.hid ((b3.block w.heap.size (by omega)).trans HG2.out)
            rcases hh : hasName (net.nodes.take k) (nd net.nodes k).name with _ | _
            · have hr' : r < 0 := by
                rcases Int.lt_or_le r 0 with h' | h'
                · exact h'
                · rw [hr.1 h'] at hh; cases hh
              have HQ : Hid (∀ j, j < k + 1 → nodeOkB net.nodes j = true) := Lib.hid (fun j hj => by
                rcases Nat.lt_or_ge j k with h' | h'
                · exact hq.out j h'
                · have : j = k := by omega
                  subst this; simp [nodeOkB, hnb, hh])
              clear hh hr
              go_wp2_with fail
              go_roundw
              case rel => exact ⟨k + 1, by omega, by go_num, HQ, t3, HG3⟩
              case measure => simp [intOf]; omega
            · have hr' : 0 ≤ r := hr.2 hh
              have HF := Lib.hid (netB_node (net := net) (i := k) (by rw [HLN.out]; exact hlt) (by simp [nodeOkB, hnb, hh]))
              clear hh hr
              go_wp2_with fail
              go_ret
              exact ⟨ret_bool HF.out.symm, t3⟩
        · have hkn : k = n := by omega
          subst hkn
          go_wp2_with fail
          go_loopw [44] (fun i wr => ∃ q : Nat, q ≤ m ∧ i = .int .i64 q ∧ Hid (∀ j, j < q → pipeB (pp net.pipes j) net.nodes.length = true) ∧ Below w.heap.size w wr ∧ Hid (wr.heap[w.heap.size]? = some (.cells #[.slice A k c, .slice B m d] 27 (0, 0)))) (fun i _ => m - (intOf i).toNat)
          case atStart => exact ⟨0, by omega, rfl, Lib.hid (fun j hj => absurd hj (by omega)), hb, hg⟩
          case round =>
            clear kc0 kc1 hgl hbs hb hg
            obtain ⟨q, hqm, rfl, hp, hb, hg⟩ := hrel
            have kc0 := cell_blk hg.out 0
            have kc1 := cell_blk hg.out 1
            simp at kc0 kc1
            have hbs := hb.size
            have hgl := (Array.getElem?_eq_some_iff.1 hg.out).1
            by_cases hlt2 : q < m
            · obtain ⟨b, off, rfl, hbl, hc⟩ := (h.pipes.later hb).cells (by omega)
              obtain ⟨c0, c1, c2, c3, c4⟩ := hc q hlt2
              clear hc
              have HPB : Hid (pipeB (pp net.pipes q) net.nodes.length = pipeB (pp net.pipes q) k) := by rw [HLN.out]; rfl
              have hln : k ≤ 9223372036854775807 := by omega
              have fin : pipeB (pp net.pipes q) k = false → netB net = false := fun hf => netB_pipe (i := q) (by rw [HLP.out]; exact hlt2) (by rw [HPB.out]; exact hf)
              have FIN := Lib.hid fin
              clear fin
              have tw := hb.alloc hbs (.cells #[.int .i64 (pp net.pipes q).fr, .int .i64 (pp net.pipes q).to, .int .i64 (pp net.pipes q).k, .int .i64 (pp net.pipes q).vol, .int .i64 (pp net.pipes q).lim] 76)
              have HGW := Lib.hid ((Below.heap_alloc wr (.cells #[.int .i64 (pp net.pipes q).fr, .int .i64 (pp net.pipes q).to, .int .i64 (pp net.pipes q).k, .int .i64 (pp net.pipes q).vol, .int .i64 (pp net.pipes q).lim] 76) _ hgl).trans hg.out)
              have HXW := Lib.hid (heap_alloc_new wr (.cells #[.int .i64 (pp net.pipes q).fr, .int .i64 (pp net.pipes q).to, .int .i64 (pp net.pipes q).k, .int .i64 (pp net.pipes q).vol, .int .i64 (pp net.pipes q).lim] 76))
              have hsw : (wr.alloc (.cells #[.int .i64 (pp net.pipes q).fr, .int .i64 (pp net.pipes q).to, .int .i64 (pp net.pipes q).k, .int .i64 (pp net.pipes q).vol, .int .i64 (pp net.pipes q).lim] 76)).heap.size = wr.heap.size + 1 := by simp
              have HSW := Lib.hid hsw
              clear hsw
              go_wp2_with fail
              rcases e1 : inB (pp net.pipes q).fr 0 ((k : Int) - 1) with _ | _
              · refine (isNodeOf_is _ _ _ _ _ _ _ false _ hln e1).mono ?_
                rintro e w2 ⟨rfl, b2⟩
                have t2 := below_step tw b2
                have HF := Lib.hid (FIN.out (pipeB_no (.inl e1)))
                go_wp2_with fail
                go_ret
                exact ⟨ret_bool HF.out.symm, t2⟩
              · refine (isNodeOf_is _ _ _ _ _ _ _ true _ hln e1).mono ?_
                rintro e w2 ⟨rfl, b2⟩
                have t2 := below_step tw b2
                have g2 := (b2.block w.heap.size (by rw [HSW.out]; omega)).trans HGW.out
                have x2 := (b2.block wr.heap.size (by rw [HSW.out]; omega)).trans HXW.out
                have hs2 := b2.size
                rw [HSW.out] at hs2
                have ya := cell_blk g2 0
                have yb := cell_blk g2 1
                have y1 := cell_blk x2 1
                simp at ya yb y1
                have G2 := Lib.hid g2
                have X2 := Lib.hid x2
                clear g2 x2 b2 kc0 kc1 c0 c1 c2 c3 c4 tw
                go_wp2_with fail
                rcases e2 : inB (pp net.pipes q).to 0 ((k : Int) - 1) with _ | _
                · refine (isNodeOf_is _ _ _ _ _ _ _ false _ hln e2).mono ?_
                  rintro e w3 ⟨rfl, b3⟩
                  have HF := Lib.hid (FIN.out (pipeB_no (.inr (.inl e2))))
                  have t3 := below_step t2 b3
                  go_wp2_with fail
                  go_ret
                  exact ⟨ret_bool HF.out.symm, t3⟩
                · refine (isNodeOf_is _ _ _ _ _ _ _ true _ hln e2).mono ?_
                  rintro e w3 ⟨rfl, b3⟩
                  have t3 := below_step t2 b3
                  have g3 := (b3.block w.heap.size (by omega)).trans G2.out
                  have x3 := (b3.block wr.heap.size (by omega)).trans X2.out
                  have z0 := cell_blk x3 0
                  have z1 := cell_blk x3 1
                  have z2 := cell_blk x3 2
                  have z3 := cell_blk x3 3
                  have z4 := cell_blk x3 4
                  simp at z0 z1 z2 z3 z4
                  have G3 := Lib.hid g3
                  clear g3 x3 b3 G2 X2 ya yb y1
                  rcases e3 : ((pp net.pipes q).fr == (pp net.pipes q).to) with _ | _
                  · rcases e4 : inB (pp net.pipes q).k 1 1000 with _ | _
                    · have HF := Lib.hid (FIN.out (pipeB_no (.inr (.inr (.inr (.inl e4))))))
                      go_wp2_with (go_at_call 76; refine (within_is _ _ _ _ _ e4).mono ?_; rintro e w' ⟨rfl, rfl⟩)
                      go_ret
                      exact ⟨ret_bool HF.out.symm, t3⟩
                    · rcases e5 : inB (pp net.pipes q).vol 0 1000000 with _ | _
                      · have HF := Lib.hid (FIN.out (pipeB_no (.inr (.inr (.inr (.inr (.inl e5)))))))
                        go_wp2_with fail
                        refine (within_is _ _ _ _ _ e4).mono ?_
                        rintro e w' ⟨rfl, rfl⟩
                        go_wp2_with fail
                        refine (within_is _ _ _ _ _ e5).mono ?_
                        rintro e w' ⟨rfl, rfl⟩
                        go_wp2_with fail
                        go_ret
                        exact ⟨ret_bool HF.out.symm, t3⟩
                      · rcases e6 : inB (pp net.pipes q).lim 1 30000 with _ | _
                        · have HF := Lib.hid (FIN.out (pipeB_no (.inr (.inr (.inr (.inr (.inr e6)))))))
                          go_wp2_with fail
                          refine (within_is _ _ _ _ _ e4).mono ?_
                          rintro e w' ⟨rfl, rfl⟩
                          go_wp2_with fail
                          refine (within_is _ _ _ _ _ e5).mono ?_
                          rintro e w' ⟨rfl, rfl⟩
                          go_wp2_with fail
                          refine (within_is _ _ _ _ _ e6).mono ?_
                          rintro e w' ⟨rfl, rfl⟩
                          go_wp2_with fail
                          go_ret
                          exact ⟨ret_bool HF.out.symm, t3⟩
                        · have HP : Hid (∀ j, j < q + 1 → pipeB (pp net.pipes j) net.nodes.length = true) := Lib.hid (fun j hj => by
                            rcases Nat.lt_or_ge j q with h' | h'
                            · exact hp.out j h'
                            · have : j = q := by omega
                              subst this; rw [HPB.out]; exact pipeB_yes e1 e2 e3 e4 e5 e6)
                          go_wp2_with fail
                          refine (within_is _ _ _ _ _ e4).mono ?_
                          rintro e w' ⟨rfl, rfl⟩
                          go_wp2_with fail
                          refine (within_is _ _ _ _ _ e5).mono ?_
                          rintro e w' ⟨rfl, rfl⟩
                          go_wp2_with fail
                          refine (within_is _ _ _ _ _ e6).mono ?_
                          rintro e w' ⟨rfl, rfl⟩
                          go_wp2_with fail
                          go_roundw
                          case rel => exact ⟨q + 1, by omega, by go_num, HP, t3, G3⟩
                          case measure => simp [intOf]; omega
                  · have HF := Lib.hid (FIN.out (pipeB_no (.inr (.inr (.inl e3)))))
                    go_wp2_with fail
                    go_ret
                    exact ⟨ret_bool HF.out.symm, t3⟩
            · have HY := Lib.hid (netB_yes (net := net) (by rw [HLN.out]; omega) (by rw [HLN.out]; omega) (by rw [HLP.out]; omega) (by rw [HLN.out]; exact Nat.le_refl _) hq.out (by rw [HLP.out]; omega) hp.out)
              go_wp2_with fail
              go_ret
              exact ⟨ret_bool HY.out.symm, hb⟩

end Go.Proofs.Ytllblmndoigdlaa

/- IsNetwork of the reference -/
namespace Go.Proofs.Ytllblmndoigdlaa
open Go.RowKit

theorem l01In_is (n lo hi : Int) (b : Bool) (w : World) (hb : inB n lo hi = b) :
    Calls Try.prog 119 #[.int .i64 n, .int .i64 lo, .int .i64 hi] w fun e w' => e = .returned (.bool b) ∧ w = w' :=
  (l01In_any n lo hi w).mono fun _ _ ⟨h1, h2⟩ => ⟨h1.trans (by rw [hb]), h2⟩

set_option maxHeartbeats 2000000 in
theorem l02Pipe_any (p : Pipe) (n : Nat) (w : World) (hn : n ≤ 9223372036854775807) :
    Calls Try.prog 102 #[.agg #[.int .i64 p.fr, .int .i64 p.to, .int .i64 p.k, .int .i64 p.vol, .int .i64 p.lim], .int .i64 (n : Int)] w fun e w' => e = .returned (.bool (pipeB p n)) ∧ Below w.heap.size w w' := by
  rcases e1 : inB p.fr 0 ((n : Int) - 1) with _ | _
  · have HF := Lib.hid (pipeB_no (p := p) (n := n) (.inl e1))
    go_enter Try.func102, Try.ntmps102
    go_wp2_with fail
    refine (l01In_is _ _ _ _ _ e1).mono ?_
    rintro e w' ⟨rfl, rfl⟩
    go_wp2_with fail
    go_ret
    exact ⟨ret_bool HF.out.symm, bel1 _ _⟩
  · rcases e2 : inB p.to 0 ((n : Int) - 1) with _ | _
    · have HF := Lib.hid (pipeB_no (p := p) (n := n) (.inr (.inl e2)))
      go_enter Try.func102, Try.ntmps102
      go_wp2_with fail
      refine (l01In_is _ _ _ _ _ e1).mono ?_
      rintro e w' ⟨rfl, rfl⟩
      go_wp2_with fail
      refine (l01In_is _ _ _ _ _ e2).mono ?_
      rintro e w' ⟨rfl, rfl⟩
      go_wp2_with fail
      go_ret
      exact ⟨ret_bool HF.out.symm, bel1 _ _⟩
    · rcases e3 : (p.fr == p.to) with _ | _
      · have e3' : (p.fr != p.to) = true := by unfold bne; rw [e3]; rfl
        rcases e4 : inB p.k 1 1000 with _ | _
        · have HF := Lib.hid (pipeB_no (p := p) (n := n) (.inr (.inr (.inr (.inl e4)))))
          go_enter Try.func102, Try.ntmps102
          go_wp2_with fail
          refine (l01In_is _ _ _ _ _ e1).mono ?_
          rintro e w' ⟨rfl, rfl⟩
          go_wp2_with fail
          refine (l01In_is _ _ _ _ _ e2).mono ?_
          rintro e w' ⟨rfl, rfl⟩
          go_wp2_with fail
          refine (l01In_is _ _ _ _ _ e4).mono ?_
          rintro e w' ⟨rfl, rfl⟩
          go_wp2_with fail
          go_ret
          exact ⟨ret_bool HF.out.symm, bel1 _ _⟩
        · rcases e5 : inB p.vol 0 1000000 with _ | _
          · have HF := Lib.hid (pipeB_no (p := p) (n := n) (.inr (.inr (.inr (.inr (.inl e5))))))
            go_enter Try.func102, Try.ntmps102
            go_wp2_with fail
            refine (l01In_is _ _ _ _ _ e1).mono ?_
            rintro e w' ⟨rfl, rfl⟩
            go_wp2_with fail
            refine (l01In_is _ _ _ _ _ e2).mono ?_
            rintro e w' ⟨rfl, rfl⟩
            go_wp2_with fail
            refine (l01In_is _ _ _ _ _ e4).mono ?_
            rintro e w' ⟨rfl, rfl⟩
            go_wp2_with fail
            refine (l01In_is _ _ _ _ _ e5).mono ?_
            rintro e w' ⟨rfl, rfl⟩
            go_wp2_with fail
            go_ret
            exact ⟨ret_bool HF.out.symm, bel1 _ _⟩
          · obtain ⟨b6, e6⟩ : ∃ b, inB p.lim 1 30000 = b := ⟨_, rfl⟩
            have HF : Hid (pipeB p n = b6) := by
              cases b6
              · exact pipeB_no (.inr (.inr (.inr (.inr (.inr e6)))))
              · exact pipeB_yes e1 e2 e3 e4 e5 e6
            go_enter Try.func102, Try.ntmps102
            go_wp2_with fail
            refine (l01In_is _ _ _ _ _ e1).mono ?_
            rintro e w' ⟨rfl, rfl⟩
            go_wp2_with fail
            refine (l01In_is _ _ _ _ _ e2).mono ?_
            rintro e w' ⟨rfl, rfl⟩
            go_wp2_with fail
            refine (l01In_is _ _ _ _ _ e4).mono ?_
            rintro e w' ⟨rfl, rfl⟩
            go_wp2_with fail
            refine (l01In_is _ _ _ _ _ e5).mono ?_
            rintro e w' ⟨rfl, rfl⟩
            go_wp2_with fail
            refine (l01In_is _ _ _ _ _ e6).mono ?_
            rintro e w' ⟨rfl, rfl⟩
            go_wp2_with fail
            go_ret
            exact ⟨ret_bool HF.out.symm, bel1 _ _⟩
      · have e3' : (p.fr != p.to) = false := by unfold bne; rw [e3]; rfl
        have HF := Lib.hid (pipeB_no (p := p) (n := n) (.inr (.inr (.inl e3))))
        go_enter Try.func102, Try.ntmps102
        go_wp2_with fail
        refine (l01In_is _ _ _ _ _ e1).mono ?_
        rintro e w' ⟨rfl, rfl⟩
        go_wp2_with fail
        refine (l01In_is _ _ _ _ _ e2).mono ?_
        rintro e w' ⟨rfl, rfl⟩
        go_wp2_with fail
        go_ret
        exact ⟨ret_bool HF.out.symm, bel1 _ _⟩

theorem specIsNode_is (x : Node) (b : Bool) (w : World) (hs : x.ok) (hb : nodeB x = b) :
    Calls Try.prog 101 #[.agg #[.string x.name, .int .i64 x.low, .int .i64 x.high]] w fun e w' => e = .returned (.bool b) ∧ Below w.heap.size w w' :=
  (specIsNode_any x w hs).mono fun _ _ ⟨h1, h2⟩ => ⟨h1.trans (by rw [hb]), h2⟩
theorem l02Pipe_is (p : Pipe) (n : Nat) (b : Bool) (w : World) (hn : n ≤ 9223372036854775807) (hb : pipeB p n = b) :
    Calls Try.prog 102 #[.agg #[.int .i64 p.fr, .int .i64 p.to, .int .i64 p.k, .int .i64 p.vol, .int .i64 p.lim], .int .i64 (n : Int)] w fun e w' => e = .returned (.bool b) ∧ Below w.heap.size w w' :=
  (l02Pipe_any p n w hn).mono fun _ _ ⟨h1, h2⟩ => ⟨h1.trans (by rw [hb]), h2⟩

theorem nd_take {ns : List Node} {k j : Nat} (h : j < k) : nd (ns.take k) j = nd ns j := by
  unfold nd; rw [List.getD_eq_getElem?_getD, List.getElem?_take_of_lt h, List.getD_eq_getElem?_getD]
theorem hasName_take_yes {ns : List Node} {k j : Nat} (hk : k < ns.length) (hj : j < k) (h : sameName (nd ns k).name (nd ns j).name = true) : hasName (ns.take k) (nd ns k).name = true :=
  hasName_yes (j := j) (by rw [List.length_take]; omega) (by rw [nd_take hj, sameName_comm]; exact h)
theorem hasName_take_no {ns : List Node} {k : Nat} (hk : k < ns.length) (h : ∀ j, j < k → sameName (nd ns k).name (nd ns j).name = false) : hasName (ns.take k) (nd ns k).name = false :=
  hasName_no (k := k) (by rw [List.length_take]; omega) (fun j hj => by rw [nd_take hj, sameName_comm]; exact h j hj)

set_option maxRecDepth 100000 in
set_option maxHeartbeats 2000000 in
theorem specIsNetwork_any (A B : Option Addr) (n c m d : Nat) (net : Net) (w : World) (h : NetAt w A n c B m d net) :
    Calls Try.prog 47 #[.agg #[.slice A n c, .slice B m d]] w fun e w' => e = .returned (.bool (netB net)) ∧ Below w.heap.size w w' := by
  have hln := h.nodes.len
  have hlp := h.pipes.len
  have hcn := h.nodes.cap
  have hcp := h.pipes.cap
  have hnl := h.nodes.le
  have hpl := h.pipes.le
  by_cases hsz : 1 ≤ n ∧ n ≤ 24 ∧ m ≤ 40
  · obtain ⟨n1, n24, m40⟩ := hsz
    have q1 : decide ((n : Int) < 1) = false := by simp; omega
    have q2 : decide (24 < (n : Int)) = false := by simp; omega
    have q3 : decide (40 < (m : Int)) = false := by simp; omega
    have HLN := Lib.hid hln
    have HLP := Lib.hid hlp
    clear hln hlp
    go_enter Try.func47, Try.ntmps47
    go_wp2_with fail
    go_loopw [3, 4] (fun i _ wr => ∃ k : Nat, k ≤ n ∧ i = .int .i64 k ∧ Hid (∀ j, j < k → nodeOkB net.nodes j = true) ∧ Below w.heap.size w wr ∧ Hid (wr.heap[w.heap.size]? = some (.cells #[.slice A n c, .slice B m d] 27 (0, 0)))) (fun i _ _ => n - (intOf i).toNat)
    case atStart => exact ⟨0, by omega, rfl, Lib.hid (fun j hj => absurd hj (by omega)), bel1 _ _, Lib.hid (heap_alloc_new w _)⟩
    case round =>
      obtain ⟨k, hk, rfl, hq, hb, hg⟩ := hrel
      have kc0 := cell_blk hg.out 0
      have kc1 := cell_blk hg.out 1
      simp at kc0 kc1
      have hgl := (Array.getElem?_eq_some_iff.1 hg.out).1
      by_cases hlt : k < n
      · obtain ⟨b, off, rfl, hbl, hc⟩ := (h.nodes.later hb).cells (by omega)
        obtain ⟨c0, c1, c2⟩ := hc k hlt
        have hok := nd_ok h.nodes.ok k
        clear hc
        have hkl : k < net.nodes.length := by rw [HLN.out]; exact hlt
        have HKL := Lib.hid hkl
        clear hkl
        go_wp2_with fail
        rcases hnb : nodeB (nd net.nodes k) with _ | _
        · refine (specIsNode_is _ _ _ hok hnb).mono ?_
          rintro e w2 ⟨rfl, b2⟩
          have t2 := below_step hb b2
          have HF := Lib.hid (netB_node (net := net) (i := k) HKL.out (by simp [nodeOkB, hnb]))
          go_wp2_with fail
          go_ret
          exact ⟨ret_bool HF.out.symm, t2⟩
        · refine (specIsNode_is _ _ _ hok hnb).mono ?_
          rintro e w2 ⟨rfl, b2⟩
          have t2 := below_step hb b2
          have HG2 := Lib.hid ((b2.block w.heap.size (by omega)).trans hg.out)
          clear kc0 kc1 c0 c1 c2
          go_wp2_with fail
          obtain ⟨w0, hw0⟩ : ∃ w0, w0 = w2 := ⟨_, rfl⟩
          subst hw0
          go_loopw [4] (fun i wr => ∃ q : Nat, q ≤ k ∧ i = .int .i64 q ∧ Hid (∀ j, j < q → sameName (nd net.nodes k).name (nd net.nodes j).name = false) ∧ Below w.heap.size w wr ∧ Hid (wr.heap[w.heap.size]? = some (.cells #[.slice (some ⟨b, off, none⟩) n c, .slice B m d] 27 (0, 0)))) (fun i _ => k - (intOf i).toNat)
          case atStart => exact ⟨0, by omega, rfl, Lib.hid (fun j hj => absurd hj (by omega)), t2, HG2⟩
          case round =>
            clear t2 HG2
            obtain ⟨q, hqk, rfl, hs, hb3, hg3⟩ := hrel
            have kc0 := cell_blk hg3.out 0
            simp at kc0
            have hnn := (h.nodes.later hb3).cells (by omega)
            obtain ⟨b', off', eb, hbl', hc⟩ := hnn
            injection eb with eb
            injection eb with eb1 eb2
            subst eb1
            subst eb2
            by_cases hlt2 : q < k
            · obtain ⟨c0, c1, c2⟩ := hc k hlt
              obtain ⟨d0, d1, d2⟩ := hc q (by omega)
              clear hc
              have hki : (k : Int) < (n : Int) := by omega
              have hqi : (q : Int) < (n : Int) := by omega
              rcases hsm : sameName (nd net.nodes k).name (nd net.nodes q).name with _ | _
              · have hsm' : ((nd net.nodes k).name.toList == (nd net.nodes q).name.toList) = false := hsm
                have HS : Hid (∀ j, j < q + 1 → sameName (nd net.nodes k).name (nd net.nodes j).name = false) := Lib.hid (fun j hj => by
                  rcases Nat.lt_or_ge j q with h' | h'
                  · exact hs.out j h'
                  · have : j = q := by omega
                    subst this; exact hsm)
                clear hsm
                go_wp2_with fail
                go_quiet (fail)
                go_wp2_with fail
                go_roundw
                case rel => exact ⟨q + 1, by omega, by go_num, HS, below_drew hb3 _, Lib.hid hg3.out⟩
                case measure => simp [intOf]; omega
              · have hsm' : ((nd net.nodes k).name.toList == (nd net.nodes q).name.toList) = true := hsm
                have HF := Lib.hid (netB_node (net := net) (i := k) HKL.out (by simp [nodeOkB, hasName_take_yes HKL.out hlt2 hsm]))
                clear hsm
                go_wp2_with fail
                go_quiet (fail)
                go_wp2_with fail
                go_ret
                exact ⟨ret_bool HF.out.symm, below_drew hb3 _⟩
            · have hqk' : q = k := by omega
              subst hqk'
              have HQ : Hid (∀ j, j < q + 1 → nodeOkB net.nodes j = true) := Lib.hid (fun j hj => by
                rcases Nat.lt_or_ge j q with h' | h'
                · exact hq.out j h'
                · have : j = q := by omega
                  subst this; simp [nodeOkB, hnb, hasName_take_no HKL.out hs.out])
              clear hc
              go_wp2_with fail
              go_roundw
              case rel => exact ⟨q + 1, by omega, by go_num, HQ, hb3, hg3⟩
              case measure => simp [intOf]; omega
      · have hkn : k = n := by omega
        subst hkn
        go_wp2_with fail
        go_loopw [5] (fun i wr => ∃ q : Nat, q ≤ m ∧ i = .int .i64 q ∧ Hid (∀ j, j < q → pipeB (pp net.pipes j) net.nodes.length = true) ∧ Below w.heap.size w wr ∧ Hid (wr.heap[w.heap.size]? = some (.cells #[.slice A k c, .slice B m d] 27 (0, 0)))) (fun i _ => m - (intOf i).toNat)
        case atStart => exact ⟨0, by omega, rfl, Lib.hid (fun j hj => absurd hj (by omega)), hb, hg⟩
        case round =>
          clear kc0 kc1 hgl hb hg
          obtain ⟨q, hqm, rfl, hp, hb, hg⟩ := hrel
          have kc0 := cell_blk hg.out 0
          have kc1 := cell_blk hg.out 1
          simp at kc0 kc1
          have hgl := (Array.getElem?_eq_some_iff.1 hg.out).1
          by_cases hlt2 : q < m
          · obtain ⟨b, off, rfl, hbl, hc⟩ := (h.pipes.later hb).cells (by omega)
            obtain ⟨c0, c1, c2, c3, c4⟩ := hc q hlt2
            clear hc
            have hqi : (q : Int) < (m : Int) := by omega
            have HPB : Hid (pipeB (pp net.pipes q) net.nodes.length = pipeB (pp net.pipes q) k) := by rw [HLN.out]; rfl
            rcases hpb : pipeB (pp net.pipes q) k with _ | _
            · have HF := Lib.hid (netB_pipe (net := net) (i := q) (by rw [HLP.out]; exact hlt2) (by rw [HPB.out]; exact hpb))
              go_wp2_with fail
              refine wp_region_stage_q 0 8 (by kernel_rfl) (by kernel_rfl) ?_
              simp only [List.take_succ_cons, List.take_zero, List.drop_succ_cons, List.drop_zero]
              intro K HK
              refine HK.out _ _ ?_
              clear HK K
              repeat (go_big_quiet_step (fail))
              refine wpQuiet_nil ?_
              go_wp2_with fail
              refine (l02Pipe_is _ _ _ _ (by omega) hpb).mono ?_
              rintro e w2 ⟨rfl, b2⟩
              go_wp2_with fail
              go_ret
              exact ⟨ret_bool HF.out.symm, below_step hb ((Below.refl _ _).drew.trans b2)⟩
            · have HP : Hid (∀ j, j < q + 1 → pipeB (pp net.pipes j) net.nodes.length = true) := Lib.hid (fun j hj => by
                rcases Nat.lt_or_ge j q with h' | h'
                · exact hp.out j h'
                · have : j = q := by omega
                  subst this; rw [HPB.out]; exact hpb)
              go_wp2_with fail
              refine wp_region_stage_q 0 8 (by kernel_rfl) (by kernel_rfl) ?_
              simp only [List.take_succ_cons, List.take_zero, List.drop_succ_cons, List.drop_zero]
              intro K HK
              refine HK.out _ _ ?_
              clear HK K
              repeat (go_big_quiet_step (fail))
              refine wpQuiet_nil ?_
              go_wp2_with fail
              refine (l02Pipe_is _ _ _ _ (by omega) hpb).mono ?_
              rintro e w2 ⟨rfl, b2⟩
              have b2' : Below wr.heap.size wr w2 := (Below.refl _ _).drew.trans b2
              have HG2 := Lib.hid ((b2'.block w.heap.size hgl).trans hg.out)
              clear kc0 kc1 c0 c1 c2 c3 c4
              go_wp2_with fail
              go_roundw
              case rel => exact ⟨q + 1, by omega, by go_num, HP, below_step hb b2', HG2⟩
              case measure => simp [intOf]; omega
          · have HY := Lib.hid (netB_yes (net := net) (by rw [HLN.out]; omega) (by rw [HLN.out]; omega) (by rw [HLP.out]; omega) (by rw [HLN.out]; exact Nat.le_refl _) hq.out (by rw [HLP.out]; omega) hp.out)
            go_wp2_with fail
            go_ret
            exact ⟨ret_bool HY.out.symm, hb⟩
  · have HF := Lib.hid (netB_size (net := net) (by rw [hln, hlp]; exact hsz))
    clear hln hlp
    by_cases n1 : n < 1
    · have q1 : decide ((n : Int) < 1) = true := by simp; omega
      go_enter Try.func47, Try.ntmps47
      go_wp2_with fail
      go_ret
      exact ⟨ret_bool HF.out.symm, bel1 _ _⟩
    · have q1 : decide ((n : Int) < 1) = false := by simp; omega
      by_cases n24 : 24 < n
      · have q2 : decide (24 < (n : Int)) = true := by simp; omega
        go_enter Try.func47, Try.ntmps47
        go_wp2_with fail
        go_ret
        exact ⟨ret_bool HF.out.symm, bel1 _ _⟩
      · have q2 : decide (24 < (n : Int)) = false := by simp; omega
        have q3 : decide (40 < (m : Int)) = true := by simp; omega
        go_enter Try.func47, Try.ntmps47
        go_wp2_with fail
        go_ret
        exact ⟨ret_bool HF.out.symm, bel1 _ _⟩

end Go.Proofs.Ytllblmndoigdlaa

/- IsWithin -/
namespace Go.Proofs.Ytllblmndoigdlaa
open Go.RowKit

def withinB (ns : List Node) (zs : List Int) : Bool := (List.range ns.length).all (fun j => inB (ig zs j) (nd ns j).low (nd ns j).high)
def isWithinB (net : Net) (zs : List Int) : Bool := netB net && decide (zs.length = net.nodes.length) && withinB net.nodes zs
theorem withinB_no {ns : List Node} {zs : List Int} {k : Nat} (hk : k < ns.length) (h : inB (ig zs k) (nd ns k).low (nd ns k).high = false) : withinB ns zs = false := by
  unfold withinB; rw [List.all_eq_false]; exact ⟨k, List.mem_range.2 hk, by simp [h]⟩
theorem withinB_yes {ns : List Node} {zs : List Int} {k : Nat} (hk : ns.length ≤ k) (h : ∀ j, j < k → inB (ig zs j) (nd ns j).low (nd ns j).high = true) : withinB ns zs = true := by
  unfold withinB; rw [List.all_eq_true]; intro x hx; exact h x (by have := List.mem_range.1 hx; omega)

theorem implIsNetwork_is (A B : Option Addr) (n c m d : Nat) (net : Net) (b : Bool) (w : World) (h : NetAt w A n c B m d net) (hb : netB net = b) :
    Calls Try.prog 52 #[.agg #[.slice A n c, .slice B m d]] w fun e w' => e = .returned (.bool b) ∧ Below w.heap.size w w' :=
  (implIsNetwork_any A B n c m d net w h).mono fun _ _ ⟨h1, h2⟩ => ⟨h1.trans (by rw [hb]), h2⟩
theorem specIsNetwork_is (A B : Option Addr) (n c m d : Nat) (net : Net) (b : Bool) (w : World) (h : NetAt w A n c B m d net) (hb : netB net = b) :
    Calls Try.prog 47 #[.agg #[.slice A n c, .slice B m d]] w fun e w' => e = .returned (.bool b) ∧ Below w.heap.size w w' :=
  (specIsNetwork_any A B n c m d net w h).mono fun _ _ ⟨h1, h2⟩ => ⟨h1.trans (by rw [hb]), h2⟩

end Go.Proofs.Ytllblmndoigdlaa
