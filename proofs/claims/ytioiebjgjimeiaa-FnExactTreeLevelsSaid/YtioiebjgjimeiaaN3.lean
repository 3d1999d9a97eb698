/- networks: sizes, copies, comparisons -/
import Derived.Test.YtioiebjgjimeiaaN
import Derived.StillTailTactics
namespace Go.Proofs.Ytioiebjgjimeiaa
open Go.RowKit

theorem alloc3_at2 (w : World) (a b c : Obj) : (((w.alloc a).alloc b).alloc c).heap[w.heap.size + 1 + 1]? = some c := by
  have := heap_alloc_new ((w.alloc a).alloc b) c; simpa using this
theorem alloc3_at1 (w : World) (a b c : Obj) : (((w.alloc a).alloc b).alloc c).heap[w.heap.size + 1]? = some b := by
  have := heap_alloc_new (w.alloc a) b
  exact (Below.heap_alloc _ c _ (by simp)).trans (by simpa using this)
theorem alloc3_at0 (w : World) (a b c : Obj) : (((w.alloc a).alloc b).alloc c).heap[w.heap.size]? = some a :=
  (Below.heap_alloc _ c _ (by simp; omega)).trans ((Below.heap_alloc _ b _ (by simp)).trans (heap_alloc_new w a))
theorem bcell {W w1 : World} (hb : Below W.heap.size W w1) : (∀ b o, b < W.heap.size → w1.cell? ⟨b, o, none⟩ = W.cell? ⟨b, o, none⟩) ∧ (∀ b o, b < W.heap.size → w1.frozen? ⟨b, o, none⟩ = W.frozen? ⟨b, o, none⟩) :=
  ⟨fun b o h => hb.cell (p := ⟨b, o, none⟩) h, fun b o h => hb.frozen (p := ⟨b, o, none⟩) h⟩

set_option maxHeartbeats 400000 in
theorem szNode_any (s : ByteArray) (l h left : Int) (w : World) (hs : s.size ≤ 9223372036854775807) (h0 : 0 ≤ left) (h1 : left ≤ 1048576) :
    Calls Try.prog 163 #[.agg #[.string s, .int .i64 l, .int .i64 h], .int .i64 left] w fun e w' => ∃ r : Int, e = .returned (.int .i64 r) ∧ r ≤ left ∧ -1 ≤ r ∧ Below w.heap.size w w' := by
  go_enter Try.func163, Try.ntmps163
  go_wp2
  all_goals go_ret
  · exact ⟨_, rfl, by omega, by omega, bel1 _ _⟩
  · exact ⟨_, rfl, by omega, by omega, bel1 _ _⟩

set_option maxHeartbeats 1000000 in
theorem szNodeS_any (A : Option Addr) (n c : Nat) (ns : List Node) (left : Int) (w : World) (h : NodesAt w A n c ns) (h0 : 0 ≤ left) (h1 : left ≤ 1048576) :
    Calls Try.prog 99 #[.slice A n c, .int .i64 left] w fun e w' => ∃ r : Int, e = .returned (.int .i64 r) ∧ r ≤ left ∧ -1 ≤ r ∧ (0 ≤ r → n ≤ 1048576) ∧ Below w.heap.size w w' := by
  have hle := h.le
  have hcap := h.cap
  by_cases hn : left - n < 0
  · go_enter Try.func99, Try.ntmps99
    go_wp2_with fail
    go_ret
    exact ⟨_, rfl, by omega, by omega, fun h => absurd h (by omega), Below.refl _ _⟩
  · go_enter Try.func99, Try.ntmps99
    go_wp2_with fail
    go_loopw [1, 5] (fun q i wr => ∃ (j : Nat) (r : Int), j ≤ n ∧ i = .int .i64 j ∧ q = .int .i64 r ∧ r ≤ left ∧ 0 ≤ r ∧ Below w.heap.size w wr) (fun _ i _ => n - (intOf i).toNat)
    case atStart => exact ⟨0, left - n, by omega, rfl, rfl, by omega, by omega, Below.refl _ _⟩
    case round =>
      obtain ⟨j, r, hj, rfl, rfl, hr, hr0, hb⟩ := hrel
      by_cases hlt : j < n
      · obtain ⟨b, off, rfl, hbl, hc⟩ := (h.later hb).cells (by omega)
        obtain ⟨c0, c1, c2⟩ := hc j hlt
        have hsz := (nd_ok h.ok j).2.2
        clear hc
        go_wp2_with fail
        refine (szNode_any _ _ _ _ _ hsz (by omega) (by omega)).mono ?_
        rintro e w2 ⟨q, rfl, q0, q1, b2⟩
        by_cases hq : q < 0
        · go_wp2_with fail
          go_ret
          exact ⟨_, rfl, by omega, by omega, fun h => absurd h (by omega), below_step hb b2⟩
        · go_wp2_with fail
          go_roundw
          case rel => exact ⟨j + 1, q, by omega, by go_num, rfl, by omega, by omega, below_step hb b2⟩
          case measure => simp [intOf]; omega
      · go_wp2_with fail
        go_ret
        exact ⟨_, rfl, by omega, by omega, fun _ => by omega, hb⟩

set_option maxHeartbeats 400000 in
theorem szPipeS_any (A : Option Addr) (n c : Nat) (left : Int) (w : World) (hle : n ≤ c) (hcap : c ≤ 9223372036854775807) (h0 : 0 ≤ left) (h1 : left ≤ 1048576) :
    Calls Try.prog 100 #[.slice A n c, .int .i64 left] w fun e w' => ∃ r : Int, e = .returned (.int .i64 r) ∧ r ≤ left ∧ -1 ≤ r ∧ (0 ≤ r → n ≤ 1048576) ∧ w = w' := by
  by_cases hn : left - n < 0
  · go_enter Try.func100, Try.ntmps100
    go_wp2_with fail
    go_ret
    exact ⟨_, rfl, by omega, by omega, fun h => absurd h (by omega), rfl⟩
  · go_enter Try.func100, Try.ntmps100
    go_wp2_with fail
    go_ret
    exact ⟨_, rfl, by omega, by omega, fun _ => by omega, rfl⟩

set_option maxHeartbeats 1000000 in
theorem szNetwork_any (A B : Option Addr) (n c m d : Nat) (net : Net) (w : World) (h : NetAt w A n c B m d net) :
    Calls Try.prog 37 #[.agg #[.slice A n c, .slice B m d], .int .i64 1048576] w fun e w' => ∃ r : Int, e = .returned (.int .i64 r) ∧ (0 ≤ r → n ≤ 1048576 ∧ m ≤ 1048576) ∧ Below w.heap.size w w' := by
  go_enter Try.func37, Try.ntmps37
  go_wp2_with fail
  refine (szNodeS_any _ _ _ _ _ _ (h.nodes.later (bel1 _ _)) (by omega) (by omega)).mono ?_
  rintro e w2 ⟨q, rfl, q0, q1, q2, b2⟩
  have t2 := below_step (bel1 w _) b2
  have hc1 := cell_blk (heap_alloc_new w (.cells #[.slice A n c, .slice B m d] 52)) 1
  have hc1' := (b2.cell (p := ⟨w.heap.size, 1, none⟩) (by simp)).trans hc1
  simp at hc1'
  have hp1 := h.pipes.le
  have hp2 := h.pipes.cap
  by_cases hq : q < 0
  · go_wp2_with fail
    go_ret
    exact ⟨_, rfl, fun h => absurd h (by omega), t2⟩
  · have hn' := q2 (by omega)
    clear hc1 q2
    go_wp2_with fail
    refine (szPipeS_any _ _ _ _ _ hp1 hp2 (by omega) (by omega)).mono ?_
    rintro e w' ⟨r, rfl, r0, r1, r2, rfl⟩
    by_cases hr : r < 0
    · clear r2
      go_wp2_with fail
      go_ret
      exact ⟨_, rfl, fun h => absurd h (by omega), t2⟩
    · have hm' := r2 (by omega)
      clear r2
      go_wp2_with fail
      go_ret
      exact ⟨_, rfl, fun _ => ⟨hn', hm'⟩, t2⟩

set_option maxHeartbeats 400000 in
theorem toNode_any (s : ByteArray) (l h : Int) (w : World) :
    Calls Try.prog 167 #[.agg #[.string s, .int .i64 l, .int .i64 h]] w fun e w' => e = .returned (.agg #[.string s, .int .i64 l, .int .i64 h]) ∧ Below w.heap.size w w' := by
  go_enter Try.func167, Try.ntmps167
  go_wp2
  exact bodyPost_ret (v := .agg #[.string s, .int .i64 l, .int .i64 h]) (by simp [results, Try.results167, go_sem]) rfl ⟨rfl, bel3 _ _ _ _⟩

set_option maxHeartbeats 400000 in
theorem toPipe_any (a b k v l : Int) (w : World) :
    Calls Try.prog 168 #[.agg #[.int .i64 a, .int .i64 b, .int .i64 k, .int .i64 v, .int .i64 l]] w fun e w' => e = .returned (.agg #[.int .i64 a, .int .i64 b, .int .i64 k, .int .i64 v, .int .i64 l]) ∧ Below w.heap.size w w' := by
  go_enter Try.func168, Try.ntmps168
  go_wp2
  exact bodyPost_ret (v := .agg #[.int .i64 a, .int .i64 b, .int .i64 k, .int .i64 v, .int .i64 l]) (by simp [results, Try.results168, go_sem]) rfl ⟨rfl, bel3 _ _ _ _⟩

set_option maxHeartbeats 1000000 in
theorem toNodeS_any (A : Option Addr) (n c : Nat) (ns : List Node) (w : World) (h : NodesAt w A n c ns) (hn : n ≤ 1048576) :
    Calls Try.prog 104 #[.slice A n c] w fun e w' => ∃ A' c', e = .returned (.slice A' n c') ∧ OwnN 48 w' A' n c' ns ∧ Fresh w.heap.size A' ∧ Below w.heap.size w w' := by
  have hlen := Lib.hid h.len
  go_enter Try.func104, Try.ntmps104
  go_wp2_with (at_make; refine law_makeN _ rfl _ _ rfl n _ _ rfl rfl rfl rfl (by omega) ?_; intro w1 ho1 hb1 hs1)
  go_loopw [4] (fun i wr => ∃ k : Nat, k ≤ n ∧ i = .int .i64 k ∧ OwnN 48 wr (some ⟨w.heap.size, 0, none⟩) n n (ns.take k ++ List.replicate (n - k) node0) ∧ Below w.heap.size w wr) (fun i _ => n - (intOf i).toNat)
  case atStart => exact ⟨0, by omega, rfl, by simpa using ho1, hb1⟩
  case round =>
    obtain ⟨k, hk, rfl, ho, hb⟩ := hrel
    by_cases hlt : k < n
    · obtain ⟨b, off, rfl, hbl, hc⟩ := (h.later hb).cells (by omega)
      obtain ⟨c0, c1, c2⟩ := hc k hlt
      have hok := nd_ok h.ok k
      clear hc
      go_wp2_with fail
      refine (toNode_any _ _ _ _).mono ?_
      rintro e w2 ⟨rfl, b2⟩
      have ho2 := ho.later b2
      obtain ⟨d0, d1, d2⟩ := ho2.cell hlt
      have f0 := ho2.row.frozenAt (k * 3)
      have f1 := ho2.row.frozenAt (k * 3 + 1)
      have f2 := ho2.row.frozenAt (k * 3 + 2)
      have hst := ho2.store hlt hok
      rw [set_nodes hlen.out hlt] at hst
      have HST := Lib.hid hst
      clear hst c0 c1 c2
      go_wp2_with fail
      go_roundw
      case rel => exact ⟨k + 1, by omega, by go_num, HST.out, (((below_step hb b2).setCell (p := ⟨w.heap.size, k * 3, none⟩) (Nat.le_refl _) _).setCell (p := ⟨w.heap.size, k * 3 + 1, none⟩) (Nat.le_refl _) _).setCell (p := ⟨w.heap.size, k * 3 + 2, none⟩) (Nat.le_refl _) _⟩
      case measure => simp [intOf]; omega
    · go_wp2_with fail
      go_ret
      have hkn : k = n := by omega
      subst hkn
      refine ⟨_, _, rfl, ?_, fun a ha => ?_, hb⟩
      · have := ho; rw [List.take_of_length_le (by rw [hlen.out]; omega), Nat.sub_self] at this; simpa using this
      · injection ha with ha; subst ha; exact Nat.le_refl _

set_option maxHeartbeats 1000000 in
theorem toPipeS_any (A : Option Addr) (n c : Nat) (ns : List Pipe) (w : World) (h : PipesAt w A n c ns) (hn : n ≤ 1048576) :
    Calls Try.prog 105 #[.slice A n c] w fun e w' => ∃ A' c', e = .returned (.slice A' n c') ∧ OwnP 64 w' A' n c' ns ∧ Fresh w.heap.size A' ∧ Below w.heap.size w w' := by
  have hlen := Lib.hid h.len
  go_enter Try.func105, Try.ntmps105
  go_wp2_with (at_make; refine law_makeP _ rfl _ _ rfl n _ _ rfl rfl rfl rfl (by omega) ?_; intro w1 ho1 hb1 hs1)
  go_loopw [4] (fun i wr => ∃ k : Nat, k ≤ n ∧ i = .int .i64 k ∧ OwnP 64 wr (some ⟨w.heap.size, 0, none⟩) n n (ns.take k ++ List.replicate (n - k) pipe0) ∧ Below w.heap.size w wr) (fun i _ => n - (intOf i).toNat)
  case atStart => exact ⟨0, by omega, rfl, by simpa using ho1, hb1⟩
  case round =>
    obtain ⟨k, hk, rfl, ho, hb⟩ := hrel
    by_cases hlt : k < n
    · obtain ⟨b, off, rfl, hbl, hc⟩ := (h.later hb).cells (by omega)
      obtain ⟨c0, c1, c2, c3, c4⟩ := hc k hlt
      have hok := pp_ok h.ok k
      clear hc
      go_wp2_with fail
      refine (toPipe_any _ _ _ _ _ _).mono ?_
      rintro e w2 ⟨rfl, b2⟩
      have ho2 := ho.later b2
      obtain ⟨d0, d1, d2, d3, d4⟩ := ho2.cell hlt
      have f0 := ho2.row.frozenAt (k * 5)
      have f1 := ho2.row.frozenAt (k * 5 + 1)
      have f2 := ho2.row.frozenAt (k * 5 + 2)
      have f3 := ho2.row.frozenAt (k * 5 + 3)
      have f4 := ho2.row.frozenAt (k * 5 + 4)
      have hst := ho2.store hlt hok
      rw [set_pipes hlen.out hlt] at hst
      have HST := Lib.hid hst
      clear hst c0 c1 c2 c3 c4
      go_wp2_with fail
      go_roundw
      case rel => exact ⟨k + 1, by omega, by go_num, HST.out, (((((below_step hb b2).setCell (p := ⟨w.heap.size, k * 5, none⟩) (Nat.le_refl _) _).setCell (p := ⟨w.heap.size, k * 5 + 1, none⟩) (Nat.le_refl _) _).setCell (p := ⟨w.heap.size, k * 5 + 2, none⟩) (Nat.le_refl _) _).setCell (p := ⟨w.heap.size, k * 5 + 3, none⟩) (Nat.le_refl _) _).setCell (p := ⟨w.heap.size, k * 5 + 4, none⟩) (Nat.le_refl _) _⟩
      case measure => simp [intOf]; omega
    · go_wp2_with fail
      go_ret
      have hkn : k = n := by omega
      subst hkn
      refine ⟨_, _, rfl, ?_, fun a ha => ?_, hb⟩
      · have := ho; rw [List.take_of_length_le (by rw [hlen.out]; omega), Nat.sub_self] at this; simpa using this
      · injection ha with ha; subst ha; exact Nat.le_refl _

/-- a network of the call's own -/
structure OwnNet (w : World) (A : Option Addr) (n c : Nat) (B : Option Addr) (m d : Nat) (net : Net) : Prop where
  nodes : OwnN 48 w A n c net.nodes
  pipes : OwnP 64 w B m d net.pipes
theorem OwnNet.net {w : World} {A B : Option Addr} {n c m d : Nat} {net : Net} (h : OwnNet w A n c B m d net) : NetAt w A n c B m d net := ⟨h.nodes.nodes, h.pipes.pipes⟩
theorem OwnNet.later {w w' : World} {A B : Option Addr} {n c m d : Nat} {net : Net} (h : OwnNet w A n c B m d net) (hb : Below w.heap.size w w') : OwnNet w' A n c B m d net := ⟨h.nodes.later hb, h.pipes.later hb⟩

set_option maxHeartbeats 1000000 in
theorem toNetwork_any (A B : Option Addr) (n c m d : Nat) (net : Net) (w : World) (h : NetAt w A n c B m d net) (hn : n ≤ 1048576) (hm : m ≤ 1048576) :
    Calls Try.prog 39 #[.agg #[.slice A n c, .slice B m d]] w fun e w' => ∃ A' c' B' d', e = .returned (.agg #[.slice A' n c', .slice B' m d']) ∧ OwnNet w' A' n c' B' m d' net ∧ Fresh w.heap.size A' ∧ Fresh w.heap.size B' ∧ Below w.heap.size w w' := by
  go_enter Try.func39, Try.ntmps39
  go_wp2_with fail
  refine (toNodeS_any _ _ _ _ _ (h.nodes.later (bel3 _ _ _ _)) hn).mono ?_
  rintro e w1 ⟨A1, c1, rfl, o1, f1, b1⟩
  have hz1 := b1.size
  simp at hz1
  have g0 := (b1.block w.heap.size (by simp; omega)).trans (alloc3_at0 _ _ _ _)
  have g1 := (b1.block (w.heap.size + 1) (by simp)).trans (alloc3_at1 _ _ _ _)
  have g2 := (b1.block (w.heap.size + 1 + 1) (by simp)).trans (alloc3_at2 _ _ _ _)
  have t1 := below_step (bel3 w _ _ _) b1
  have f1' : Fresh (w.heap.size + 1 + 1 + 1) A1 := by simpa using f1
  have o1' : OwnN 48 (w1.setCell ⟨w.heap.size + 1 + 1, 0, none⟩ (.slice A1 n c1)) A1 n c1 net.nodes :=
    o1.keep fun a ha => Below.heap_setCell w1 _ _ _ (by have := f1' a ha; show a.block ≠ w.heap.size + 1 + 1; omega)
  have t1' : Below w.heap.size w (w1.setCell ⟨w.heap.size + 1 + 1, 0, none⟩ (.slice A1 n c1)) := t1.setCell (by show w.heap.size ≤ w.heap.size + 1 + 1; omega) _
  have k1 := cell_blk g0 1
  have k2 := cell_blk g2 0
  have j2 := frozen_blk g2 0
  simp at k1 k2
  have G1 := Lib.hid g1
  have G2 := Lib.hid g2
  clear f1 b1 o1 t1 g0 g1 g2
  go_wp2_with fail
  refine (toPipeS_any _ _ _ _ _ (h.pipes.later t1') hm).mono ?_
  rintro e w2 ⟨B2, d2, rfl, o2, f2, b2⟩
  have t2 := below_step t1' b2
  have f2' : Fresh (w.heap.size + 1 + 1 + 1) B2 := fresh_up f2 (by simp [World.setCell]; omega)
  have o12 := o1'.later b2
  have hz2 := b2.size
  simp [World.setCell] at hz2
  have g2' := (b2.block (w.heap.size + 1 + 1) (by simp [World.setCell]; omega)).trans (heap_set G2.out 0 (.slice A1 n c1))
  have g1' := (b2.block (w.heap.size + 1) (by simp [World.setCell]; omega)).trans ((Below.heap_setCell w1 ⟨w.heap.size + 1 + 1, 0, none⟩ (.slice A1 n c1) (w.heap.size + 1) (by show w.heap.size + 1 ≠ w.heap.size + 1 + 1; omega)).trans G1.out)
  have k20 := cell_blk g2' 0
  have k21 := cell_blk g2' 1
  have j21 := frozen_blk g2' 1
  have k10 := cell_blk g1' 0
  have k11 := cell_blk g1' 1
  have j10 := frozen_blk g1' 0
  have j11 := frozen_blk g1' 1
  simp at k20 k21 k10 k11
  have q := heap_set (heap_set ((Below.heap_setCell w2 ⟨w.heap.size + 1 + 1, 1, none⟩ (.slice B2 m d2) (w.heap.size + 1) (by show w.heap.size + 1 ≠ w.heap.size + 1 + 1; omega)).trans g1') 0 (.slice A1 n c1)) 1 (.slice B2 m d2)
  have q0 := cell_blk q 0
  have q1 := cell_blk q 1
  simp at q0 q1
  have Q0 := Lib.hid q0
  have Q1 := Lib.hid q1
  have hne : ∀ X : Option Addr, Fresh (w.heap.size + 1 + 1 + 1) X → ∀ a, X = some a → (((w2.setCell ⟨w.heap.size + 1 + 1, 1, none⟩ (.slice B2 m d2)).setCell ⟨w.heap.size + 1, 0, none⟩ (.slice A1 n c1)).setCell ⟨w.heap.size + 1, 1, none⟩ (.slice B2 m d2)).heap[a.block]? = w2.heap[a.block]? := by
    intro X hX a ha
    have hlt := hX a ha
    exact (Below.heap_setCell _ _ _ _ (by show a.block ≠ w.heap.size + 1; omega)).trans ((Below.heap_setCell _ _ _ _ (by show a.block ≠ w.heap.size + 1; omega)).trans (Below.heap_setCell _ _ _ _ (by show a.block ≠ w.heap.size + 1 + 1; omega)))
  have HNE := Lib.hid hne
  clear k1 k2 j2 G1 G2 g2' g1' b2 f2 o1' t1' q q0 q1 hne
  go_wp2_with fail
  refine bodyPost_ret (v := .agg #[.slice A1 n c1, .slice B2 m d2]) (by simp [results, Try.results39, go_sem, Q0.out, Q1.out]) rfl ⟨A1, c1, B2, d2, rfl, ⟨o12.keep (HNE.out A1 f1'), o2.keep (HNE.out B2 f2')⟩, fresh_up f1' (by omega), fresh_up f2' (by omega), ?_⟩
  exact ((t2.setCell (by show w.heap.size ≤ w.heap.size + 1 + 1; omega) _).setCell (by show w.heap.size ≤ w.heap.size + 1; omega) _).setCell (by show w.heap.size ≤ w.heap.size + 1; omega) _

set_option maxHeartbeats 400000 in
theorem eqNode_any (s : ByteArray) (l h : Int) (w : World) :
    Calls Try.prog 170 #[.agg #[.string s, .int .i64 l, .int .i64 h], .agg #[.string s, .int .i64 l, .int .i64 h]] w fun e w' => e = .returned (.bool true) ∧ Below w.heap.size w w' := by
  go_enter Try.func170, Try.ntmps170
  go_wp2
  go_ret
  exact ⟨rfl, bel2 _ _ _⟩

set_option maxHeartbeats 400000 in
theorem eqPipe_any (a b k v l : Int) (w : World) :
    Calls Try.prog 171 #[.agg #[.int .i64 a, .int .i64 b, .int .i64 k, .int .i64 v, .int .i64 l], .agg #[.int .i64 a, .int .i64 b, .int .i64 k, .int .i64 v, .int .i64 l]] w fun e w' => e = .returned (.bool true) ∧ Below w.heap.size w w' := by
  go_enter Try.func171, Try.ntmps171
  go_wp2
  go_ret
  exact ⟨rfl, bel2 _ _ _⟩

end Go.Proofs.Ytioiebjgjimeiaa

/- networks: comparisons of lists -/
namespace Go.Proofs.Ytioiebjgjimeiaa
open Go.RowKit

set_option maxRecDepth 100000 in
set_option maxHeartbeats 1000000 in
theorem eqNodeS_any (A B : Option Addr) (n c d : Nat) (ns : List Node) (w : World) (h : NodesAt w A n c ns) (g : NodesAt w B n d ns) :
    Calls Try.prog 109 #[.slice A n c, .slice B n d] w fun e w' => e = .returned (.bool true) ∧ Below w.heap.size w w' := by
  have hle := h.le
  have hcap := h.cap
  go_enter Try.func109, Try.ntmps109
  go_wp2_with fail
  go_loopw [5] (fun i wr => ∃ k : Nat, k ≤ n ∧ i = .int .i64 k ∧ Below w.heap.size w wr) (fun i _ => n - (intOf i).toNat)
  case atStart => exact ⟨0, by omega, rfl, Below.refl _ _⟩
  case round =>
    obtain ⟨k, hk, rfl, hb⟩ := hrel
    by_cases hlt : k < n
    · obtain ⟨b, off, rfl, hbl, hc⟩ := (h.later hb).cells (by omega)
      obtain ⟨b', off', rfl, hbl', hc'⟩ := (g.later hb).cells (by omega)
      obtain ⟨c0, c1, c2⟩ := hc k hlt
      obtain ⟨d0, d1, d2⟩ := hc' k hlt
      clear hc hc'
      go_wp2_with fail
      go_still_tail 8, (by kernel_rfl)
      change wpList _ _ _ _ _ wr.drew
      go_wp2_with fail
      refine (eqNode_any _ _ _ _).mono ?_
      rintro e w2 ⟨rfl, b2⟩
      have b2' : Below wr.heap.size wr w2 := (Below.refl _ _).drew.trans b2
      go_wp2_with fail
      go_roundw
      case rel => exact ⟨k + 1, by omega, by go_num, below_step hb b2'⟩
      case measure => simp [intOf]; omega
    · go_wp2_with fail
      go_ret
      exact ⟨rfl, hb⟩

set_option maxRecDepth 100000 in
set_option maxHeartbeats 1000000 in
theorem eqPipeS_any (A B : Option Addr) (n c d : Nat) (ns : List Pipe) (w : World) (h : PipesAt w A n c ns) (g : PipesAt w B n d ns) :
    Calls Try.prog 110 #[.slice A n c, .slice B n d] w fun e w' => e = .returned (.bool true) ∧ Below w.heap.size w w' := by
  have hle := h.le
  have hcap := h.cap
  go_enter Try.func110, Try.ntmps110
  go_wp2_with fail
  go_loopw [5] (fun i wr => ∃ k : Nat, k ≤ n ∧ i = .int .i64 k ∧ Below w.heap.size w wr) (fun i _ => n - (intOf i).toNat)
  case atStart => exact ⟨0, by omega, rfl, Below.refl _ _⟩
  case round =>
    obtain ⟨k, hk, rfl, hb⟩ := hrel
    by_cases hlt : k < n
    · obtain ⟨b, off, rfl, hbl, hc⟩ := (h.later hb).cells (by omega)
      obtain ⟨b', off', rfl, hbl', hc'⟩ := (g.later hb).cells (by omega)
      obtain ⟨c0, c1, c2, c3, c4⟩ := hc k hlt
      obtain ⟨d0, d1, d2, d3, d4⟩ := hc' k hlt
      clear hc hc'
      go_wp2_with fail
      go_still_tail 8, (by kernel_rfl)
      change wpList _ _ _ _ _ wr.drew
      go_wp2_with fail
      refine (eqPipe_any _ _ _ _ _ _).mono ?_
      rintro e w2 ⟨rfl, b2⟩
      have b2' : Below wr.heap.size wr w2 := (Below.refl _ _).drew.trans b2
      go_wp2_with fail
      go_roundw
      case rel => exact ⟨k + 1, by omega, by go_num, below_step hb b2'⟩
      case measure => simp [intOf]; omega
    · go_wp2_with fail
      go_ret
      exact ⟨rfl, hb⟩

set_option maxHeartbeats 1000000 in
theorem eqNetwork_any (A B A' B' : Option Addr) (n c m d c' d' : Nat) (net : Net) (w : World) (h : NetAt w A n c B m d net) (g : NetAt w A' n c' B' m d' net) :
    Calls Try.prog 43 #[.agg #[.slice A n c, .slice B m d], .agg #[.slice A' n c', .slice B' m d']] w fun e w' => e = .returned (.bool true) ∧ Below w.heap.size w w' := by
  go_enter Try.func43, Try.ntmps43
  go_wp2_with fail
  refine (eqNodeS_any _ _ _ _ _ _ _ (h.nodes.later (bel2 _ _ _)) (g.nodes.later (bel2 _ _ _))).mono ?_
  rintro e w1 ⟨rfl, b1⟩
  obtain ⟨hc1, hf1⟩ := bcell b1
  have t1 := below_step (bel2 w _ _) b1
  go_wp2_with fail
  refine (eqPipeS_any _ _ _ _ _ _ _ (h.pipes.later t1) (g.pipes.later t1)).mono ?_
  rintro e w2 ⟨rfl, b2⟩
  go_wp2_with fail
  go_ret
  exact ⟨rfl, below_step t1 b2⟩

end Go.Proofs.Ytioiebjgjimeiaa
