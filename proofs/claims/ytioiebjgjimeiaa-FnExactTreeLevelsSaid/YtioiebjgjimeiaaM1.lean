/- slices.Backward over a slice of int64 -/
import Derived.Test.YtioiebjgjimeiaaM0
namespace Go.Proofs.Ytioiebjgjimeiaa
open Go Go.RowKit Go.Shelf

attribute [local go_sem] Oper.semAt_some

/-- what the k-th round is handed -/
def bkE (L : Nat) (zs : List Int) (k : Nat) : Array Value := #[.int .i64 ((L - 1 - k : Nat) : Int), .int .i64 (ig zs (L - 1 - k))]
/-- what a round keeps: the slice's box and its row -/
def bkK (Bs b : Nat) (W W' : World) : Prop := W'.heap[Bs]? = W.heap[Bs]? ∧ W'.heap[b]? = W.heap[b]?
theorem bkK.trans {Bs b : Nat} {A B C : World} (h : bkK Bs b A B) (k : bkK Bs b B C) : bkK Bs b A C := ⟨k.1.trans h.1, k.2.trans h.2⟩
theorem bkK.put {Bs b : Nat} {w : World} (h1 : Bs < w.heap.size) (h2 : b < w.heap.size) (W : World) (l : Nat) (o o' : Obj) (hl : w.heap.size ≤ l) (_ : W.heap[l]? = some o) (_ : o.isCells = false) (_ : o.isWalk = false) : bkK Bs b W (W.putObj l o') :=
  ⟨World.putObj_heap_other (by omega), World.putObj_heap_other (by omega)⟩

set_option maxRecDepth 100000 in
set_option maxHeartbeats 2000000 in
theorem backward1_in (n l Bs b off L cap : Nat) (zs : List Int) (hn : 1 ≤ n) (hLc : L ≤ cap) (hcap : cap ≤ 9223372036854775807) (J Jx : List Nat → World → Prop)
    (hY : ∀ pre x W, J pre W → pre.length < L → YieldAt Fence.wide (n - 1) Try.prog l (bkE L zs x) W fun e W' =>
      (e = .returned (.bool true) ∧ J (pre ++ [x]) W' ∧ bkK Bs b W W') ∨ (e = .returned (.bool false) ∧ Jx (pre ++ [x]) W'))
    (W : World) (hBs : W.heap[Bs]? = some (.cells #[.slice (some ⟨b, off, none⟩) L cap] 28 (0, 0))) (hc : ∀ j, j < L → W.cell? ⟨b, off + j, none⟩ = some (.int .i64 (ig zs j))) (h0 : J [] W) :
    CallsIn Fence.wide n Try.prog 190 #[.func (.yield l) #[] #[], .pointer (some ⟨Bs, 0, none⟩)] W fun e W' => (∃ v, e = .returned v) ∧
      ((∃ ys, ys = List.range L ∧ J ys W') ∨ (∃ pre, True ∧ Jx pre W')) := by
  have hB0 : W.cell? ⟨Bs, 0, none⟩ = some (.slice (some ⟨b, off, none⟩) L cap) := by rw [cell_blk hBs]; rfl
  refine callsIn_of_wp Try.func190 rfl trivial ?_ rfl
  simp only [Try.ntmps190, List.size_toArray, List.length_cons, List.length_nil, Nat.reduceAdd, Nat.reduceSub, Array.replicate_succ, Array.replicate_zero, List.push_toArray, List.append_toArray, List.nil_append, List.cons_append]
  gi_wp2
  gi_loopw [3] (fun i wr => ∃ k : Nat, k ≤ L ∧ i = .int .i64 ((L : Int) - 1 - k) ∧ J (List.range k) wr ∧ bkK Bs b W wr)
    (fun i _ => (intOf i + 1).toNat)
  case atStart => exact ⟨0, by omega, by simp, h0, ⟨rfl, rfl⟩⟩
  case round =>
    obtain ⟨k, hk, rfl, hJs, hkp⟩ := hrel
    have hB1 : wr.cell? ⟨Bs, 0, none⟩ = some (.slice (some ⟨b, off, none⟩) L cap) := by rw [cell_blk (hkp.1.trans hBs)]; rfl
    by_cases hlt : k < L
    · obtain ⟨i, hi⟩ : ∃ i : Nat, i = L - 1 - k := ⟨_, rfl⟩
      have hii : (L : Int) - 1 - (k : Int) = (i : Int) := by omega
      have hiL : i < L := by omega
      rw [hii]
      obtain ⟨fn, tmps, assign, body, hy, hR⟩ := hY _ k wr hJs (by rw [List.length_range]; exact hlt)
      rw [bkE, ← hi] at hy
      have hcx : wr.cell? ⟨b, off + i, none⟩ = some (.int .i64 (ig zs i)) := (World.cell?_of_block (a := ⟨b, off + i, none⟩) hkp.2).trans (hc i hiL)
      have HI := Lib.hid hi
      clear hi hii
      gi_wp2
      refine hR.mono ?_
      rintro e W3 (⟨rfl, hJ3, hk3⟩ | ⟨rfl, hJx3⟩)
      · gi_wp2
        go_roundw
        case rel => exact ⟨k + 1, by omega, by have := HI.out; congr 1; omega, by rw [List.range_succ]; exact hJ3, hkp.trans hk3⟩
        case measure => simp [intOf]
      · gi_wp2
        refine bodyPost_ret (results_none rfl _ _ _) rfl ?_
        exact ⟨⟨_, rfl⟩, .inr ⟨_, trivial, hJx3⟩⟩
    · obtain rfl : k = L := by omega
      have hii : (k : Int) - 1 - (k : Int) = -1 := by omega
      rw [hii]
      gi_wp2
      go_end0
      exact ⟨⟨_, rfl⟩, .inl ⟨_, rfl, hJs⟩⟩

theorem backward_stops (n Bs b off L cap : Nat) (zs : List Int) (hn : 1 ≤ n) (hLc : L ≤ cap) (hcap : cap ≤ 9223372036854775807) (w : World) (hBl : Bs < w.heap.size) (hbl : b < w.heap.size)
    (hBs : w.heap[Bs]? = some (.cells #[.slice (some ⟨b, off, none⟩) L cap] 28 (0, 0))) (hc : ∀ j, j < L → w.cell? ⟨b, off + j, none⟩ = some (.int .i64 (ig zs j))) :
    SeqStopsK Fence.wide n Try.prog 190 #[.pointer (some ⟨Bs, 0, none⟩)] (bkE L zs) (bkK Bs b) (fun ys => ys = List.range L) (fun _ => True) L w :=
  fun l J Jx W hW _ _ hY h0 => backward1_in n l Bs b off L cap zs hn hLc hcap J Jx hY W ((hW.block Bs hBl).trans hBs) (fun j hj => (hW.cell (p := ⟨b, off + j, none⟩) hbl).trans (hc j hj)) h0

set_option maxHeartbeats 1000000 in
theorem slicesBackward_any (A : Option Addr) (n c : Nat) (w : World) :
    Calls Try.prog 156 #[.slice A n c] w fun e w' => e = .returned (.func (.func 190) #[] #[.pointer (some ⟨w.heap.size, 0, none⟩)]) ∧ w' = w.alloc (.cells #[.slice A n c] 28) := by
  go_enter Try.func156, Try.ntmps156
  go_wp2_with fail
  go_ret
  exact ⟨rfl, rfl⟩

end Go.Proofs.Ytioiebjgjimeiaa
