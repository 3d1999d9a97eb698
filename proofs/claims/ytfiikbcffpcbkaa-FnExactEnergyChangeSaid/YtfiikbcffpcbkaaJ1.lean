/- IsBalanced, DropsOf, OverLimit -/
import Derived.Test.YtfiikbcffpcbkaaH0
import Derived.Test.YtfiikbcffpcbkaaTrk
namespace Go.Proofs.Ytfiikbcffpcbkaa
open Go.RowKit

set_option maxHeartbeats 1000000 in
theorem slicesEqual_any (A B : Option Addr) (n m c d : Nat) (xs ys : List Int) (w : World) (h : Ints w A n c xs) (g : Ints w B m d ys) :
    Calls Try.prog 103 #[.slice A n c, .slice B m d] w fun e w' => e = .returned (.bool (eqL xs ys)) ∧ ∃ q, w' = w.drewN q := by
  have hle := h.le
  have hcap := h.cap
  have hlen := Lib.hid h.len
  have glen := Lib.hid g.len
  by_cases hnm : n = m
  · subst hnm
    go_enter Try.func103, Try.ntmps103
    go_wp2
    go_loopw [13] (fun i wr => ∃ k : Nat, k ≤ n ∧ i = .int .i64 k ∧ Hid (∀ j, j < k → ig xs j = ig ys j) ∧ ∃ q, wr = w.drewN q) (fun i _ => n - (intOf i).toNat)
    case atStart => exact ⟨0, by omega, rfl, Lib.hid (fun j hj => absurd hj (by omega)), 0, rfl⟩
    case round =>
      obtain ⟨k, hk, rfl, hq, q, rfl⟩ := hrel
      by_cases hlt : k < n
      · obtain ⟨b, off, rfl, hbl, hc⟩ := h.cells (by omega)
        obtain ⟨b', off', rfl, hbl', hc'⟩ := g.cells (by omega)
        have hck := hc k hlt
        have hck' := hc' k hlt
        clear hc hc'
        go_wp2
        go_quiet (fail)
        go_wp2
        · go_ret
          exact ⟨ret_bool (eqL_ne (k := k) (by simpa using ‹(ig xs k != ig ys k) = true›)).symm, _, World.drewN_drewN _ _ _⟩
        · go_roundw
          case rel => exact ⟨k + 1, by omega, by go_num, Lib.hid (fun j hj => by
            rcases Nat.lt_or_ge j k with h' | h'
            · exact hq.out j h'
            · have : j = k := by omega
              subst this; simpa using ‹(ig xs j != ig ys j) = false›), _, rfl⟩
          case measure => simp [intOf]; omega
      · go_wp2
        go_ret
        exact ⟨ret_bool (eqL_of (by rw [hlen.out, glen.out]) (by rw [hlen.out]; omega) hq.out).symm, _, rfl⟩
  · have hne : ((n : Int) != (m : Int)) = true := by simp; omega
    go_enter Try.func103, Try.ntmps103
    go_wp2
    go_ret
    exact ⟨ret_bool (eqL_len (by rw [hlen.out, glen.out]; exact hnm)).symm, 0, rfl⟩

def rIsBalanced (net : Net) (zs zs2 : List Int) : Bool := netB net && flowB net zs && supB net zs2 && eqL (outL net.nodes.length net.pipes zs net.pipes.length) zs2

set_option maxHeartbeats 2000000 in
theorem implIsBalanced_any (A : Option Addr) (n c : Nat) (B : Option Addr) (m d : Nat) (net : Net) (C : Option Addr) (l e : Nat) (zs : List Int) (C2 : Option Addr) (l2 e2 : Nat) (zs2 : List Int) (w : World) (h : NetAt w A n c B m d net) (hz : Ints w C l e zs) (hz2 : Ints w C2 l2 e2 zs2) :
    Calls Try.prog 34 #[.agg #[.slice A n c, .slice B m d], .slice C l e, .slice C2 l2 e2] w fun e w' => e = .returned (.bool (rIsBalanced net zs zs2)) ∧ Below w.heap.size w w' := by
  have HB := Lib.hid (bel1 w (.cells #[.slice A n c, .slice B m d] 27))
  have hnl := h.nodes.len
  have hml := h.pipes.len
  rcases hv : netB net with _ | _
  · have HR : Hid (rIsBalanced net zs zs2 = false) := Lib.hid (by unfold rIsBalanced; rw [hv]; rfl)
    go_enter Try.func34, Try.ntmps34
    go_wp2_with fail
    refine (implIsNetwork_is _ _ _ _ _ _ net _ _ (h.later HB.out) hv).mono ?_
    rintro e w1 ⟨rfl, b1⟩
    have t1 := below_step HB.out b1
    have s1 := b1
    obtain ⟨k0, k1⟩ := box_cells s1
    go_wp2_with fail
    go_ret
    exact ⟨ret_bool HR.out.symm, t1⟩
  · rcases hf : flowB net zs with _ | _
    · have HR : Hid (rIsBalanced net zs zs2 = false) := Lib.hid (by unfold rIsBalanced; rw [hv, hf]; rfl)
      go_enter Try.func34, Try.ntmps34
      go_wp2_with fail
      refine (implIsNetwork_is _ _ _ _ _ _ net _ _ (h.later HB.out) hv).mono ?_
      rintro e w1 ⟨rfl, b1⟩
      have t1 := below_step HB.out b1
      have s1 := b1
      obtain ⟨k0, k1⟩ := box_cells s1
      go_wp2_with fail
      refine (isFlowList_is _ _ _ _ _ _ _ _ _ net zs _ _ (h.later t1) (hz.later t1) hf).mono ?_
      rintro e w2 ⟨rfl, b2⟩
      clear k0 k1
      have t2 := below_step t1 b2
      have s2 := below_step s1 b2
      obtain ⟨k0, k1⟩ := box_cells s2
      go_wp2_with fail
      go_ret
      exact ⟨ret_bool HR.out.symm, t2⟩
    · rcases hs : supB net zs2 with _ | _
      · have HR : Hid (rIsBalanced net zs zs2 = false) := Lib.hid (by unfold rIsBalanced; rw [hv, hf, hs]; rfl)
        go_enter Try.func34, Try.ntmps34
        go_wp2_with fail
        refine (implIsNetwork_is _ _ _ _ _ _ net _ _ (h.later HB.out) hv).mono ?_
        rintro e w1 ⟨rfl, b1⟩
        have t1 := below_step HB.out b1
        have s1 := b1
        obtain ⟨k0, k1⟩ := box_cells s1
        go_wp2_with fail
        refine (isFlowList_is _ _ _ _ _ _ _ _ _ net zs _ _ (h.later t1) (hz.later t1) hf).mono ?_
        rintro e w2 ⟨rfl, b2⟩
        clear k0 k1
        have t2 := below_step t1 b2
        have s2 := below_step s1 b2
        obtain ⟨k0, k1⟩ := box_cells s2
        go_wp2_with fail
        refine (areSupplies_is _ _ _ _ _ _ _ _ _ net zs2 _ _ (h.later t2) (hz2.later t2) hs).mono ?_
        rintro e w3 ⟨rfl, b3⟩
        clear k0 k1
        have t3 := below_step t2 b3
        have s3 := below_step s2 b3
        obtain ⟨k0, k1⟩ := box_cells s3
        go_wp2_with fail
        go_ret
        exact ⟨ret_bool HR.out.symm, t3⟩
      · have HR : Hid (rIsBalanced net zs zs2 = eqL (outL n net.pipes zs m) zs2) := Lib.hid (by unfold rIsBalanced; rw [hv, hf, hs, hnl, hml]; rfl)
        go_enter Try.func34, Try.ntmps34
        go_wp2_with fail
        refine (implIsNetwork_is _ _ _ _ _ _ net _ _ (h.later HB.out) hv).mono ?_
        rintro e w1 ⟨rfl, b1⟩
        have t1 := below_step HB.out b1
        have s1 := b1
        obtain ⟨k0, k1⟩ := box_cells s1
        go_wp2_with fail
        refine (isFlowList_is _ _ _ _ _ _ _ _ _ net zs _ _ (h.later t1) (hz.later t1) hf).mono ?_
        rintro e w2 ⟨rfl, b2⟩
        clear k0 k1
        have t2 := below_step t1 b2
        have s2 := below_step s1 b2
        obtain ⟨k0, k1⟩ := box_cells s2
        go_wp2_with fail
        refine (areSupplies_is _ _ _ _ _ _ _ _ _ net zs2 _ _ (h.later t2) (hz2.later t2) hs).mono ?_
        rintro e w3 ⟨rfl, b3⟩
        clear k0 k1
        have t3 := below_step t2 b3
        have s3 := below_step s2 b3
        obtain ⟨k0, k1⟩ := box_cells s3
        go_wp2_with fail
        refine (outflows_any _ _ _ _ _ _ net _ _ _ zs _ (h.later t3) (hz.later t3) hv hf).mono ?_
        rintro e w4 ⟨Ao, co, rfl, oo, fo, b4⟩
        clear k0 k1
        have t4 := below_step t3 b4
        have s4 := below_step s3 b4
        obtain ⟨k0, k1⟩ := box_cells s4
        go_wp2_with fail
        refine (slicesEqual_any _ _ _ _ _ _ _ _ _ oo.ints (hz2.later t4)).mono ?_
        rintro e w5 ⟨rfl, q, rfl⟩
        go_wp2_with fail
        go_ret
        exact ⟨ret_bool HR.out.symm, below_drew t4 _⟩

def drL (net : Net) (zs : List Int) (k : Nat) : List Int := mapTo k (fun j => drp (pp net.pipes j).k (ig zs j))
def drH (net : Net) (zs : List Int) (m k : Nat) : List Int := mapTo m (fun j => if j < k then drp (pp net.pipes j).k (ig zs j) else 0)
theorem drL_len (net : Net) (zs : List Int) (k : Nat) : (drL net zs k).length = k := mapTo_len _ _
theorem drH_set {net : Net} {zs : List Int} {m k : Nat} : (drH net zs m k).set k (drp (pp net.pipes k).k (ig zs k)) = drH net zs m (k + 1) := mapTo_set fun v _ => by
  by_cases e : k = v
  · subst e; simp
  · rw [if_neg e]
    by_cases h : v < k
    · rw [if_pos h, if_pos (by omega)]
    · rw [if_neg h, if_neg (by omega)]
theorem drH_zero {net : Net} {zs : List Int} {m : Nat} : List.replicate m 0 = drH net zs m 0 := by
  refine ext_ig (by simp [drH, mapTo_len]) fun j hj => ?_
  rw [List.length_replicate] at hj
  rw [drH, mapTo_ig hj, ig_lt (by simpa using hj)]; simp
theorem drH_end {net : Net} {zs : List Int} {m : Nat} : drH net zs m m = drL net zs m := List.map_congr_left fun v hv => by simp [List.mem_range.1 hv]
theorem drL_succ {net : Net} {zs : List Int} {k : Nat} : drL net zs (k + 1) = drL net zs k ++ [drp (pp net.pipes k).k (ig zs k)] := by
  unfold drL mapTo; rw [List.range_succ, List.map_append]; rfl
def rDropsOf (net : Net) (zs : List Int) : List Int × Int := if codeF net zs = 0 then (drL net zs net.pipes.length, 0) else ([], codeF net zs)
theorem rDropsOf_len (net : Net) (zs : List Int) (_h : zs.length ≤ 1048576) : (rDropsOf net zs).1.length ≤ 1048576 := by
  unfold rDropsOf
  by_cases hz0 : codeF net zs = 0
  · rw [if_pos hz0]
    have := netB_sizes (codeF_zero hz0).1
    show (drL _ _ _).length ≤ _
    rw [drL_len]; omega
  · rw [if_neg hz0]; simp

end Go.Proofs.Ytfiikbcffpcbkaa
