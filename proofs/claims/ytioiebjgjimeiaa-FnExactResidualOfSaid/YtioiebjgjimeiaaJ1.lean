/- IsBalanced, DropsOf, OverLimit -/
import Derived.Test.YtioiebjgjimeiaaH0
import Derived.Test.YtioiebjgjimeiaaTrk
namespace Go.Proofs.Ytioiebjgjimeiaa
open Go.RowKit

set_option maxHeartbeats 1000000 in
theorem slicesEqual_any (A B : Option Addr) (n m c d : Nat) (xs ys : List Int) (w : World) (h : Ints w A n c xs) (g : Ints w B m d ys) :
    Calls Try.prog 82 #[.slice A n c, .slice B m d] w fun e w' => e = .returned (.bool (eqL xs ys)) ∧ ∃ q, w' = w.drewN q := by
  have hle := h.le
  have hcap := h.cap
  have hlen := Lib.hid h.len
  have glen := Lib.hid g.len
  by_cases hnm : n = m
  · subst hnm
    go_enter Try.func82, Try.ntmps82
    go_wp2
    go_loopw [13] (fun i wr => ∃ k : Nat, k ≤ n ∧ i = .int .i64 k ∧ Hid (∀ j, j < k → ig xs j = ig ys j) ∧ ∃ q, wr = w.drewN q) (fun i _ => n - (intOf i).toNat)
    case atStart => exact ⟨0, by omega, rfl, Lib.hid (fun j hj => absurd hj (by omega)), 0, rfl⟩
    case round =>
      obtain ⟨k, hk, rfl, hq, q, rfl⟩ := hrel
      by_cases hlt : k < n
      · obtain ⟨b, off, rfl, hbl, hc⟩ := h.cells (by omega)
        obtain ⟨b', off', rfl, hbl', hc'⟩ := g.cells (by omega)
        have hck := hc k hlt
        have hck' := hc' k hlt
        clear hc hc'
        go_wp2
        go_quiet (fail)
        go_wp2
        · go_ret
          exact ⟨ret_bool (eqL_ne (k := k) (by simpa using ‹(ig xs k != ig ys k) = true›)).symm, _, World.drewN_drewN _ _ _⟩
        · go_roundw
          case rel => exact ⟨k + 1, by omega, by go_num, Lib.hid (fun j hj => by
            rcases Nat.lt_or_ge j k with h' | h'
            · exact hq.out j h'
            · have : j = k := by omega
              subst this; simpa using ‹(ig xs j != ig ys j) = false›), _, rfl⟩
          case measure => simp [intOf]; omega
      · go_wp2
        go_ret
        exact ⟨ret_bool (eqL_of (by rw [hlen.out, glen.out]) (by rw [hlen.out]; omega) hq.out).symm, _, rfl⟩
  · have hne : ((n : Int) != (m : Int)) = true := by simp; omega
    go_enter Try.func82, Try.ntmps82
    go_wp2
    go_ret
    exact ⟨ret_bool (eqL_len (by rw [hlen.out, glen.out]; exact hnm)).symm, 0, rfl⟩

set_option maxHeartbeats 1000000 in
theorem l06Same_any (A B : Option Addr) (n m c d : Nat) (xs ys : List Int) (w : World) (h : Ints w A n c xs) (g : Ints w B m d ys) :
    Calls Try.prog 85 #[.slice A n c, .slice B m d] w fun e w' => e = .returned (.bool (eqL xs ys)) ∧ ∃ q, w' = w.drewN q := by
  have hle := h.le
  have hcap := h.cap
  have hlen := Lib.hid h.len
  have glen := Lib.hid g.len
  by_cases hnm : n = m
  · subst hnm
    go_enter Try.func85, Try.ntmps85
    go_wp2
    go_loopw [5] (fun i wr => ∃ k : Nat, k ≤ n ∧ i = .int .i64 k ∧ Hid (∀ j, j < k → ig xs j = ig ys j) ∧ ∃ q, wr = w.drewN q) (fun i _ => n - (intOf i).toNat)
    case atStart => exact ⟨0, by omega, rfl, Lib.hid (fun j hj => absurd hj (by omega)), 0, rfl⟩
    case round =>
      obtain ⟨k, hk, rfl, hq, q, rfl⟩ := hrel
      by_cases hlt : k < n
      · obtain ⟨b, off, rfl, hbl, hc⟩ := h.cells (by omega)
        obtain ⟨b', off', rfl, hbl', hc'⟩ := g.cells (by omega)
        have hck := hc k hlt
        have hck' := hc' k hlt
        clear hc hc'
        go_wp2
        go_quiet (fail)
        go_wp2
        · go_ret
          exact ⟨ret_bool (eqL_ne (k := k) (by simpa using ‹(ig xs k != ig ys k) = true›)).symm, _, World.drewN_drewN _ _ _⟩
        · go_roundw
          case rel => exact ⟨k + 1, by omega, by go_num, Lib.hid (fun j hj => by
            rcases Nat.lt_or_ge j k with h' | h'
            · exact hq.out j h'
            · have : j = k := by omega
              subst this; simpa using ‹(ig xs j != ig ys j) = false›), _, rfl⟩
          case measure => simp [intOf]; omega
      · go_wp2
        go_ret
        exact ⟨ret_bool (eqL_of (by rw [hlen.out, glen.out]) (by rw [hlen.out]; omega) hq.out).symm, _, rfl⟩
  · have hne : ((n : Int) != (m : Int)) = true := by simp; omega
    go_enter Try.func85, Try.ntmps85
    go_wp2
    go_ret
    exact ⟨ret_bool (eqL_len (by rw [hlen.out, glen.out]; exact hnm)).symm, 0, rfl⟩

def rIsBalanced (net : Net) (zs zs2 : List Int) : Bool := netB net && flowB net zs && supB net zs2 && eqL (outL net.nodes.length net.pipes zs net.pipes.length) zs2

set_option maxHeartbeats 2000000 in
theorem implIsBalanced_any (A : Option Addr) (n c : Nat) (B : Option Addr) (m d : Nat) (net : Net) (C : Option Addr) (l e : Nat) (zs : List Int) (C2 : Option Addr) (l2 e2 : Nat) (zs2 : List Int) (w : World) (h : NetAt w A n c B m d net) (hz : Ints w C l e zs) (hz2 : Ints w C2 l2 e2 zs2) :
    Calls Try.prog 22 #[.agg #[.slice A n c, .slice B m d], .slice C l e, .slice C2 l2 e2] w fun e w' => e = .returned (.bool (rIsBalanced net zs zs2)) ∧ Below w.heap.size w w' := by
  have HB := Lib.hid (bel1 w (.cells #[.slice A n c, .slice B m d] 27))
  have hnl := h.nodes.len
  have hml := h.pipes.len
  rcases hv : netB net with _ | _
  · have HR : Hid (rIsBalanced net zs zs2 = false) := Lib.hid (by unfold rIsBalanced; rw [hv]; rfl)
    go_enter Try.func22, Try.ntmps22
    go_wp2_with fail
    refine (implIsNetwork_is _ _ _ _ _ _ net _ _ (h.later HB.out) hv).mono ?_
    rintro e w1 ⟨rfl, b1⟩
    have t1 := below_step HB.out b1
    have s1 := b1
    obtain ⟨k0, k1⟩ := box_cells s1
    go_wp2_with fail
    go_ret
    exact ⟨ret_bool HR.out.symm, t1⟩
  · rcases hf : flowB net zs with _ | _
    · have HR : Hid (rIsBalanced net zs zs2 = false) := Lib.hid (by unfold rIsBalanced; rw [hv, hf]; rfl)
      go_enter Try.func22, Try.ntmps22
      go_wp2_with fail
      refine (implIsNetwork_is _ _ _ _ _ _ net _ _ (h.later HB.out) hv).mono ?_
      rintro e w1 ⟨rfl, b1⟩
      have t1 := below_step HB.out b1
      have s1 := b1
      obtain ⟨k0, k1⟩ := box_cells s1
      go_wp2_with fail
      refine (isFlowList_is _ _ _ _ _ _ _ _ _ net zs _ _ (h.later t1) (hz.later t1) hf).mono ?_
      rintro e w2 ⟨rfl, b2⟩
      clear k0 k1
      have t2 := below_step t1 b2
      have s2 := below_step s1 b2
      obtain ⟨k0, k1⟩ := box_cells s2
      go_wp2_with fail
      go_ret
      exact ⟨ret_bool HR.out.symm, t2⟩
    · rcases hs : supB net zs2 with _ | _
      · have HR : Hid (rIsBalanced net zs zs2 = false) := Lib.hid (by unfold rIsBalanced; rw [hv, hf, hs]; rfl)
        go_enter Try.func22, Try.ntmps22
        go_wp2_with fail
        refine (implIsNetwork_is _ _ _ _ _ _ net _ _ (h.later HB.out) hv).mono ?_
        rintro e w1 ⟨rfl, b1⟩
        have t1 := below_step HB.out b1
        have s1 := b1
        obtain ⟨k0, k1⟩ := box_cells s1
        go_wp2_with fail
        refine (isFlowList_is _ _ _ _ _ _ _ _ _ net zs _ _ (h.later t1) (hz.later t1) hf).mono ?_
        rintro e w2 ⟨rfl, b2⟩
        clear k0 k1
        have t2 := below_step t1 b2
        have s2 := below_step s1 b2
        obtain ⟨k0, k1⟩ := box_cells s2
        go_wp2_with fail
        refine (areSupplies_is _ _ _ _ _ _ _ _ _ net zs2 _ _ (h.later t2) (hz2.later t2) hs).mono ?_
        rintro e w3 ⟨rfl, b3⟩
        clear k0 k1
        have t3 := below_step t2 b3
        have s3 := below_step s2 b3
        obtain ⟨k0, k1⟩ := box_cells s3
        go_wp2_with fail
        go_ret
        exact ⟨ret_bool HR.out.symm, t3⟩
      · have HR : Hid (rIsBalanced net zs zs2 = eqL (outL n net.pipes zs m) zs2) := Lib.hid (by unfold rIsBalanced; rw [hv, hf, hs, hnl, hml]; rfl)
        go_enter Try.func22, Try.ntmps22
        go_wp2_with fail
        refine (implIsNetwork_is _ _ _ _ _ _ net _ _ (h.later HB.out) hv).mono ?_
        rintro e w1 ⟨rfl, b1⟩
        have t1 := below_step HB.out b1
        have s1 := b1
        obtain ⟨k0, k1⟩ := box_cells s1
        go_wp2_with fail
        refine (isFlowList_is _ _ _ _ _ _ _ _ _ net zs _ _ (h.later t1) (hz.later t1) hf).mono ?_
        rintro e w2 ⟨rfl, b2⟩
        clear k0 k1
        have t2 := below_step t1 b2
        have s2 := below_step s1 b2
        obtain ⟨k0, k1⟩ := box_cells s2
        go_wp2_with fail
        refine (areSupplies_is _ _ _ _ _ _ _ _ _ net zs2 _ _ (h.later t2) (hz2.later t2) hs).mono ?_
        rintro e w3 ⟨rfl, b3⟩
        clear k0 k1
        have t3 := below_step t2 b3
        have s3 := below_step s2 b3
        obtain ⟨k0, k1⟩ := box_cells s3
        go_wp2_with fail
        refine (outflows_any _ _ _ _ _ _ net _ _ _ zs _ (h.later t3) (hz.later t3) hv hf).mono ?_
        rintro e w4 ⟨Ao, co, rfl, oo, fo, b4⟩
        clear k0 k1
        have t4 := below_step t3 b4
        have s4 := below_step s3 b4
        obtain ⟨k0, k1⟩ := box_cells s4
        go_wp2_with fail
        refine (slicesEqual_any _ _ _ _ _ _ _ _ _ oo.ints (hz2.later t4)).mono ?_
        rintro e w5 ⟨rfl, q, rfl⟩
        go_wp2_with fail
        go_ret
        exact ⟨ret_bool HR.out.symm, below_drew t4 _⟩

set_option maxHeartbeats 2000000 in
theorem specIsBalanced_any (A : Option Addr) (n c : Nat) (B : Option Addr) (m d : Nat) (net : Net) (C : Option Addr) (l e : Nat) (zs : List Int) (C2 : Option Addr) (l2 e2 : Nat) (zs2 : List Int) (w : World) (h : NetAt w A n c B m d net) (hz : Ints w C l e zs) (hz2 : Ints w C2 l2 e2 zs2) :
    Calls Try.prog 23 #[.agg #[.slice A n c, .slice B m d], .slice C l e, .slice C2 l2 e2] w fun e w' => e = .returned (.bool (rIsBalanced net zs zs2)) ∧ Below w.heap.size w w' := by
  have HB := Lib.hid (bel1 w (.cells #[.slice A n c, .slice B m d] 27))
  have hnl := h.nodes.len
  have hml := h.pipes.len
  rcases hv : netB net with _ | _
  · have HR : Hid (rIsBalanced net zs zs2 = false) := Lib.hid (by unfold rIsBalanced; rw [hv]; rfl)
    go_enter Try.func23, Try.ntmps23
    go_wp2_with fail
    refine (specIsNetwork_is _ _ _ _ _ _ net _ _ (h.later HB.out) hv).mono ?_
    rintro e w1 ⟨rfl, b1⟩
    have t1 := below_step HB.out b1
    have s1 := b1
    obtain ⟨k0, k1⟩ := box_cells s1
    go_wp2_with fail
    go_ret
    exact ⟨ret_bool HR.out.symm, t1⟩
  · rcases hf : flowB net zs with _ | _
    · have HR : Hid (rIsBalanced net zs zs2 = false) := Lib.hid (by unfold rIsBalanced; rw [hv, hf]; rfl)
      go_enter Try.func23, Try.ntmps23
      go_wp2_with fail
      refine (specIsNetwork_is _ _ _ _ _ _ net _ _ (h.later HB.out) hv).mono ?_
      rintro e w1 ⟨rfl, b1⟩
      have t1 := below_step HB.out b1
      have s1 := b1
      obtain ⟨k0, k1⟩ := box_cells s1
      go_wp2_with fail
      refine (l05List_is _ _ _ _ _ _ _ _ _ net zs _ _ (h.later t1) (hz.later t1) hf).mono ?_
      rintro e w2 ⟨rfl, b2⟩
      clear k0 k1
      have t2 := below_step t1 b2
      have s2 := below_step s1 b2
      obtain ⟨k0, k1⟩ := box_cells s2
      go_wp2_with fail
      go_ret
      exact ⟨ret_bool HR.out.symm, t2⟩
    · rcases hs : supB net zs2 with _ | _
      · have HR : Hid (rIsBalanced net zs zs2 = false) := Lib.hid (by unfold rIsBalanced; rw [hv, hf, hs]; rfl)
        go_enter Try.func23, Try.ntmps23
        go_wp2_with fail
        refine (specIsNetwork_is _ _ _ _ _ _ net _ _ (h.later HB.out) hv).mono ?_
        rintro e w1 ⟨rfl, b1⟩
        have t1 := below_step HB.out b1
        have s1 := b1
        obtain ⟨k0, k1⟩ := box_cells s1
        go_wp2_with fail
        refine (l05List_is _ _ _ _ _ _ _ _ _ net zs _ _ (h.later t1) (hz.later t1) hf).mono ?_
        rintro e w2 ⟨rfl, b2⟩
        clear k0 k1
        have t2 := below_step t1 b2
        have s2 := below_step s1 b2
        obtain ⟨k0, k1⟩ := box_cells s2
        go_wp2_with fail
        refine (l06List_is _ _ _ _ _ _ _ _ _ net zs2 _ _ (h.later t2) (hz2.later t2) hs).mono ?_
        rintro e w3 ⟨rfl, b3⟩
        clear k0 k1
        have t3 := below_step t2 b3
        have s3 := below_step s2 b3
        obtain ⟨k0, k1⟩ := box_cells s3
        go_wp2_with fail
        go_ret
        exact ⟨ret_bool HR.out.symm, t3⟩
      · have HR : Hid (rIsBalanced net zs zs2 = eqL (outL n net.pipes zs m) zs2) := Lib.hid (by unfold rIsBalanced; rw [hv, hf, hs, hnl, hml]; rfl)
        go_enter Try.func23, Try.ntmps23
        go_wp2_with fail
        refine (specIsNetwork_is _ _ _ _ _ _ net _ _ (h.later HB.out) hv).mono ?_
        rintro e w1 ⟨rfl, b1⟩
        have t1 := below_step HB.out b1
        have s1 := b1
        obtain ⟨k0, k1⟩ := box_cells s1
        go_wp2_with fail
        refine (l05List_is _ _ _ _ _ _ _ _ _ net zs _ _ (h.later t1) (hz.later t1) hf).mono ?_
        rintro e w2 ⟨rfl, b2⟩
        clear k0 k1
        have t2 := below_step t1 b2
        have s2 := below_step s1 b2
        obtain ⟨k0, k1⟩ := box_cells s2
        go_wp2_with fail
        refine (l06List_is _ _ _ _ _ _ _ _ _ net zs2 _ _ (h.later t2) (hz2.later t2) hs).mono ?_
        rintro e w3 ⟨rfl, b3⟩
        clear k0 k1
        have t3 := below_step t2 b3
        have s3 := below_step s2 b3
        obtain ⟨k0, k1⟩ := box_cells s3
        go_wp2_with fail
        refine (l05Out_any _ _ _ _ _ _ net _ _ _ zs _ (h.later t3) (hz.later t3) hv hf).mono ?_
        rintro e w4 ⟨Ao, co, rfl, oo, fo, b4⟩
        clear k0 k1
        have t4 := below_step t3 b4
        have s4 := below_step s3 b4
        obtain ⟨k0, k1⟩ := box_cells s4
        go_wp2_with fail
        refine (l06Same_any _ _ _ _ _ _ _ _ _ oo.ints (hz2.later t4)).mono ?_
        rintro e w5 ⟨rfl, q, rfl⟩
        go_wp2_with fail
        go_ret
        exact ⟨ret_bool HR.out.symm, below_drew t4 _⟩

def drL (net : Net) (zs : List Int) (k : Nat) : List Int := mapTo k (fun j => drp (pp net.pipes j).k (ig zs j))
def drH (net : Net) (zs : List Int) (m k : Nat) : List Int := mapTo m (fun j => if j < k then drp (pp net.pipes j).k (ig zs j) else 0)
theorem drL_len (net : Net) (zs : List Int) (k : Nat) : (drL net zs k).length = k := mapTo_len _ _
theorem drH_set {net : Net} {zs : List Int} {m k : Nat} : (drH net zs m k).set k (drp (pp net.pipes k).k (ig zs k)) = drH net zs m (k + 1) := mapTo_set fun v _ => by
  by_cases e : k = v
  · subst e; simp
  · rw [if_neg e]
    by_cases h : v < k
    · rw [if_pos h, if_pos (by omega)]
    · rw [if_neg h, if_neg (by omega)]
theorem drH_zero {net : Net} {zs : List Int} {m : Nat} : List.replicate m 0 = drH net zs m 0 := by
  refine ext_ig (by simp [drH, mapTo_len]) fun j hj => ?_
  rw [List.length_replicate] at hj
  rw [drH, mapTo_ig hj, ig_lt (by simpa using hj)]; simp
theorem drH_end {net : Net} {zs : List Int} {m : Nat} : drH net zs m m = drL net zs m := List.map_congr_left fun v hv => by simp [List.mem_range.1 hv]
theorem drL_succ {net : Net} {zs : List Int} {k : Nat} : drL net zs (k + 1) = drL net zs k ++ [drp (pp net.pipes k).k (ig zs k)] := by
  unfold drL mapTo; rw [List.range_succ, List.map_append]; rfl
def rDropsOf (net : Net) (zs : List Int) : List Int × Int := if codeF net zs = 0 then (drL net zs net.pipes.length, 0) else ([], codeF net zs)
theorem rDropsOf_len (net : Net) (zs : List Int) (_h : zs.length ≤ 1048576) : (rDropsOf net zs).1.length ≤ 1048576 := by
  unfold rDropsOf
  by_cases hz0 : codeF net zs = 0
  · rw [if_pos hz0]
    have := netB_sizes (codeF_zero hz0).1
    show (drL _ _ _).length ≤ _
    rw [drL_len]; omega
  · rw [if_neg hz0]; simp

set_option maxRecDepth 100000 in
set_option maxHeartbeats 4000000 in
theorem implDropsOf_any (A : Option Addr) (n c : Nat) (B : Option Addr) (m d : Nat) (net : Net) (C : Option Addr) (l e : Nat) (zs : List Int) (w : World) (h : NetAt w A n c B m d net) (hz : Ints w C l e zs) :
    Calls Try.prog 50 #[.agg #[.slice A n c, .slice B m d], .slice C l e] w fun e w' => RetLI w (rDropsOf net zs) e w' := by
  have HB := Lib.hid (bel1 w (.cells #[.slice A n c, .slice B m d] 27))
  by_cases hz0 : codeF net zs = 0
  · have hF := hz0
    obtain ⟨hv, hs⟩ := codeF_zero hF
    have hml := h.pipes.len
    have hm40 := (netB_sizes hv).2.2
    rw [hml] at hm40
    have hlm : m = l := by have := flowB_len hs; have := hz.len; omega
    subst hlm
    have HV := Lib.hid hv
    have HS := Lib.hid hs
    have HM := Lib.hid hml
    have hple := h.pipes.le
    have hpcap := h.pipes.cap
    have hzle := hz.le
    have hzcap := hz.cap
    have HR : Hid (rDropsOf net zs = (drL net zs m, 0)) := Lib.hid (by unfold rDropsOf; rw [if_pos hz0, hml])
    clear hz0 hv hs
    go_enter Try.func50, Try.ntmps50
    go_wp2_with fail
    refine (checkFlows_is _ _ _ _ _ _ _ _ _ net zs _ _ (h.later HB.out) (hz.later HB.out) hF).mono ?_
    rintro e w1 ⟨rfl, b1⟩
    have t1 := below_step HB.out b1
    have s1 := b1
    obtain ⟨k0, k1⟩ := box_cells s1
    go_wp2_with (at_make; refine law_make _ rfl _ _ rfl m _ _ rfl rfl rfl rfl (by omega) ?_; intro w2 o2 b2 z2; clear k0 k1; obtain ⟨k0, k1⟩ := box_cells (below_step s1 b2))
    have t2 := below_step t1 b2
    clear k0 k1
    obtain ⟨gR, hgR⟩ : ∃ gR, w1.heap.size = gR := ⟨_, rfl⟩
    rw [hgR] at o2 ⊢
    have hgw : w.heap.size ≤ gR := by have := t1.size; omega
    rw [drH_zero (net := net) (zs := zs)] at o2
    go_loopw [22] (fun i wr => ∃ k : Nat, k ≤ m ∧ i = .int .i64 k ∧ Own wr (some ⟨gR, 0, none⟩) m m (drH net zs m k) ∧ Below w.heap.size w wr) (fun i _ => m - (intOf i).toNat)
    case atStart => exact ⟨0, by omega, rfl, o2, t2⟩
    case round =>
      obtain ⟨k, hk, rfl, oo, hb⟩ := hrel
      clear o2
      by_cases hlt : k < m
      · obtain ⟨bb, off, rfl, hbl, hc⟩ := (hz.later hb).cells (by omega)
        have hck := hc k hlt
        obtain ⟨bp, offp, rfl, hblp, hcp⟩ := (h.pipes.later hb).cells (by omega)
        obtain ⟨c0, c1, c2, c3, c4⟩ := hcp k hlt
        clear hc hcp
        have hkk : 1 ≤ (pp net.pipes k).k ∧ (pp net.pipes k).k ≤ 1000 := by have := netB_pipe_at HV.out (j := k) (by rw [HM.out]; omega); omega
        have hzk := flowB_all HS.out k
        obtain ⟨wq, hwq, bq, n0, n1, n2, n3, n4⟩ := pipe_box wr (pp net.pipes k)
        have hql : wr.heap.size < wq.heap.size := World.block_lt_of_cell? _ _ n0
        have hbs := hb.size
        have hbq : bb < wq.heap.size := by omega
        have hckq := (bq.cell (p := ⟨bb, off + k, none⟩) hbl).trans hck
        have oq := oo.later bq
        have hbw := below_step hb bq
        have hDb := drp_bnd (k := (pp net.pipes k).k) (q := ig zs k) (by omega) hkk.2 hzk.1 hzk.2
        have HWQ := Lib.hid hwq
        clear hwq oo hck
        go_wp2_with fail
        rw [← HWQ.out]
        clear c0 c1 c2 c3 c4
        apply wp_region_track [27, 28, 29, 30, 31, 32, 33, 34, 35] [eqv _, eqv _, eqv _, eqv _, eqv _, eqv _, eqv _, eqv (.int .i64 (drp (pp net.pipes k).k (ig zs k))), eqv _]
          (fun w' => Below wq.heap.size wq w') Grw (by kernel_rfl) (by kernel_rfl) rfl (by kernel_rfl)
        case hs =>
          refine ⟨?_, ?_, ?_, ?_, ?_, ?_, ?_, ?_, ?_, trivial⟩
          · intro ev wt ht hc hg hf hI hd
            have e7 : ev (.tmp 7) = .slice (some ⟨gR, 0, none⟩) m m := ht 7 (by decide)
            exact opok_move _ rfl ⟨hI, Below.refl _ _, e7⟩
          · intro ev wt ht hc hg hf hI hd
            have e8 : ev (.tmp 8) = .int .i64 k := ht 8 (by decide)
            exact opok_move _ rfl ⟨hI, Below.refl _ _, e8⟩
          · intro ev wt ht hc hg hf hI hd
            have e9 : ev (.tmp 9) = .pointer (some ⟨wr.heap.size, 0, none⟩) := ht 9 (by decide)
            have y0 := (hI.cell (p := ⟨wr.heap.size, 0, none⟩) hql).trans n0
            have y1 := (hI.cell (p := ⟨wr.heap.size, 1, none⟩) hql).trans n1
            have y2 := (hI.cell (p := ⟨wr.heap.size, 2, none⟩) hql).trans n2
            have y3 := (hI.cell (p := ⟨wr.heap.size, 3, none⟩) hql).trans n3
            have y4 := (hI.cell (p := ⟨wr.heap.size, 4, none⟩) hql).trans n4
            have y5 := (hI.cell (p := ⟨bb, off + k, none⟩) hbq).trans hckq
            refine opok_gen fun N hN => ?_
            clear hd ht
            go_simp
            exact hN.out _ _ ⟨hI, Below.refl _ _, rfl⟩
          · intro ev wt ht hc hg hf hI hd
            have e1 : ev (.tmp 1) = .slice (some ⟨bb, off, none⟩) m e := ht 1 (by decide)
            exact opok_move _ rfl ⟨hI, Below.refl _ _, e1⟩
          · intro ev wt ht hc hg hf hI hd
            have e8 : ev (.tmp 8) = .int .i64 k := ht 8 (by decide)
            exact opok_move _ rfl ⟨hI, Below.refl _ _, e8⟩
          · intro ev wt ht hc hg hf hI hd
            have e30 : ev (.tmp 30) = _ := hd 3 30 rfl rfl
            have e31 : ev (.tmp 31) = _ := hd 4 31 rfl rfl
            refine opok_gen fun N hN => ?_
            clear hd ht
            go_simp
            exact hN.out _ _ ⟨hI, Below.refl _ _, rfl⟩
          · intro ev wt ht hc hg hf hI hd
            have e32 : ev (.tmp 32) = _ := hd 5 32 rfl rfl
            have y0 := (hI.cell (p := ⟨wr.heap.size, 0, none⟩) hql).trans n0
            have y1 := (hI.cell (p := ⟨wr.heap.size, 1, none⟩) hql).trans n1
            have y2 := (hI.cell (p := ⟨wr.heap.size, 2, none⟩) hql).trans n2
            have y3 := (hI.cell (p := ⟨wr.heap.size, 3, none⟩) hql).trans n3
            have y4 := (hI.cell (p := ⟨wr.heap.size, 4, none⟩) hql).trans n4
            have y5 := (hI.cell (p := ⟨bb, off + k, none⟩) hbq).trans hckq
            refine opok_gen fun N hN => ?_
            clear hd ht
            go_simp
            exact hN.out _ _ ⟨hI, Below.refl _ _, rfl⟩
          · intro ev wt ht hc hg hf hI hd
            have e29 : ev (.tmp 29) = _ := hd 2 29 rfl rfl
            have e33 : ev (.tmp 33) = _ := hd 6 33 rfl rfl
            refine opok_gen fun N hN => ?_
            clear hd ht
            go_simp
            refine opok_call ?_
            refine (dropOf_any _ _ _ _ _ _ _ hkk hzk).mono ?_
            rintro e w4 ⟨rfl, b4⟩
            exact ⟨_, rfl, hN.out _ _ ⟨below_step hI b4, b4, rfl⟩⟩
          · intro ev wt ht hc hg hf hI hd
            have e27 : ev (.tmp 27) = _ := hd 0 27 rfl rfl
            have e28 : ev (.tmp 28) = _ := hd 1 28 rfl rfl
            refine opok_gen fun N hN => ?_
            clear hd ht
            go_simp
            exact hN.out _ _ ⟨hI, Below.refl _ _, rfl⟩
        case hst =>
          refine fun j v w w' _ h1 h2 => StbL.nth (S := Grw) ?_ j v w w' h1 h2
          exact ⟨stb_eqv _, stb_eqv _, stb_eqv _, stb_eqv _, stb_eqv _, stb_eqv _, stb_eqv _, stb_eqv _, stb_eqv _, trivial⟩
        case hI => exact (Below.refl _ _).drew
        case hl =>
          rintro wt hI _ rfl _ rfl _ rfl _ rfl _ rfl _ rfl _ rfl _ rfl _ rfl
          simp only [Lasts, List.length_cons, List.length_nil, Nat.reduceAdd, List.drop_succ_cons, List.drop_zero, Act.put, List.setIfInBounds_toArray, List.set_cons_succ, List.set_cons_zero]
          have ot := oq.later hI
          have ct := ot.cell hlt
          have ut := ot.unfrozen k
          have os := ot.store k (z := drp (pp net.pipes k).k (ig zs k)) ⟨by omega, by omega⟩
          rw [drH_set] at os
          have OS := Lib.hid os
          have BS := Lib.hid ((below_step hbw hI).setCell (p := ⟨gR, k, none⟩) hgw (.int .i64 (drp (pp net.pipes k).k (ig zs k))))
          clear os ot
          go_wp2_with fail
          go_roundw
          case rel => exact ⟨k + 1, by omega, by go_num, OS.out, BS.out⟩
          case measure => simp [intOf]; omega
      · have hkm : m = k := by omega
        subst hkm
        rw [drH_end] at oo
        go_wp2_with fail
        go_ret2
        exact retLI_own rfl HR.out oo (fun a ha => by injection ha with ha; subst ha; exact hgw) hb
  · obtain ⟨r, hF⟩ : ∃ r, codeF net zs = r := ⟨_, rfl⟩
    rw [hF] at hz0
    have hne : (r != 0) = true := by simp [hz0]
    have HR : Hid (rDropsOf net zs = ([], r)) := Lib.hid (by unfold rDropsOf; rw [hF, if_neg hz0])
    go_enter Try.func50, Try.ntmps50
    go_wp2_with fail
    refine (checkFlows_is _ _ _ _ _ _ _ _ _ net zs _ _ (h.later HB.out) (hz.later HB.out) hF).mono ?_
    rintro e w1 ⟨rfl, b1⟩
    have t1 := below_step HB.out b1
    have s1 := b1
    obtain ⟨k0, k1⟩ := box_cells s1
    go_wp2_with fail
    go_ret2
    exact retLI_nil rfl HR.out t1

set_option maxRecDepth 100000 in
set_option maxHeartbeats 4000000 in
theorem l07Drops_any (A : Option Addr) (n c : Nat) (B : Option Addr) (m d : Nat) (net : Net) (C : Option Addr) (l e : Nat) (zs : List Int) (w : World) (h : NetAt w A n c B m d net) (hz : Ints w C l e zs) (hv : netB net = true) (hs : flowB net zs = true) :
    Calls Try.prog 119 #[.agg #[.slice A n c, .slice B m d], .slice C l e] w fun e w' => ∃ Ao co, e = .returned (.slice Ao m co) ∧ Own w' Ao m co (drL net zs m) ∧ Fresh w.heap.size Ao ∧ Below w.heap.size w w' := by
  have HB := Lib.hid (bel1 w (.cells #[.slice A n c, .slice B m d] 27))
  have hml := h.pipes.len
  have hm40 := (netB_sizes hv).2.2
  rw [hml] at hm40
  have hlm : m = l := by have := flowB_len hs; have := hz.len; omega
  subst hlm
  have HV := Lib.hid hv
  have HS := Lib.hid hs
  have HM := Lib.hid hml
  have hzle := hz.le
  have hzcap := hz.cap
  clear hml hv hs
  have o0 := own_lit0 (w.alloc (.cells #[.slice A n c, .slice B m d] 27))
  have hs0 : (w.alloc (.cells #[.slice A n c, .slice B m d] 27)).heap.size = w.heap.size + 1 := by simp
  rw [hs0] at o0
  go_enter Try.func119, Try.ntmps119
  go_wp2_with fail
  go_loopw [5, 6] (fun o i wr => ∃ (k : Nat) (Ao : Option Addr) (co : Nat), k ≤ m ∧ o = .slice Ao k co ∧ i = .int .i64 k ∧ Own wr Ao k co (drL net zs k) ∧ Fresh (w.heap.size + 1) Ao ∧ Below (w.alloc (.cells #[.slice A n c, .slice B m d] 27)).heap.size (w.alloc (.cells #[.slice A n c, .slice B m d] 27)) wr) (fun _ i _ => m - (intOf i).toNat)
  case atStart => exact ⟨0, some ⟨w.heap.size + 1, 0, none⟩, 0, by omega, rfl, rfl, o0, (fun a ha => by injection ha with ha; subst ha; exact Nat.le_refl _), bel1 _ _⟩
  case round =>
    obtain ⟨k, Ao, co, hk, rfl, rfl, oo, fo, hx⟩ := hrel
    clear o0
    have hb := below_step HB.out hx
    by_cases hlt : k < m
    · obtain ⟨bb, off, rfl, hbl, hc⟩ := (hz.later hb).cells (by omega)
      have hck := hc k hlt
      clear hc
      have hkk : 1 ≤ (pp net.pipes k).k ∧ (pp net.pipes k).k ≤ 1000 := by have := netB_pipe_at HV.out (j := k) (by rw [HM.out]; omega); omega
      have hzk := flowB_all HS.out k
      have hDb := drp_bnd (k := (pp net.pipes k).k) (q := ig zs k) (by omega) hkk.2 hzk.1 hzk.2
      go_wp2_with fail
      apply wp_region_track [14, 15, 16, 17, 18, 19, 20, 21, 22] [eqv _, eqv _, eqv _, eqv _, eqv _, eqv _, eqv _, eqv (.int .i64 (drp (pp net.pipes k).k (ig zs k))), isRow 0 1 1 [drp (pp net.pipes k).k (ig zs k)]]
        (fun w' => Below wr.heap.size wr w') Grw (by kernel_rfl) (by kernel_rfl) rfl (by kernel_rfl)
      case hs =>
        refine ⟨?_, ?_, ?_, ?_, ?_, ?_, ?_, ?_, ?_, trivial⟩
        · intro ev wt ht hc hg hf hI hd
          have e5 : ev (.tmp 5) = .slice Ao k co := ht 5 (by decide)
          exact opok_move _ rfl ⟨hI, Below.refl _ _, e5⟩
        · intro ev wt ht hc hg hf hI hd
          have e2 : ev (.tmp 2) = .pointer (some ⟨w.heap.size, 0, none⟩) := ht 2 (by decide)
          obtain ⟨y0, y1⟩ := box_cells (below_step hx hI)
          have y5 := (hI.cell (p := ⟨bb, off + k, none⟩) hbl).trans hck
          refine opok_gen fun N hN => ?_
          clear hd ht
          go_simp
          exact hN.out _ _ ⟨hI, Below.refl _ _, rfl⟩
        · intro ev wt ht hc hg hf hI hd
          have e6 : ev (.tmp 6) = .int .i64 k := ht 6 (by decide)
          exact opok_move _ rfl ⟨hI, Below.refl _ _, e6⟩
        · intro ev wt ht hc hg hf hI hd
          have e1 : ev (.tmp 1) = .slice (some ⟨bb, off, none⟩) m e := ht 1 (by decide)
          exact opok_move _ rfl ⟨hI, Below.refl _ _, e1⟩
        · intro ev wt ht hc hg hf hI hd
          have e6 : ev (.tmp 6) = .int .i64 k := ht 6 (by decide)
          exact opok_move _ rfl ⟨hI, Below.refl _ _, e6⟩
        · intro ev wt ht hc hg hf hI hd
          have e17 : ev (.tmp 17) = _ := hd 3 17 rfl rfl
          have e18 : ev (.tmp 18) = _ := hd 4 18 rfl rfl
          refine opok_gen fun N hN => ?_
          clear hd ht
          go_simp
          exact hN.out _ _ ⟨hI, Below.refl _ _, rfl⟩
        · intro ev wt ht hc hg hf hI hd
          have e19 : ev (.tmp 19) = _ := hd 5 19 rfl rfl
          obtain ⟨y0, y1⟩ := box_cells (below_step hx hI)
          have y5 := (hI.cell (p := ⟨bb, off + k, none⟩) hbl).trans hck
          refine opok_gen fun N hN => ?_
          clear hd ht
          go_simp
          exact hN.out _ _ ⟨hI, Below.refl _ _, rfl⟩
        · intro ev wt ht hc hg hf hI hd
          have e15 : ev (.tmp 15) = _ := hd 1 15 rfl rfl
          have e16 : ev (.tmp 16) = _ := hd 2 16 rfl rfl
          have e20 : ev (.tmp 20) = _ := hd 6 20 rfl rfl
          refine opok_gen fun N hN => ?_
          clear hd ht
          go_simp
          refine opok_call ?_
          refine (l07Drop_any _ _ _ _ _ _ net _ _ _ (h.later (below_step hb hI)) (by omega) (by simpa using hkk) hzk).mono ?_
          rintro e w4 ⟨rfl, b4⟩
          exact ⟨_, rfl, hN.out _ _ ⟨below_step hI b4, b4, by rw [Int.toNat_natCast]; rfl⟩⟩
        · intro ev wt ht hc hg hf hI hd
          have e21 : ev (.tmp 21) = _ := hd 7 21 rfl rfl
          refine opok_gen fun N hN => ?_
          clear hd ht
          go_simp
          exact hN.out _ _ ⟨below_step hI (bel1 _ _), bel1 _ _, ⟨_, rfl, own_lit _ _ ⟨by omega, by omega⟩, Nat.zero_le _⟩⟩
      case hst =>
        refine fun j v w w' _ h1 h2 => StbL.nth (S := Grw) ?_ j v w w' h1 h2
        exact ⟨stb_eqv _, stb_eqv _, stb_eqv _, stb_eqv _, stb_eqv _, stb_eqv _, stb_eqv _, stb_eqv _, stb_row, trivial⟩
      case hI => exact (Below.refl _ _).drew
      case hl =>
        rintro wt hI _ rfl _ rfl _ rfl _ rfl _ rfl _ rfl _ rfl _ rfl _ ⟨bq, rfl, oq, _⟩
        simp only [Lasts, List.length_cons, List.length_nil, Nat.reduceAdd, List.drop_succ_cons, List.drop_zero, Act.put, List.setIfInBounds_toArray, List.set_cons_succ, List.set_cons_zero]
        have ot := oo.later hI
        have hxt := below_step hx hI
        have cq : wt.cell? ⟨bq, 0, none⟩ = some (.int .i64 (drp (pp net.pipes k).k (ig zs k))) := oq.cell (j := 0) (by omega)
        go_wp2_with (at_builtin; refine law_append _ rfl _ _ rfl Ao _ co _ rfl ot _ _ _ ⟨by omega, by omega⟩ rfl cq (by omega) ?_; intro A3 c3 w3 ho3 hg3 hb3)
        go_roundw
        case rel => exact ⟨k + 1, A3, c3, by omega, rfl, by go_num, by rw [drL_succ]; exact ho3, fresh_app fo (by have := hxt.size; omega) hb3, hxt.grown hg3 hxt.size (fun i hi => by have := fresh_row fo i hi; omega)⟩
        case measure => simp [intOf]; omega
    · have hkm : m = k := by omega
      subst hkm
      go_wp2_with fail
      go_ret
      exact ⟨Ao, co, rfl, oo, fresh_up fo (by omega), hb⟩

set_option maxHeartbeats 2000000 in
theorem specDropsOf_any (A : Option Addr) (n c : Nat) (B : Option Addr) (m d : Nat) (net : Net) (C : Option Addr) (l e : Nat) (zs : List Int) (w : World) (h : NetAt w A n c B m d net) (hz : Ints w C l e zs) :
    Calls Try.prog 51 #[.agg #[.slice A n c, .slice B m d], .slice C l e] w fun e w' => RetLI w (rDropsOf net zs) e w' := by
  have HB := Lib.hid (bel1 w (.cells #[.slice A n c, .slice B m d] 27))
  by_cases hz0 : codeF net zs = 0
  · obtain ⟨hv, hs⟩ := codeF_zero hz0
    have hF := hz0
    have hml := h.pipes.len
    have HR : Hid (rDropsOf net zs = (drL net zs m, 0)) := Lib.hid (by unfold rDropsOf; rw [if_pos hz0, hml])
    go_enter Try.func51, Try.ntmps51
    go_wp2_with fail
    refine (l05Code_is _ _ _ _ _ _ _ _ _ net zs _ _ (h.later HB.out) (hz.later HB.out) hF).mono ?_
    rintro e w1 ⟨rfl, b1⟩
    have t1 := below_step HB.out b1
    have s1 := b1
    obtain ⟨k0, k1⟩ := box_cells s1
    go_wp2_with fail
    refine (l07Drops_any _ _ _ _ _ _ net _ _ _ zs _ (h.later t1) (hz.later t1) hv hs).mono ?_
    rintro e w2 ⟨Ao, co, rfl, oo, fo, b2⟩
    clear k0 k1
    have t2 := below_step t1 b2
    have s2 := below_step s1 b2
    obtain ⟨k0, k1⟩ := box_cells s2
    go_wp2_with fail
    go_ret2
    exact retLI_own rfl HR.out oo (fresh_up fo t1.size) t2
  · obtain ⟨r, hF⟩ : ∃ r, codeF net zs = r := ⟨_, rfl⟩
    rw [hF] at hz0
    have hne : (r != 0) = true := by simp [hz0]
    have HR : Hid (rDropsOf net zs = ([], r)) := Lib.hid (by unfold rDropsOf; rw [hF, if_neg hz0])
    go_enter Try.func51, Try.ntmps51
    go_wp2_with fail
    refine (l05Code_is _ _ _ _ _ _ _ _ _ net zs _ _ (h.later HB.out) (hz.later HB.out) hF).mono ?_
    rintro e w1 ⟨rfl, b1⟩
    have t1 := below_step HB.out b1
    have s1 := b1
    obtain ⟨k0, k1⟩ := box_cells s1
    go_wp2_with fail
    go_ret2
    exact retLI_nil rfl HR.out t1

end Go.Proofs.Ytioiebjgjimeiaa
