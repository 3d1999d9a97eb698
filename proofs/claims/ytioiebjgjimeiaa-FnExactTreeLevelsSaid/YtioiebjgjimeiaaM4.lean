/- ForestFlows, TreeFlows -/
import Derived.Test.YtioiebjgjimeiaaM2
import Derived.Test.YtioiebjgjimeiaaM3
import Derived.Test.YtioiebjgjimeiaaI4
namespace Go.Proofs.Ytioiebjgjimeiaa
open Go.RowKit

noncomputable def ffL (net : Net) (zs : List Int) : List Int := mapTo net.pipes.length ((netG net).ffl (ig zs))
theorem ffL_len (net : Net) (zs : List Int) : (ffL net zs).length = net.pipes.length := mapTo_len _ _
noncomputable def rFF (net : Net) (zs : List Int) : List Int × Int := if evB net zs then (if allB (ffL net zs) (-30000) 30000 then (ffL net zs, 0) else ([], 2)) else ([], 5)
noncomputable def rForestFlows (net : Net) (zs : List Int) : List Int × Int := if codeS net zs = 0 then rFF net zs else ([], codeS net zs)
theorem flowB_ffL (net : Net) (zs : List Int) : flowB net (ffL net zs) = allB (ffL net zs) (-30000) 30000 := by
  unfold flowB; rw [ffL_len]; simp
theorem rFF_len {net : Net} (hv : netB net = true) (zs : List Int) : (rFF net zs).1.length ≤ 40 := by
  unfold rFF
  split
  · split
    · show (ffL net zs).length ≤ _
      rw [ffL_len]; exact (netB_sizes hv).2.2
    · simp
  · simp
theorem rForestFlows_len (net : Net) (zs : List Int) (_h : zs.length ≤ 1048576) : (rForestFlows net zs).1.length ≤ 1048576 := by
  unfold rForestFlows
  by_cases h0 : codeS net zs = 0
  · rw [if_pos h0]
    have := rFF_len (codeS_zero h0).1 zs
    omega
  · rw [if_neg h0]; simp

set_option maxRecDepth 100000 in
set_option maxHeartbeats 2000000 in
theorem implForestFlows_any (A : Option Addr) (n c : Nat) (B : Option Addr) (m d : Nat) (net : Net) (C : Option Addr) (l e : Nat) (zs : List Int) (w : World) (h : NetAt w A n c B m d net) (hz : Ints w C l e zs) :
    Calls Try.prog 24 #[.agg #[.slice A n c, .slice B m d], .slice C l e] w fun e w' => RetLI w (rForestFlows net zs) e w' := by
  have HB := Lib.hid (bel1 w (.cells #[.slice A n c, .slice B m d] 27))
  by_cases h0 : codeS net zs = 0
  · obtain ⟨hv, hs⟩ := codeS_zero h0
    have HLN : Hid (l = n) := Lib.hid (by have := supB_len hs; have := h.nodes.len; have := hz.len; omega)
    have HMP := Lib.hid h.pipes.len
    rcases hE : evB net zs with _ | _
    · have HR : Hid (rForestFlows net zs = ([], 5)) := Lib.hid (by unfold rForestFlows rFF; rw [if_pos h0, hE]; rfl)
      go_enter Try.func24, Try.ntmps24
      go_wp2_with fail
      refine (checkSupplies_is _ _ _ _ _ _ _ _ _ net zs _ _ (h.later HB.out) (hz.later HB.out) h0).mono ?_
      rintro e w1 ⟨rfl, b1⟩
      have t1 := below_step HB.out b1
      have s1 := b1
      obtain ⟨k0, k1⟩ := box_cells s1
      go_wp2_with fail
      refine (isEven_is _ _ _ _ _ _ net _ _ _ zs _ _ (h.later t1) (hz.later t1) (NetOK.of hv) hs hE).mono ?_
      rintro e w2 ⟨rfl, b2⟩
      clear k0 k1
      have t2 := below_step t1 b2
      have s2 := below_step s1 b2
      obtain ⟨k0, k1⟩ := box_cells s2
      go_wp2_with fail
      go_ret2
      exact retLI_nil rfl HR.out t2
    · rcases hA : allB (ffL net zs) (-30000) 30000 with _ | _
      · have HR : Hid (rForestFlows net zs = ([], 2)) := Lib.hid (by unfold rForestFlows rFF; rw [if_pos h0, hE, hA]; rfl)
        go_enter Try.func24, Try.ntmps24
        go_wp2_with fail
        refine (checkSupplies_is _ _ _ _ _ _ _ _ _ net zs _ _ (h.later HB.out) (hz.later HB.out) h0).mono ?_
        rintro e w1 ⟨rfl, b1⟩
        have t1 := below_step HB.out b1
        have s1 := b1
        obtain ⟨k0, k1⟩ := box_cells s1
        go_wp2_with fail
        refine (isEven_is _ _ _ _ _ _ net _ _ _ zs _ _ (h.later t1) (hz.later t1) (NetOK.of hv) hs hE).mono ?_
        rintro e w2 ⟨rfl, b2⟩
        clear k0 k1
        have t2 := below_step t1 b2
        have s2 := below_step s1 b2
        obtain ⟨k0, k1⟩ := box_cells s2
        go_wp2_with fail
        refine (forestFlows_any _ _ _ _ _ _ net _ _ _ zs _ (h.later t2) (hz.later t2) (NetOK.of hv) HLN.out (supB_all hs)).mono ?_
        rintro e w3 ⟨Af, rfl, of, ff, b3⟩
        clear k0 k1
        have t3 := below_step t2 b3
        have s3 := below_step s2 b3
        obtain ⟨k0, k1⟩ := box_cells s3
        have of2 : Own w3 Af m m (ffL net zs) := by have e := HMP.out; unfold ffL; rw [e]; exact of
        clear of
        go_wp2_with fail
        refine (checkedFlows_is _ _ _ _ _ _ of2.ints hA).mono ?_
        rintro e w' ⟨rfl, rfl⟩
        clear k0 k1
        go_wp2_with fail
        go_ret2
        exact retLI_nil rfl HR.out t3
      · have HR : Hid (rForestFlows net zs = (ffL net zs, 0)) := Lib.hid (by unfold rForestFlows rFF; rw [if_pos h0, hE, hA]; rfl)
        go_enter Try.func24, Try.ntmps24
        go_wp2_with fail
        refine (checkSupplies_is _ _ _ _ _ _ _ _ _ net zs _ _ (h.later HB.out) (hz.later HB.out) h0).mono ?_
        rintro e w1 ⟨rfl, b1⟩
        have t1 := below_step HB.out b1
        have s1 := b1
        obtain ⟨k0, k1⟩ := box_cells s1
        go_wp2_with fail
        refine (isEven_is _ _ _ _ _ _ net _ _ _ zs _ _ (h.later t1) (hz.later t1) (NetOK.of hv) hs hE).mono ?_
        rintro e w2 ⟨rfl, b2⟩
        clear k0 k1
        have t2 := below_step t1 b2
        have s2 := below_step s1 b2
        obtain ⟨k0, k1⟩ := box_cells s2
        go_wp2_with fail
        refine (forestFlows_any _ _ _ _ _ _ net _ _ _ zs _ (h.later t2) (hz.later t2) (NetOK.of hv) HLN.out (supB_all hs)).mono ?_
        rintro e w3 ⟨Af, rfl, of, ff, b3⟩
        clear k0 k1
        have t3 := below_step t2 b3
        have s3 := below_step s2 b3
        obtain ⟨k0, k1⟩ := box_cells s3
        have of2 : Own w3 Af m m (ffL net zs) := by have e := HMP.out; unfold ffL; rw [e]; exact of
        clear of
        go_wp2_with fail
        refine (checkedFlows_is _ _ _ _ _ _ of2.ints hA).mono ?_
        rintro e w' ⟨rfl, rfl⟩
        clear k0 k1
        go_wp2_with fail
        go_ret2
        exact retLI_own rfl HR.out of2 (fresh_up ff t2.size) t3
  · obtain ⟨k, hk⟩ : ∃ k, codeS net zs = k := ⟨_, rfl⟩
    rw [hk] at h0
    have hne : (k != 0) = true := by simp [h0]
    have hne2 : (k == 0) = false := by simp [h0]
    have HR : Hid (rForestFlows net zs = ([], k)) := Lib.hid (by unfold rForestFlows; rw [hk, if_neg h0])
    go_enter Try.func24, Try.ntmps24
    go_wp2_with fail
    refine (checkSupplies_is _ _ _ _ _ _ _ _ _ net zs _ _ (h.later HB.out) (hz.later HB.out) hk).mono ?_
    rintro e w1 ⟨rfl, b1⟩
    have t1 := below_step HB.out b1
    have s1 := b1
    obtain ⟨k0, k1⟩ := box_cells s1
    go_wp2_with fail
    go_ret2
    exact retLI_nil rfl HR.out t1

set_option maxRecDepth 100000 in
set_option maxHeartbeats 2000000 in
theorem specForestFlows_any (A : Option Addr) (n c : Nat) (B : Option Addr) (m d : Nat) (net : Net) (C : Option Addr) (l e : Nat) (zs : List Int) (w : World) (h : NetAt w A n c B m d net) (hz : Ints w C l e zs) :
    Calls Try.prog 25 #[.agg #[.slice A n c, .slice B m d], .slice C l e] w fun e w' => RetLI w (rForestFlows net zs) e w' := by
  have HB := Lib.hid (bel1 w (.cells #[.slice A n c, .slice B m d] 27))
  by_cases h0 : codeS net zs = 0
  · obtain ⟨hv, hs⟩ := codeS_zero h0
    have HLN : Hid (l = n) := Lib.hid (by have := supB_len hs; have := h.nodes.len; have := hz.len; omega)
    have HMP := Lib.hid h.pipes.len
    rcases hE : evB net zs with _ | _
    · have HR : Hid (rForestFlows net zs = ([], 5)) := Lib.hid (by unfold rForestFlows rFF; rw [if_pos h0, hE]; rfl)
      go_enter Try.func25, Try.ntmps25
      go_wp2_with fail
      refine (l06Code_is _ _ _ _ _ _ _ _ _ net zs _ _ (h.later HB.out) (hz.later HB.out) h0).mono ?_
      rintro e w1 ⟨rfl, b1⟩
      have t1 := below_step HB.out b1
      have s1 := b1
      obtain ⟨k0, k1⟩ := box_cells s1
      go_wp2_with fail
      refine (l06Even_is _ _ _ _ _ _ net _ _ _ zs _ _ (h.later t1) (hz.later t1) (NetOK.of hv) hs hE).mono ?_
      rintro e w2 ⟨rfl, b2⟩
      clear k0 k1
      have t2 := below_step t1 b2
      have s2 := below_step s1 b2
      obtain ⟨k0, k1⟩ := box_cells s2
      go_wp2_with fail
      go_ret2
      exact retLI_nil rfl HR.out t2
    · rcases hA : allB (ffL net zs) (-30000) 30000 with _ | _
      · have HR : Hid (rForestFlows net zs = ([], 2)) := Lib.hid (by unfold rForestFlows rFF; rw [if_pos h0, hE, hA]; rfl)
        go_enter Try.func25, Try.ntmps25
        go_wp2_with fail
        refine (l06Code_is _ _ _ _ _ _ _ _ _ net zs _ _ (h.later HB.out) (hz.later HB.out) h0).mono ?_
        rintro e w1 ⟨rfl, b1⟩
        have t1 := below_step HB.out b1
        have s1 := b1
        obtain ⟨k0, k1⟩ := box_cells s1
        go_wp2_with fail
        refine (l06Even_is _ _ _ _ _ _ net _ _ _ zs _ _ (h.later t1) (hz.later t1) (NetOK.of hv) hs hE).mono ?_
        rintro e w2 ⟨rfl, b2⟩
        clear k0 k1
        have t2 := below_step t1 b2
        have s2 := below_step s1 b2
        obtain ⟨k0, k1⟩ := box_cells s2
        go_wp2_with fail
        refine (l06Forest_any _ _ _ _ _ _ net _ _ _ zs _ (h.later t2) (hz.later t2) (NetOK.of hv) HLN.out (supB_all hs)).mono ?_
        rintro e w3 ⟨Af, rfl, of, ff, b3⟩
        clear k0 k1
        have t3 := below_step t2 b3
        have s3 := below_step s2 b3
        obtain ⟨k0, k1⟩ := box_cells s3
        have of2 : Own w3 Af m m (ffL net zs) := by have e := HMP.out; unfold ffL; rw [e]; exact of
        clear of
        go_wp2_with fail
        refine (l05List_is _ _ _ _ _ _ _ _ _ net _ _ _ (h.later t3) of2.ints ((flowB_ffL net zs).trans hA)).mono ?_
        rintro e w4 ⟨rfl, b4⟩
        clear k0 k1
        have t4 := below_step t3 b4
        have s4 := below_step s3 b4
        obtain ⟨k0, k1⟩ := box_cells s4
        go_wp2_with fail
        go_ret2
        exact retLI_nil rfl HR.out t4
      · have HR : Hid (rForestFlows net zs = (ffL net zs, 0)) := Lib.hid (by unfold rForestFlows rFF; rw [if_pos h0, hE, hA]; rfl)
        go_enter Try.func25, Try.ntmps25
        go_wp2_with fail
        refine (l06Code_is _ _ _ _ _ _ _ _ _ net zs _ _ (h.later HB.out) (hz.later HB.out) h0).mono ?_
        rintro e w1 ⟨rfl, b1⟩
        have t1 := below_step HB.out b1
        have s1 := b1
        obtain ⟨k0, k1⟩ := box_cells s1
        go_wp2_with fail
        refine (l06Even_is _ _ _ _ _ _ net _ _ _ zs _ _ (h.later t1) (hz.later t1) (NetOK.of hv) hs hE).mono ?_
        rintro e w2 ⟨rfl, b2⟩
        clear k0 k1
        have t2 := below_step t1 b2
        have s2 := below_step s1 b2
        obtain ⟨k0, k1⟩ := box_cells s2
        go_wp2_with fail
        refine (l06Forest_any _ _ _ _ _ _ net _ _ _ zs _ (h.later t2) (hz.later t2) (NetOK.of hv) HLN.out (supB_all hs)).mono ?_
        rintro e w3 ⟨Af, rfl, of, ff, b3⟩
        clear k0 k1
        have t3 := below_step t2 b3
        have s3 := below_step s2 b3
        obtain ⟨k0, k1⟩ := box_cells s3
        have of2 : Own w3 Af m m (ffL net zs) := by have e := HMP.out; unfold ffL; rw [e]; exact of
        clear of
        go_wp2_with fail
        refine (l05List_is _ _ _ _ _ _ _ _ _ net _ _ _ (h.later t3) of2.ints ((flowB_ffL net zs).trans hA)).mono ?_
        rintro e w4 ⟨rfl, b4⟩
        clear k0 k1
        have t4 := below_step t3 b4
        have s4 := below_step s3 b4
        obtain ⟨k0, k1⟩ := box_cells s4
        go_wp2_with fail
        go_ret2
        exact retLI_own rfl HR.out (of2.later b4) (fresh_up ff t2.size) t4
  · obtain ⟨k, hk⟩ : ∃ k, codeS net zs = k := ⟨_, rfl⟩
    rw [hk] at h0
    have hne : (k != 0) = true := by simp [h0]
    have hne2 : (k == 0) = false := by simp [h0]
    have HR : Hid (rForestFlows net zs = ([], k)) := Lib.hid (by unfold rForestFlows; rw [hk, if_neg h0])
    go_enter Try.func25, Try.ntmps25
    go_wp2_with fail
    refine (l06Code_is _ _ _ _ _ _ _ _ _ net zs _ _ (h.later HB.out) (hz.later HB.out) hk).mono ?_
    rintro e w1 ⟨rfl, b1⟩
    have t1 := below_step HB.out b1
    have s1 := b1
    obtain ⟨k0, k1⟩ := box_cells s1
    go_wp2_with fail
    go_ret2
    exact retLI_nil rfl HR.out t1

/-! ### trees -/
def treeB (net : Net) : Bool := (netG net).conn && decide ((net.pipes.length : Int) = (net.nodes.length : Int) - 1)
noncomputable def rTF (net : Net) (zs : List Int) : List Int × Int := if treeB net then rFF net zs else ([], 5)
noncomputable def rTreeFlows (net : Net) (zs : List Int) : List Int × Int := if codeS net zs = 0 then rTF net zs else ([], codeS net zs)
theorem rTreeFlows_len (net : Net) (zs : List Int) (_h : zs.length ≤ 1048576) : (rTreeFlows net zs).1.length ≤ 1048576 := by
  unfold rTreeFlows rTF
  by_cases h0 : codeS net zs = 0
  · rw [if_pos h0]
    have := rFF_len (codeS_zero h0).1 zs
    split
    · omega
    · simp
  · rw [if_neg h0]; simp

set_option maxRecDepth 100000 in
set_option maxHeartbeats 2000000 in
theorem implIsTree_is (A : Option Addr) (n c : Nat) (B : Option Addr) (m d : Nat) (net : Net) (b : Bool) (w : World) (h : NetAt w A n c B m d net) (hv : netB net = true) (hb : treeB net = b) :
    Calls Try.prog 169 #[.agg #[.slice A n c, .slice B m d]] w fun e w' => e = .returned (.bool b) ∧ Below w.heap.size w w' := by
  have HB := Lib.hid (bel1 w (.cells #[.slice A n c, .slice B m d] 27))
  have hnl := h.nodes.len
  have hpl := h.pipes.len
  have ok := NetOK.of hv
  have hm40 : m ≤ 40 := by have := ok.m40; omega
  have hn24 : n ≤ 24 := by have := ok.n24; omega
  have hnle := h.nodes.le
  have hncap := h.nodes.cap
  have hple := h.pipes.le
  have hpcap := h.pipes.cap
  rcases hC : (netG net).conn with _ | _
  · have HR : Hid (false = b) := Lib.hid (by rw [← hb]; unfold treeB; rw [hC]; rfl)
    go_enter Try.func169, Try.ntmps169
    go_wp2_with fail
    refine (implIsNetwork_is _ _ _ _ _ _ net _ _ (h.later HB.out) hv).mono ?_
    rintro e w1 ⟨rfl, b1⟩
    have t1 := below_step HB.out b1
    have s1 := b1
    obtain ⟨k0, k1⟩ := box_cells s1
    go_wp2_with fail
    refine (isConnected_is _ _ _ _ _ _ net _ _ (h.later t1) (NetOK.of hv) hC).mono ?_
    rintro e w2 ⟨rfl, b2⟩
    clear k0 k1
    have t2 := below_step t1 b2
    have s2 := below_step s1 b2
    obtain ⟨k0, k1⟩ := box_cells s2
    go_wp2_with fail
    go_ret
    exact ⟨ret_bool HR.out, t2⟩
  · rcases hd : decide ((net.pipes.length : Int) = (net.nodes.length : Int) - 1) with _ | _
    · have hmn : ((m : Int) == (n : Int) - 1) = false := by have := of_decide_eq_false hd; simp only [beq_eq_false_iff_ne, ne_eq]; omega
      have HR : Hid (false = b) := Lib.hid (by rw [← hb]; unfold treeB; rw [hC, hd]; rfl)
      clear hd hpl hnl
      go_enter Try.func169, Try.ntmps169
      go_wp2_with fail
      refine (implIsNetwork_is _ _ _ _ _ _ net _ _ (h.later HB.out) hv).mono ?_
      rintro e w1 ⟨rfl, b1⟩
      have t1 := below_step HB.out b1
      have s1 := b1
      obtain ⟨k0, k1⟩ := box_cells s1
      go_wp2_with fail
      refine (isConnected_is _ _ _ _ _ _ net _ _ (h.later t1) (NetOK.of hv) hC).mono ?_
      rintro e w2 ⟨rfl, b2⟩
      clear k0 k1
      have t2 := below_step t1 b2
      have s2 := below_step s1 b2
      obtain ⟨k0, k1⟩ := box_cells s2
      go_wp2_with fail
      go_ret
      exact ⟨ret_bool HR.out, t2⟩
    · have hmn : ((m : Int) == (n : Int) - 1) = true := by have := of_decide_eq_true hd; simp only [beq_iff_eq]; omega
      have HR : Hid (true = b) := Lib.hid (by rw [← hb]; unfold treeB; rw [hC, hd]; rfl)
      clear hd hpl hnl
      go_enter Try.func169, Try.ntmps169
      go_wp2_with fail
      refine (implIsNetwork_is _ _ _ _ _ _ net _ _ (h.later HB.out) hv).mono ?_
      rintro e w1 ⟨rfl, b1⟩
      have t1 := below_step HB.out b1
      have s1 := b1
      obtain ⟨k0, k1⟩ := box_cells s1
      go_wp2_with fail
      refine (isConnected_is _ _ _ _ _ _ net _ _ (h.later t1) (NetOK.of hv) hC).mono ?_
      rintro e w2 ⟨rfl, b2⟩
      clear k0 k1
      have t2 := below_step t1 b2
      have s2 := below_step s1 b2
      obtain ⟨k0, k1⟩ := box_cells s2
      go_wp2_with fail
      go_ret
      exact ⟨ret_bool HR.out, t2⟩

set_option maxRecDepth 100000 in
set_option maxHeartbeats 2000000 in
theorem specIsConnected_is (A : Option Addr) (n c : Nat) (B : Option Addr) (m d : Nat) (net : Net) (b : Bool) (w : World) (h : NetAt w A n c B m d net) (hv : netB net = true) (hC : (netG net).conn = b) :
    Calls Try.prog 175 #[.agg #[.slice A n c, .slice B m d]] w fun e w' => e = .returned (.bool b) ∧ Below w.heap.size w w' := by
  have HB := Lib.hid (bel1 w (.cells #[.slice A n c, .slice B m d] 27))
  cases b with
  | false =>
    go_enter Try.func175, Try.ntmps175
    go_wp2_with fail
    refine (specIsNetwork_is _ _ _ _ _ _ net _ _ (h.later HB.out) hv).mono ?_
    rintro e w1 ⟨rfl, b1⟩
    have t1 := below_step HB.out b1
    have s1 := b1
    obtain ⟨k0, k1⟩ := box_cells s1
    go_wp2_with fail
    refine (l04Count_other _ _ _ _ _ _ net _ (h.later t1) (NetOK.of hv) hC).mono ?_
    rintro e w2 ⟨kc, rfl, hkc, b2⟩
    clear k0 k1
    have t2 := below_step t1 b2
    have s2 := below_step s1 b2
    obtain ⟨k0, k1⟩ := box_cells s2
    have hkc2 : (kc == 1) = false := by simpa using hkc
    go_wp2_with fail
    go_ret
    exact ⟨rfl, t2⟩
  | true =>
    go_enter Try.func175, Try.ntmps175
    go_wp2_with fail
    refine (specIsNetwork_is _ _ _ _ _ _ net _ _ (h.later HB.out) hv).mono ?_
    rintro e w1 ⟨rfl, b1⟩
    have t1 := below_step HB.out b1
    have s1 := b1
    obtain ⟨k0, k1⟩ := box_cells s1
    go_wp2_with fail
    refine (l04Count_one _ _ _ _ _ _ net _ (h.later t1) (NetOK.of hv) hC).mono ?_
    rintro e w2 ⟨rfl, b2⟩
    clear k0 k1
    have t2 := below_step t1 b2
    have s2 := below_step s1 b2
    obtain ⟨k0, k1⟩ := box_cells s2
    go_wp2_with fail
    go_ret
    exact ⟨rfl, t2⟩

set_option maxRecDepth 100000 in
set_option maxHeartbeats 2000000 in
theorem specIsTree_is (A : Option Addr) (n c : Nat) (B : Option Addr) (m d : Nat) (net : Net) (b : Bool) (w : World) (h : NetAt w A n c B m d net) (hv : netB net = true) (hb : treeB net = b) :
    Calls Try.prog 116 #[.agg #[.slice A n c, .slice B m d]] w fun e w' => e = .returned (.bool b) ∧ Below w.heap.size w w' := by
  have HB := Lib.hid (bel1 w (.cells #[.slice A n c, .slice B m d] 27))
  have hnl := h.nodes.len
  have hpl := h.pipes.len
  have ok := NetOK.of hv
  have hm40 : m ≤ 40 := by have := ok.m40; omega
  have hn24 : n ≤ 24 := by have := ok.n24; omega
  have hnle := h.nodes.le
  have hncap := h.nodes.cap
  have hple := h.pipes.le
  have hpcap := h.pipes.cap
  rcases hC : (netG net).conn with _ | _
  · have HR : Hid (false = b) := Lib.hid (by rw [← hb]; unfold treeB; rw [hC]; rfl)
    go_enter Try.func116, Try.ntmps116
    go_wp2_with fail
    refine (specIsConnected_is _ _ _ _ _ _ net _ _ (h.later HB.out) hv hC).mono ?_
    rintro e w1 ⟨rfl, b1⟩
    have t1 := below_step HB.out b1
    have s1 := b1
    obtain ⟨k0, k1⟩ := box_cells s1
    go_wp2_with fail
    go_ret
    exact ⟨ret_bool HR.out, t1⟩
  · rcases hd : decide ((net.pipes.length : Int) = (net.nodes.length : Int) - 1) with _ | _
    · have hmn : ((m : Int) == (n : Int) - 1) = false := by have := of_decide_eq_false hd; simp only [beq_eq_false_iff_ne, ne_eq]; omega
      have HR : Hid (false = b) := Lib.hid (by rw [← hb]; unfold treeB; rw [hC, hd]; rfl)
      clear hd hpl hnl
      go_enter Try.func116, Try.ntmps116
      go_wp2_with fail
      refine (specIsConnected_is _ _ _ _ _ _ net _ _ (h.later HB.out) hv hC).mono ?_
      rintro e w1 ⟨rfl, b1⟩
      have t1 := below_step HB.out b1
      have s1 := b1
      obtain ⟨k0, k1⟩ := box_cells s1
      go_wp2_with fail
      go_ret
      exact ⟨ret_bool HR.out, t1⟩
    · have hmn : ((m : Int) == (n : Int) - 1) = true := by have := of_decide_eq_true hd; simp only [beq_iff_eq]; omega
      have HR : Hid (true = b) := Lib.hid (by rw [← hb]; unfold treeB; rw [hC, hd]; rfl)
      clear hd hpl hnl
      go_enter Try.func116, Try.ntmps116
      go_wp2_with fail
      refine (specIsConnected_is _ _ _ _ _ _ net _ _ (h.later HB.out) hv hC).mono ?_
      rintro e w1 ⟨rfl, b1⟩
      have t1 := below_step HB.out b1
      have s1 := b1
      obtain ⟨k0, k1⟩ := box_cells s1
      go_wp2_with fail
      go_ret
      exact ⟨ret_bool HR.out, t1⟩

set_option maxRecDepth 100000 in
set_option maxHeartbeats 2000000 in
theorem treeFlows_any (A : Option Addr) (n c : Nat) (B : Option Addr) (m d : Nat) (net : Net) (C : Option Addr) (l e : Nat) (zs : List Int) (w : World) (h : NetAt w A n c B m d net) (hz : Ints w C l e zs) (h0 : codeS net zs = 0) :
    Calls Try.prog 108 #[.agg #[.slice A n c, .slice B m d], .slice C l e] w fun e w' => RetLI w (rTF net zs) e w' := by
  have HB := Lib.hid (bel1 w (.cells #[.slice A n c, .slice B m d] 27))
  obtain ⟨hv, hs⟩ := codeS_zero h0
  have HLN : Hid (l = n) := Lib.hid (by have := supB_len hs; have := h.nodes.len; have := hz.len; omega)
  have HMP := Lib.hid h.pipes.len
  rcases hT : treeB net with _ | _
  · have HR : Hid (rTF net zs = ([], 5)) := Lib.hid (by unfold rTF; rw [hT]; rfl)
    go_enter Try.func108, Try.ntmps108
    go_wp2_with fail
    refine (implIsTree_is _ _ _ _ _ _ net _ _ (h.later HB.out) hv hT).mono ?_
    rintro e w1 ⟨rfl, b1⟩
    have t1 := below_step HB.out b1
    have s1 := b1
    obtain ⟨k0, k1⟩ := box_cells s1
    go_wp2_with fail
    go_ret2
    exact retLI_nil rfl HR.out t1
  · rcases hE : evB net zs with _ | _
    · have HR : Hid (rTF net zs = ([], 5)) := Lib.hid (by unfold rTF rFF; rw [hT, hE]; rfl)
      go_enter Try.func108, Try.ntmps108
      go_wp2_with fail
      refine (implIsTree_is _ _ _ _ _ _ net _ _ (h.later HB.out) hv hT).mono ?_
      rintro e w1 ⟨rfl, b1⟩
      have t1 := below_step HB.out b1
      have s1 := b1
      obtain ⟨k0, k1⟩ := box_cells s1
      go_wp2_with fail
      refine (isEven_is _ _ _ _ _ _ net _ _ _ zs _ _ (h.later t1) (hz.later t1) (NetOK.of hv) hs hE).mono ?_
      rintro e w2 ⟨rfl, b2⟩
      clear k0 k1
      have t2 := below_step t1 b2
      have s2 := below_step s1 b2
      obtain ⟨k0, k1⟩ := box_cells s2
      go_wp2_with fail
      go_ret2
      exact retLI_nil rfl HR.out t2
    · rcases hA : allB (ffL net zs) (-30000) 30000 with _ | _
      · have HR : Hid (rTF net zs = ([], 2)) := Lib.hid (by unfold rTF rFF; rw [hT, hE, hA]; rfl)
        go_enter Try.func108, Try.ntmps108
        go_wp2_with fail
        refine (implIsTree_is _ _ _ _ _ _ net _ _ (h.later HB.out) hv hT).mono ?_
        rintro e w1 ⟨rfl, b1⟩
        have t1 := below_step HB.out b1
        have s1 := b1
        obtain ⟨k0, k1⟩ := box_cells s1
        go_wp2_with fail
        refine (isEven_is _ _ _ _ _ _ net _ _ _ zs _ _ (h.later t1) (hz.later t1) (NetOK.of hv) hs hE).mono ?_
        rintro e w2 ⟨rfl, b2⟩
        clear k0 k1
        have t2 := below_step t1 b2
        have s2 := below_step s1 b2
        obtain ⟨k0, k1⟩ := box_cells s2
        go_wp2_with fail
        refine (forestFlows_any _ _ _ _ _ _ net _ _ _ zs _ (h.later t2) (hz.later t2) (NetOK.of hv) HLN.out (supB_all hs)).mono ?_
        rintro e w3 ⟨Af, rfl, of, ff, b3⟩
        clear k0 k1
        have t3 := below_step t2 b3
        have s3 := below_step s2 b3
        obtain ⟨k0, k1⟩ := box_cells s3
        have of2 : Own w3 Af m m (ffL net zs) := by have e := HMP.out; unfold ffL; rw [e]; exact of
        clear of
        go_wp2_with fail
        refine (checkedFlows_is _ _ _ _ _ _ of2.ints hA).mono ?_
        rintro e w' ⟨rfl, rfl⟩
        clear k0 k1
        go_wp2_with fail
        go_ret2
        exact retLI_nil rfl HR.out t3
      · have HR : Hid (rTF net zs = (ffL net zs, 0)) := Lib.hid (by unfold rTF rFF; rw [hT, hE, hA]; rfl)
        go_enter Try.func108, Try.ntmps108
        go_wp2_with fail
        refine (implIsTree_is _ _ _ _ _ _ net _ _ (h.later HB.out) hv hT).mono ?_
        rintro e w1 ⟨rfl, b1⟩
        have t1 := below_step HB.out b1
        have s1 := b1
        obtain ⟨k0, k1⟩ := box_cells s1
        go_wp2_with fail
        refine (isEven_is _ _ _ _ _ _ net _ _ _ zs _ _ (h.later t1) (hz.later t1) (NetOK.of hv) hs hE).mono ?_
        rintro e w2 ⟨rfl, b2⟩
        clear k0 k1
        have t2 := below_step t1 b2
        have s2 := below_step s1 b2
        obtain ⟨k0, k1⟩ := box_cells s2
        go_wp2_with fail
        refine (forestFlows_any _ _ _ _ _ _ net _ _ _ zs _ (h.later t2) (hz.later t2) (NetOK.of hv) HLN.out (supB_all hs)).mono ?_
        rintro e w3 ⟨Af, rfl, of, ff, b3⟩
        clear k0 k1
        have t3 := below_step t2 b3
        have s3 := below_step s2 b3
        obtain ⟨k0, k1⟩ := box_cells s3
        have of2 : Own w3 Af m m (ffL net zs) := by have e := HMP.out; unfold ffL; rw [e]; exact of
        clear of
        go_wp2_with fail
        refine (checkedFlows_is _ _ _ _ _ _ of2.ints hA).mono ?_
        rintro e w' ⟨rfl, rfl⟩
        clear k0 k1
        go_wp2_with fail
        go_ret2
        exact retLI_own rfl HR.out of2 (fresh_up ff t2.size) t3

theorem retLI_up {w w0 w' : World} {r : List Int × Int} {e : Ending} (hb : Below w.heap.size w w0) (h : RetLI w0 r e w') : RetLI w r e w' := by
  obtain ⟨A, c, he, ho, hf, hbb⟩ := h
  exact ⟨A, c, he, ho, fresh_up hf hb.size, below_step hb hbb⟩

set_option maxRecDepth 100000 in
set_option maxHeartbeats 2000000 in
theorem implTreeFlows_any (A : Option Addr) (n c : Nat) (B : Option Addr) (m d : Nat) (net : Net) (C : Option Addr) (l e : Nat) (zs : List Int) (w : World) (h : NetAt w A n c B m d net) (hz : Ints w C l e zs) :
    Calls Try.prog 48 #[.agg #[.slice A n c, .slice B m d], .slice C l e] w fun e w' => RetLI w (rTreeFlows net zs) e w' := by
  have HB := Lib.hid (bel1 w (.cells #[.slice A n c, .slice B m d] 27))
  by_cases h0 : codeS net zs = 0
  · obtain ⟨hv, hs⟩ := codeS_zero h0
    have HLN : Hid (l = n) := Lib.hid (by have := supB_len hs; have := h.nodes.len; have := hz.len; omega)
    have HMP := Lib.hid h.pipes.len
    have HR : Hid (rTreeFlows net zs = rTF net zs) := Lib.hid (by unfold rTreeFlows; rw [if_pos h0])
    go_enter Try.func48, Try.ntmps48
    go_wp2_with fail
    refine (checkSupplies_is _ _ _ _ _ _ _ _ _ net zs _ _ (h.later HB.out) (hz.later HB.out) h0).mono ?_
    rintro e w1 ⟨rfl, b1⟩
    have t1 := below_step HB.out b1
    have s1 := b1
    obtain ⟨k0, k1⟩ := box_cells s1
    go_wp2_with fail
    refine (treeFlows_any _ _ _ _ _ _ net _ _ _ zs _ (h.later t1) (hz.later t1) h0).mono ?_
    rintro e w2 ⟨Ax, cx, rfl, ox, fx, b2⟩
    clear k0 k1
    have t2 := below_step t1 b2
    have s2 := below_step s1 b2
    go_wp2_with fail
    go_ret2
    rw [HR.out]
    exact ⟨Ax, cx, rfl, ox, fresh_up fx t1.size, t2⟩
  · obtain ⟨k, hk⟩ : ∃ k, codeS net zs = k := ⟨_, rfl⟩
    rw [hk] at h0
    have hne : (k != 0) = true := by simp [h0]
    have hne2 : (k == 0) = false := by simp [h0]
    have HR : Hid (rTreeFlows net zs = ([], k)) := Lib.hid (by unfold rTreeFlows; rw [hk, if_neg h0])
    go_enter Try.func48, Try.ntmps48
    go_wp2_with fail
    refine (checkSupplies_is _ _ _ _ _ _ _ _ _ net zs _ _ (h.later HB.out) (hz.later HB.out) hk).mono ?_
    rintro e w1 ⟨rfl, b1⟩
    have t1 := below_step HB.out b1
    have s1 := b1
    obtain ⟨k0, k1⟩ := box_cells s1
    go_wp2_with fail
    go_ret2
    exact retLI_nil rfl HR.out t1

set_option maxRecDepth 100000 in
set_option maxHeartbeats 2000000 in
theorem specTreeFlows_any (A : Option Addr) (n c : Nat) (B : Option Addr) (m d : Nat) (net : Net) (C : Option Addr) (l e : Nat) (zs : List Int) (w : World) (h : NetAt w A n c B m d net) (hz : Ints w C l e zs) :
    Calls Try.prog 49 #[.agg #[.slice A n c, .slice B m d], .slice C l e] w fun e w' => RetLI w (rTreeFlows net zs) e w' := by
  have HB := Lib.hid (bel1 w (.cells #[.slice A n c, .slice B m d] 27))
  by_cases h0 : codeS net zs = 0
  · obtain ⟨hv, hs⟩ := codeS_zero h0
    have HLN : Hid (l = n) := Lib.hid (by have := supB_len hs; have := h.nodes.len; have := hz.len; omega)
    have HMP := Lib.hid h.pipes.len
    rcases hT : treeB net with _ | _
    · have HR : Hid (rTreeFlows net zs = ([], 5)) := Lib.hid (by unfold rTreeFlows rTF; rw [if_pos h0, hT]; rfl)
      go_enter Try.func49, Try.ntmps49
      go_wp2_with fail
      refine (l06Code_is _ _ _ _ _ _ _ _ _ net zs _ _ (h.later HB.out) (hz.later HB.out) h0).mono ?_
      rintro e w1 ⟨rfl, b1⟩
      have t1 := below_step HB.out b1
      have s1 := b1
      obtain ⟨k0, k1⟩ := box_cells s1
      go_wp2_with fail
      refine (specIsTree_is _ _ _ _ _ _ net _ _ (h.later t1) hv hT).mono ?_
      rintro e w2 ⟨rfl, b2⟩
      clear k0 k1
      have t2 := below_step t1 b2
      have s2 := below_step s1 b2
      obtain ⟨k0, k1⟩ := box_cells s2
      go_wp2_with fail
      go_ret2
      exact retLI_nil rfl HR.out t2
    · have HR : Hid (rTreeFlows net zs = rForestFlows net zs) := Lib.hid (by unfold rTreeFlows rTF rForestFlows; rw [if_pos h0, if_pos h0, hT]; rfl)
      go_enter Try.func49, Try.ntmps49
      go_wp2_with fail
      refine (l06Code_is _ _ _ _ _ _ _ _ _ net zs _ _ (h.later HB.out) (hz.later HB.out) h0).mono ?_
      rintro e w1 ⟨rfl, b1⟩
      have t1 := below_step HB.out b1
      have s1 := b1
      obtain ⟨k0, k1⟩ := box_cells s1
      go_wp2_with fail
      refine (specIsTree_is _ _ _ _ _ _ net _ _ (h.later t1) hv hT).mono ?_
      rintro e w2 ⟨rfl, b2⟩
      clear k0 k1
      have t2 := below_step t1 b2
      have s2 := below_step s1 b2
      obtain ⟨k0, k1⟩ := box_cells s2
      go_wp2_with fail
      refine (specForestFlows_any _ _ _ _ _ _ net _ _ _ zs _ (h.later t2) (hz.later t2)).mono ?_
      rintro e w3 ⟨Ax, cx, rfl, ox, fx, b3⟩
      clear k0 k1
      have t3 := below_step t2 b3
      have s3 := below_step s2 b3
      go_wp2_with fail
      go_ret2
      rw [HR.out]
      exact ⟨Ax, cx, rfl, ox, fresh_up fx t2.size, t3⟩
  · obtain ⟨k, hk⟩ : ∃ k, codeS net zs = k := ⟨_, rfl⟩
    rw [hk] at h0
    have hne : (k != 0) = true := by simp [h0]
    have hne2 : (k == 0) = false := by simp [h0]
    have HR : Hid (rTreeFlows net zs = ([], k)) := Lib.hid (by unfold rTreeFlows; rw [hk, if_neg h0])
    go_enter Try.func49, Try.ntmps49
    go_wp2_with fail
    refine (l06Code_is _ _ _ _ _ _ _ _ _ net zs _ _ (h.later HB.out) (hz.later HB.out) hk).mono ?_
    rintro e w1 ⟨rfl, b1⟩
    have t1 := below_step HB.out b1
    have s1 := b1
    obtain ⟨k0, k1⟩ := box_cells s1
    go_wp2_with fail
    go_ret2
    exact retLI_nil rfl HR.out t1

end Go.Proofs.Ytioiebjgjimeiaa
