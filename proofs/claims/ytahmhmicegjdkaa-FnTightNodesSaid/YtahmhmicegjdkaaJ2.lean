/- OverLimit -/
import Derived.Test.YtahmhmicegjdkaaJ1
namespace Go.Proofs.Ytahmhmicegjdkaa
open Go.RowKit

def ovB (net : Net) (zs : List Int) (i : Nat) : Bool := decide ((pp net.pipes i).lim < ab (ig zs i))
def ovK (net : Net) (zs : List Int) (k : Nat) : List Nat := (List.range k).filter (ovB net zs)
theorem filt_succ (p : Nat → Bool) (k : Nat) : (List.range (k + 1)).filter p = if p k then (List.range k).filter p ++ [k] else (List.range k).filter p := by
  rw [List.range_succ, List.filter_append]
  by_cases h : p k = true
  · simp [h]
  · simp [h]
theorem filt_len (p : Nat → Bool) (k : Nat) : ((List.range k).filter p).length ≤ k := by
  have := List.length_filter_le p (List.range k)
  simpa using this
def rOverLimit (net : Net) (zs : List Int) : List Int × Int := if codeF net zs = 0 then (nl (ovK net zs net.pipes.length), 0) else ([], codeF net zs)
theorem rOverLimit_len (net : Net) (zs : List Int) (_h : zs.length ≤ 1048576) : (rOverLimit net zs).1.length ≤ 1048576 := by
  unfold rOverLimit
  by_cases hz0 : codeF net zs = 0
  · rw [if_pos hz0]
    have := netB_sizes (codeF_zero hz0).1
    have h2 := filt_len (ovB net zs) net.pipes.length
    show (nl (ovK net zs net.pipes.length)).length ≤ _
    rw [nl_len]; unfold ovK; omega
  · rw [if_neg hz0]; simp
theorem push_filt {w0 wr wx w3 : World} {A5 A3 : Option Addr} {c3 : Nat} {p : Nat → Bool} {k : Nat} {o : Obj} (hp : p k = true) (fo : Fresh w0.heap.size A5) (hb : Below w0.heap.size w0 wx) (_hx : Below wr.heap.size wr wx)
    (hg3 : (wx.alloc o).grownBy w3 (A5.map (·.block))) (hb3 : A3.map (·.block) = A5.map (·.block) ∨ A3.map (·.block) = some (wx.alloc o).heap.size) (ho3 : Own w3 A3 (((List.range k).filter p).length + 1) c3 (nl ((List.range k).filter p) ++ [(k : Int)])) :
    Own w3 A3 ((List.range (k + 1)).filter p).length c3 (nl ((List.range (k + 1)).filter p)) ∧ Fresh w0.heap.size A3 ∧ Below w0.heap.size w0 w3 ∧ ((List.range (k + 1)).filter p).length = ((List.range k).filter p).length + 1 := by
  have t2 := below_step hb (bel1 wx o)
  have e : (List.range (k + 1)).filter p = (List.range k).filter p ++ [k] := by rw [filt_succ, if_pos hp]
  have hl : ((List.range (k + 1)).filter p).length = ((List.range k).filter p).length + 1 := by rw [e]; simp
  refine ⟨?_, fresh_app fo t2.size hb3, below_app t2 fo hg3, hl⟩
  rw [hl, e, nl_snoc]; exact ho3

theorem cell_newd (w : World) (o : Obj) (q : Nat) (v : Value) (T : TypeId) : (((w.alloc o).drewN q).alloc (.cells #[v] T)).cell? ⟨w.heap.size + 1, 0, none⟩ = some v := by
  rw [← size_alloc1 w o]; exact cell_new1 ((w.alloc o).drewN q) v T
theorem cell_newd0 (w : World) (q : Nat) (v : Value) (T : TypeId) : ((w.drewN q).alloc (.cells #[v] T)).cell? ⟨w.heap.size, 0, none⟩ = some v := cell_new1 (w.drewN q) v T

set_option maxRecDepth 100000 in
set_option maxHeartbeats 4000000 in
theorem implOverLimit_any (A : Option Addr) (n c : Nat) (B : Option Addr) (m d : Nat) (net : Net) (C : Option Addr) (l e : Nat) (zs : List Int) (w : World) (h : NetAt w A n c B m d net) (hz : Ints w C l e zs) :
    Calls Try.prog 23 #[.agg #[.slice A n c, .slice B m d], .slice C l e] w fun e w' => RetLI w (rOverLimit net zs) e w' := by
  have HB := Lib.hid (bel1 w (.cells #[.slice A n c, .slice B m d] 32))
  by_cases hz0 : codeF net zs = 0
  · have hF := hz0
    obtain ⟨hv, hs⟩ := codeF_zero hF
    have hml := h.pipes.len
    have hm40 := (netB_sizes hv).2.2
    rw [hml] at hm40
    have hlm : m = l := by have := flowB_len hs; have := hz.len; omega
    subst hlm
    have HV := Lib.hid hv
    have HS := Lib.hid hs
    have HM := Lib.hid hml
    have hple := h.pipes.le
    have hpcap := h.pipes.cap
    have hzle := hz.le
    have hzcap := hz.cap
    have HR : Hid (rOverLimit net zs = (nl (ovK net zs m), 0)) := Lib.hid (by unfold rOverLimit; rw [if_pos hz0, hml])
    clear hz0 hv hs
    go_enter Try.func23, Try.ntmps23
    go_wp2_with fail
    refine (checkFlows_is _ _ _ _ _ _ _ _ _ net zs _ _ (h.later HB.out) (hz.later HB.out) hF).mono ?_
    rintro e w1 ⟨rfl, b1⟩
    have t1 := below_step HB.out b1
    have s1 := b1
    obtain ⟨k0, k1⟩ := box_cells s1
    go_wp2_with fail
    clear k0 k1
    go_loopw [7, 19] (fun o i wr => ∃ (k : Nat) (Ao : Option Addr) (co : Nat), k ≤ m ∧ o = .slice Ao (ovK net zs k).length co ∧ i = .int .i64 k ∧ Own wr Ao (ovK net zs k).length co (nl (ovK net zs k)) ∧ Fresh w.heap.size Ao ∧ Below w.heap.size w wr) (fun _ i _ => m - (intOf i).toNat)
    case atStart => exact ⟨0, none, 0, by omega, rfl, rfl, Own.nil, (fun a ha => by cases ha), t1⟩
    case round =>
      obtain ⟨k, Ao, co, hk, rfl, rfl, oo, fo, hb⟩ := hrel
      by_cases hlt : k < m
      · obtain ⟨bb, off, rfl, hbl, hc⟩ := (hz.later hb).cells (by omega)
        have hck := hc k hlt
        obtain ⟨bp, offp, rfl, hblp, hcp⟩ := (h.pipes.later hb).cells (by omega)
        obtain ⟨c0, c1, c2, c3, c4⟩ := hcp k hlt
        clear hc hcp
        have hzk := flowB_all HS.out k
        have hpk := netB_pipe_at HV.out (j := k) (by rw [HM.out]; omega)
        have hbs := hb.size
        have hlk := filt_len (ovB net zs) k
        change (ovK net zs k).length ≤ k at hlk
        rcases hov : ovB net zs k with _ | _
        · have HS2 : Hid (ovK net zs (k + 1) = ovK net zs k) := Lib.hid (by unfold ovK; rw [filt_succ, hov]; rfl)
          have hc : ¬ ((pp net.pipes k).lim < ab (ig zs k)) := by unfold ovB at hov; simpa using hov
          clear hov
          go_wp2_with fail
          go_quiet ((go_at_call 80; exact quiet_left (absOf_any _ _ (by omega))))
          go_wp2_with fail
          go_roundw
          case rel => exact ⟨k + 1, Ao, co, by omega, by rw [HS2.out], by go_num, by rw [HS2.out]; exact oo.later (below_drew (bel1 _ _) _), fo, below_drew (hb.alloc hbs _) _⟩
          case measure => simp [intOf]; omega
        · have HOV := Lib.hid hov
          have hc : (pp net.pipes k).lim < ab (ig zs k) := by unfold ovB at hov; simpa using hov
          clear hov
          go_wp2_with fail
          go_quiet ((go_at_call 80; exact quiet_left (absOf_any _ _ (by omega))))
          go_wp2_with (at_builtin; refine law_append _ rfl _ _ rfl Ao _ co _ rfl ((oo.later (below_drew (bel1 _ _) _)).later (bel1 _ _)) _ _ k ⟨by omega, by omega⟩ rfl (cell_newd _ _ _ _ _) (by omega) ?_; intro A3 c3 w3 ho3 hg3 hb3; obtain ⟨r1, r2, r3, r4⟩ := push_filt (k := k) HOV.out fo (below_drew (hb.alloc hbs _) _) (below_drew (bel1 _ _) _) hg3 hb3 ho3)
          go_roundw
          case rel => exact ⟨k + 1, A3, c3, by omega, by show _ = Value.slice A3 ((List.range (k + 1)).filter (ovB net zs)).length c3; rw [r4]; rfl, by go_num, r1, r2, r3⟩
          case measure => simp [intOf]; omega
      · have hkm : m = k := by omega
        subst hkm
        go_wp2_with fail
        go_ret2
        exact retLI_own rfl HR.out oo fo hb
  · obtain ⟨r, hF⟩ : ∃ r, codeF net zs = r := ⟨_, rfl⟩
    rw [hF] at hz0
    have hne : (r != 0) = true := by simp [hz0]
    have HR : Hid (rOverLimit net zs = ([], r)) := Lib.hid (by unfold rOverLimit; rw [hF, if_neg hz0])
    go_enter Try.func23, Try.ntmps23
    go_wp2_with fail
    refine (checkFlows_is _ _ _ _ _ _ _ _ _ net zs _ _ (h.later HB.out) (hz.later HB.out) hF).mono ?_
    rintro e w1 ⟨rfl, b1⟩
    have t1 := below_step HB.out b1
    have s1 := b1
    obtain ⟨k0, k1⟩ := box_cells s1
    go_wp2_with fail
    go_ret2
    exact retLI_nil rfl HR.out t1

set_option maxRecDepth 100000 in
set_option maxHeartbeats 4000000 in
theorem specOverLimit_any (A : Option Addr) (n c : Nat) (B : Option Addr) (m d : Nat) (net : Net) (C : Option Addr) (l e : Nat) (zs : List Int) (w : World) (h : NetAt w A n c B m d net) (hz : Ints w C l e zs) :
    Calls Try.prog 22 #[.agg #[.slice A n c, .slice B m d], .slice C l e] w fun e w' => RetLI w (rOverLimit net zs) e w' := by
  have HB := Lib.hid (bel1 w (.cells #[.slice A n c, .slice B m d] 32))
  by_cases hz0 : codeF net zs = 0
  · have hF := hz0
    obtain ⟨hv, hs⟩ := codeF_zero hF
    have hml := h.pipes.len
    have hm40 := (netB_sizes hv).2.2
    rw [hml] at hm40
    have hlm : m = l := by have := flowB_len hs; have := hz.len; omega
    subst hlm
    have HV := Lib.hid hv
    have HS := Lib.hid hs
    have HM := Lib.hid hml
    have hple := h.pipes.le
    have hpcap := h.pipes.cap
    have hzle := hz.le
    have hzcap := hz.cap
    have HR : Hid (rOverLimit net zs = (nl (ovK net zs m), 0)) := Lib.hid (by unfold rOverLimit; rw [if_pos hz0, hml])
    clear hz0 hv hs
    go_enter Try.func22, Try.ntmps22
    go_wp2_with fail
    refine (l05Code_is _ _ _ _ _ _ _ _ _ net zs _ _ (h.later HB.out) (hz.later HB.out) hF).mono ?_
    rintro e w1 ⟨rfl, b1⟩
    have t1 := below_step HB.out b1
    have s1 := b1
    obtain ⟨k0, k1⟩ := box_cells s1
    go_wp2_with fail
    have o0 := own_lit0 w1
    clear k0 k1
    obtain ⟨wb, rfl⟩ : ∃ wb, wb = w1 := ⟨_, rfl⟩
    have hw1 := t1.size
    go_loopw [7, 8] (fun o i wr => ∃ (k : Nat) (Ao : Option Addr) (co : Nat), k ≤ m ∧ o = .slice Ao (ovK net zs k).length co ∧ i = .int .i64 k ∧ Own wr Ao (ovK net zs k).length co (nl (ovK net zs k)) ∧ Fresh wb.heap.size Ao ∧ Below wb.heap.size wb wr) (fun _ i _ => m - (intOf i).toNat)
    case atStart => exact ⟨0, some ⟨wb.heap.size, 0, none⟩, 0, by omega, rfl, rfl, o0, (fun a ha => by injection ha with ha; subst ha; exact Nat.le_refl _), bel1 _ _⟩
    case round =>
      obtain ⟨k, Ao, co, hk, rfl, rfl, oo, fo, hb0⟩ := hrel
      have hb := below_step t1 hb0
      have hx := below_step s1 hb0
      by_cases hlt : k < m
      · obtain ⟨bb, off, rfl, hbl, hc⟩ := (hz.later hb).cells (by omega)
        have hck := hc k hlt
        obtain ⟨bp, offp, rfl, hblp, hcp⟩ := (h.pipes.later hb).cells (by omega)
        obtain ⟨c0, c1, c2, c3, c4⟩ := hcp k hlt
        clear hc hcp
        have hzk := flowB_all HS.out k
        have hpk := netB_pipe_at HV.out (j := k) (by rw [HM.out]; omega)
        have hbs := hb.size
        have hlk := filt_len (ovB net zs) k
        change (ovK net zs k).length ≤ k at hlk
        obtain ⟨k0, k1⟩ := box_cells hx
        rcases hov : ovB net zs k with _ | _
        · have HS2 : Hid (ovK net zs (k + 1) = ovK net zs k) := Lib.hid (by unfold ovK; rw [filt_succ, hov]; rfl)
          have hc : ¬ ((pp net.pipes k).lim < ab (ig zs k)) := by unfold ovB at hov; simpa using hov
          clear hov
          go_wp2_with fail
          go_quiet ((go_at_call 78; exact quiet_left (l01Abs_any _ _ (by omega))))
          go_wp2_with fail
          go_roundw
          case rel => exact ⟨k + 1, Ao, co, by omega, by rw [HS2.out], by go_num, by rw [HS2.out]; exact oo.later (below_drew (Below.refl _ _) _), fo, below_drew hb0 _⟩
          case measure => simp [intOf]; omega
        · have HOV := Lib.hid hov
          have hc : (pp net.pipes k).lim < ab (ig zs k) := by unfold ovB at hov; simpa using hov
          clear hov
          go_wp2_with fail
          go_quiet ((go_at_call 78; exact quiet_left (l01Abs_any _ _ (by omega))))
          go_wp2_with (at_builtin; refine law_append _ rfl _ _ rfl Ao _ co _ rfl ((oo.later (below_drew (Below.refl _ _) _)).later (bel1 _ _)) _ _ k ⟨by omega, by omega⟩ rfl (cell_newd0 _ _ _ _) (by omega) ?_; intro A3 c3 w3 ho3 hg3 hb3; obtain ⟨r1, r2, r3, r4⟩ := push_filt (k := k) HOV.out fo (below_drew hb0 _) (below_drew (Below.refl _ _) _) hg3 hb3 ho3)
          go_roundw
          case rel => exact ⟨k + 1, A3, c3, by omega, by show _ = Value.slice A3 ((List.range (k + 1)).filter (ovB net zs)).length c3; rw [r4]; rfl, by go_num, r1, r2, r3⟩
          case measure => simp [intOf]; omega
      · have hkm : m = k := by omega
        subst hkm
        go_wp2_with fail
        go_ret2
        exact retLI_own rfl HR.out oo (fresh_up fo hw1) hb
  · obtain ⟨r, hF⟩ : ∃ r, codeF net zs = r := ⟨_, rfl⟩
    rw [hF] at hz0
    have hne : (r != 0) = true := by simp [hz0]
    have HR : Hid (rOverLimit net zs = ([], r)) := Lib.hid (by unfold rOverLimit; rw [hF, if_neg hz0])
    go_enter Try.func22, Try.ntmps22
    go_wp2_with fail
    refine (l05Code_is _ _ _ _ _ _ _ _ _ net zs _ _ (h.later HB.out) (hz.later HB.out) hF).mono ?_
    rintro e w1 ⟨rfl, b1⟩
    have t1 := below_step HB.out b1
    have s1 := b1
    obtain ⟨k0, k1⟩ := box_cells s1
    go_wp2_with fail
    go_ret2
    exact retLI_nil rfl HR.out t1

end Go.Proofs.Ytahmhmicegjdkaa
