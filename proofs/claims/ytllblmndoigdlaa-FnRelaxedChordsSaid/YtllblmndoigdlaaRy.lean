/- bestAmount -/
import Derived.Test.YtllblmndoigdlaaRa
import Derived.Test.YtllblmndoigdlaaQ8
namespace Go.Proofs.Ytllblmndoigdlaa
open Go.RowKit

theorem fdiv2c (s : Int) : (if s.tmod 2 < 0 then s.tdiv 2 - 1 else s.tdiv 2) = s / 2 := by
  have h1 := Int.tmod_add_mul_tdiv s 2
  have h2 : -2 < s.tmod 2 ∧ s.tmod 2 < 2 := by
    have := Int.tmod_lt_of_pos s (b := 2) (by decide)
    have h3 : -s.tmod 2 < 2 := by rw [← Int.neg_tmod]; exact Int.tmod_lt_of_pos (-s) (by decide)
    omega
  have h3 : 0 ≤ s → 0 ≤ s.tmod 2 := fun h => Int.tmod_nonneg 2 h
  have h4 : s ≤ 0 → s.tmod 2 ≤ 0 := fun h => by
    have : 0 ≤ (-s).tmod 2 := Int.tmod_nonneg 2 (by omega)
    rw [Int.neg_tmod] at this
    omega
  split <;> omega

set_option maxHeartbeats 1000000 in
theorem floorDiv_twoc (s : Int) (w : World) (hs : -9000000000000000000 ≤ s ∧ s ≤ 9000000000000000000) :
    Calls Try.prog 127 #[.int .i64 s, .int .i64 2] w fun e w' => e = .returned (.int .i64 (s / 2)) ∧ w = w' := by
  have HD := Lib.hid (fdiv2c s)
  have h1 := Int.tmod_add_mul_tdiv s 2
  have h2 : -2 < s.tmod 2 ∧ s.tmod 2 < 2 := by
    have := Int.tmod_lt_of_pos s (b := 2) (by decide)
    have h3 : -s.tmod 2 < 2 := by rw [← Int.neg_tmod]; exact Int.tmod_lt_of_pos (-s) (by decide)
    omega
  by_cases hn : s.tmod 2 < 0
  · rw [if_pos hn] at HD
    go_enter Try.func127, Try.ntmps127
    go_wp2_with fail
    go_ret
    exact ⟨ret_int HD.out, rfl⟩
  · rw [if_neg hn] at HD
    go_enter Try.func127, Try.ntmps127
    go_wp2_with fail
    go_ret
    exact ⟨ret_int HD.out, rfl⟩

set_option maxHeartbeats 1000000 in
theorem l01Floor_twoc (s : Int) (w : World) (hs : -9000000000000000000 ≤ s ∧ s ≤ 9000000000000000000) :
    Calls Try.prog 128 #[.int .i64 s, .int .i64 2] w fun e w' => e = .returned (.int .i64 (s / 2)) ∧ w = w' := by
  have HD := Lib.hid (fdiv2c s)
  have h1 := Int.tmod_add_mul_tdiv s 2
  have h2 : -2 < s.tmod 2 ∧ s.tmod 2 < 2 := by
    have := Int.tmod_lt_of_pos s (b := 2) (by decide)
    have h3 : -s.tmod 2 < 2 := by rw [← Int.neg_tmod]; exact Int.tmod_lt_of_pos (-s) (by decide)
    omega
  by_cases hn : s.tmod 2 < 0
  · rw [if_pos hn] at HD
    go_enter Try.func128, Try.ntmps128
    go_wp2_with fail
    go_ret
    exact ⟨ret_int HD.out, rfl⟩
  · rw [if_neg hn] at HD
    go_enter Try.func128, Try.ntmps128
    go_wp2_with fail
    go_ret
    exact ⟨ret_int HD.out, rfl⟩

theorem run_index2c (x y : Int) (w : World) : (Instr.index 78 (.agg #[.int .i64 x, .int .i64 y]) (.int .i64 0)).run Try.prog w = .ok (.int .i64 x) w ∧ (Instr.index 78 (.agg #[.int .i64 x, .int .i64 y]) (.int .i64 1)).run Try.prog w = .ok (.int .i64 y) w := by
  constructor
  · simp [Instr.index, run_underlying Try.underlying78, asIntOf, go_sem]
  · simp [Instr.index, run_underlying Try.underlying78, asIntOf, go_sem]

/-! ### plain facts -/
theorem best_pm {net : Net} {zs cs : List Int} (hv : netB net = true) (hf : flowB net zs = true) (hc : Cyc net cs) {c : Nat} (h0 : c < net.pipes.length) (h1 : ig cs c ≠ 0) {F : Int → Int} {E : Int} (hF : ∀ a, F a = enA net zs cs a - E) {p : Int}
    (hp : Pm F (loK zs cs net.pipes.length) (hiK zs cs net.pipes.length) p) : nearer F (hiK zs cs net.pipes.length) p = bestL net zs cs := by
  have hp2 : Pm (enA net zs cs) (loK zs cs net.pipes.length) (hiK zs cs net.pipes.length) p := by
    refine ⟨hp.l, hp.r, ?_, ?_⟩
    · rcases hp.lt with h | h
      · exact .inl h
      · right; rw [hF, hF] at h; omega
    · rcases hp.rt with h | h
      · exact .inl h
      · right; rw [hF, hF] at h; omega
  have e := pmin_is (enA_conv hv (by rw [hc.len, flowB_len hf]) hc h0 h1) hp2
  unfold bestL
  rw [← e]
  unfold nearer
  have e2 : (F (p + 1) = F p) ↔ (enA net zs cs (p + 1) = enA net zs cs p) := by rw [hF, hF]; omega
  by_cases h : p + 1 ≤ hiK zs cs net.pipes.length ∧ F (p + 1) = F p ∧ ab (p + 1) < ab p
  · rw [if_pos h, if_pos ⟨h.1, e2.1 h.2.1, h.2.2⟩]
  · rw [if_neg h, if_neg fun h2 => h ⟨h2.1, e2.2 h2.2.1, h2.2.2⟩]
theorem conv_sub {F : Int → Int} {f : Int → Int} {E : Int} (hF : ∀ a, F a = f a - E) (h : Conv f) : Conv F := fun a => by
  have := h a
  rw [hF, hF, hF]; omega
theorem chg_enA {net : Net} {zs cs : List Int} (hf : flowB net zs = true) (hc : Cyc net cs) (a : Int) : chg net zs cs a net.pipes.length = enA net zs cs a - eng net.pipes zs net.pipes.length :=
  chg_eng (by rw [hc.len, flowB_len hf]) _
theorem chgR_in {net : Net} {zs cs : List Int} (hf : flowB net zs = true) (hc : Cyc net cs) {c : Nat} (h0 : c < net.pipes.length) (h1 : ig cs c ≠ 0) {a : Int} (ha : loK zs cs net.pipes.length ≤ a ∧ a ≤ hiK zs cs net.pipes.length) : chgR net zs cs a = (chg net zs cs a net.pipes.length, true) := by
  unfold chgR; rw [(rng_iff hf hc h0 h1 a).2 ha]; rfl
theorem chgR_out {net : Net} {zs cs : List Int} (hf : flowB net zs = true) (hc : Cyc net cs) {c : Nat} (h0 : c < net.pipes.length) (h1 : ig cs c ≠ 0) {a : Int} (ha : ¬ (loK zs cs net.pipes.length ≤ a ∧ a ≤ hiK zs cs net.pipes.length)) : chgR net zs cs a = (0, false) := by
  unfold chgR
  cases h : okK zs cs a net.pipes.length
  · rfl
  · exact absurd ((rng_iff hf hc h0 h1 a).1 h) ha

def BestAt (j : Nat) (x b r : Int) : Prop := (j < 2 → x = b) ∧ (j = 2 → x = r)
/-- the boxes of bestAmount -/
structure BB (wr : World) (g : Nat) (A : Option Addr) (n c : Nat) (B : Option Addr) (m d : Nat) (C : Option Addr) (l e : Nat) (C2 : Option Addr) (l2 e2 : Nat) : Prop where
  bx : BX wr g A n c B m d
  bf : wr.heap[g + 1]? = some (.cells #[.slice C l e] 28 (0, 0))
  bc : wr.heap[g + 1 + 1]? = some (.cells #[.slice C2 l2 e2] 28 (0, 0))

section
variable {wr wr' : World} {g : Nat} {A : Option Addr} {n c : Nat} {B : Option Addr} {m d : Nat} {C : Option Addr} {l e : Nat} {C2 : Option Addr} {l2 e2 : Nat}
theorem BB.step (h : BB wr g A n c B m d C l e C2 l2 e2) (hb : Below wr.heap.size wr wr') : BB wr' g A n c B m d C l e C2 l2 e2 :=
  ⟨h.bx.step hb, (hb.block _ (Array.getElem?_eq_some_iff.1 h.bf).1).trans h.bf, (hb.block _ (Array.getElem?_eq_some_iff.1 h.bc).1).trans h.bc⟩
theorem BB.c2 (h : BB wr g A n c B m d C l e C2 l2 e2) : wr.cell? ⟨g + 1, 0, none⟩ = some (.slice C l e) := by rw [cell_blk h.bf]; rfl
theorem BB.c3 (h : BB wr g A n c B m d C l e C2 l2 e2) : wr.cell? ⟨g + 1 + 1, 0, none⟩ = some (.slice C2 l2 e2) := by rw [cell_blk h.bc]; rfl
theorem BB.start (w : World) : BB (((w.alloc (.cells #[.slice A n c, .slice B m d] 27)).alloc (.cells #[.slice C l e] 28)).alloc (.cells #[.slice C2 l2 e2] 28)) w.heap.size A n c B m d C l e C2 l2 e2 := by
  have s1 : (w.alloc (.cells #[.slice A n c, .slice B m d] 27)).heap.size = w.heap.size + 1 := World.size_alloc _ _
  have s2 : ((w.alloc (.cells #[.slice A n c, .slice B m d] 27)).alloc (.cells #[.slice C l e] 28)).heap.size = w.heap.size + 1 + 1 := by rw [World.size_alloc, s1]
  refine ⟨⟨?_⟩, ?_, ?_⟩
  · exact (Below.heap_alloc _ _ _ (by omega)).trans ((Below.heap_alloc _ _ _ (by omega)).trans (heap_alloc_new _ _))
  · rw [← s1]; exact (Below.heap_alloc _ _ _ (by omega)).trans (heap_alloc_new _ _)
  · rw [← s2]; exact heap_alloc_new _ _

end

theorem energyChange_is (A : Option Addr) (n c : Nat) (B : Option Addr) (m d : Nat) (net : Net) (C : Option Addr) (l e : Nat) (zs : List Int) (C2 : Option Addr) (l2 e2 : Nat) (cs : List Int) (a v : Int) (b : Bool) (w : World) (h : NetAt w A n c B m d net) (hz : Ints w C l e zs) (hz2 : Ints w C2 l2 e2 cs) (hv : netB net = true) (hf : flowB net zs = true) (hc : Cyc net cs) (ha : -100000 ≤ a ∧ a ≤ 100000) (hr : chgR net zs cs a = (v, b)) :
    Calls Try.prog 77 #[.agg #[.slice A n c, .slice B m d], .slice C l e, .slice C2 l2 e2, .int .i64 a] w fun e w' => e = .returned (.tuple #[.int .i64 v, .bool b]) ∧ Below w.heap.size w w' := by
  have := energyChange_any A n c B m d net C l e zs C2 l2 e2 cs a w h hz hz2 hv hf hc ha
  rw [hr] at this
  exact this

set_option maxRecDepth 100000 in
set_option maxHeartbeats 4000000 in
theorem best1_is (g : Nat) (A : Option Addr) (n c : Nat) (B : Option Addr) (m d : Nat) (net : Net) (C : Option Addr) (l e : Nat) (zs : List Int) (C2 : Option Addr) (l2 e2 : Nat) (cs : List Int) (a v : Int) (b : Bool) (w : World) (hB : BB w g A n c B m d C l e C2 l2 e2) (h : NetAt w A n c B m d net) (hz : Ints w C l e zs) (hz2 : Ints w C2 l2 e2 cs) (hv : netB net = true) (hf : flowB net zs = true) (hc : Cyc net cs) (ha : -100000 ≤ a ∧ a ≤ 100000) (hr : chgR net zs cs a = (v, b)) :
    Calls Try.prog 126 #[.int .i64 a, .pointer (some ⟨g, 0, none⟩), .pointer (some ⟨g + 1, 0, none⟩), .pointer (some ⟨g + 1 + 1, 0, none⟩)] w fun e w' => e = .returned (.int .i64 v) ∧ Below w.heap.size w w' := by
  have k0 := hB.bx.c0
  have k1 := hB.bx.c1
  have k2 := hB.c2
  have k3 := hB.c3
  have HR := Lib.hid hr
  have HC := Lib.hid (energyChange_any A n c B m d net C l e zs C2 l2 e2 cs a w h hz hz2 hv hf hc ha)
  clear hB h hz hz2 hv hf hc hr
  go_enter Try.func126, Try.ntmps126
  go_wp2_with fail
  refine HC.out.mono ?_
  rintro e w1 ⟨rfl, b1⟩
  rw [HR.out]
  go_wp2_with fail
  go_ret
  exact ⟨rfl, b1⟩

set_option maxRecDepth 100000 in
set_option maxHeartbeats 16000000 in
theorem bestAmount_any (A : Option Addr) (n c : Nat) (B : Option Addr) (m d : Nat) (net : Net) (C : Option Addr) (l e : Nat) (zs : List Int) (C2 : Option Addr) (l2 e2 : Nat) (cs : List Int) (q : Nat) (lo hi r : Int) (w : World) (h : NetAt w A n c B m d net) (hz : Ints w C l e zs) (hz2 : Ints w C2 l2 e2 cs) (hv : netB net = true) (hf : flowB net zs = true) (hc : Cyc net cs) (hq : q < net.pipes.length) (hq1 : ig cs q ≠ 0)
    (hlo : loK zs cs net.pipes.length = lo) (hhi : hiK zs cs net.pipes.length = hi) (hbest : bestL net zs cs = r) :
    Calls Try.prog 94 #[.agg #[.slice A n c, .slice B m d], .slice C l e, .slice C2 l2 e2, .int .i64 lo, .int .i64 hi] w fun e w' => e = .returned (.int .i64 r) ∧ Below w.heap.size w w' := by
  obtain ⟨hl0, hl1, hh0, hh1⟩ := lohi_zero hf hc net.pipes.length
  obtain ⟨F, hF⟩ : ∃ F : Int → Int, F = fun a => chg net zs cs a net.pipes.length := ⟨_, rfl⟩
  have HE : Hid (∀ a, F a = enA net zs cs a - eng net.pipes zs net.pipes.length) := Lib.hid (fun a => by rw [hF]; exact chg_enA hf hc a)
  have HCV : Hid (Conv F) := Lib.hid (conv_sub HE.out (enA_conv hv (by rw [hc.len, flowB_len hf]) hc hq hq1))
  have HIN : Hid (∀ a, lo ≤ a → a ≤ hi → chgR net zs cs a = (F a, true)) := Lib.hid (fun a h1 h2 => by rw [hF]; exact chgR_in hf hc hq hq1 ⟨by rw [hlo]; exact h1, by rw [hhi]; exact h2⟩)
  have HOUT : Hid (∀ a, ¬ (lo ≤ a ∧ a ≤ hi) → chgR net zs cs a = (0, false)) := Lib.hid (fun a h1 => chgR_out hf hc hq hq1 (by rw [hlo, hhi]; exact h1))
  have HFIN : Hid (∀ p, Pm F lo hi p → nearer F hi p = r) := Lib.hid (fun p hp => by rw [← hbest, ← hhi]; exact best_pm hv hf hc hq hq1 HE.out (by rw [hlo, hhi]; exact hp))
  have HBND : Hid (∀ a, lo ≤ a → a ≤ hi → -2160000000000000000 ≤ F a ∧ F a ≤ 2160000000000000000) := Lib.hid (fun a h1 h2 => by rw [hF]; exact chg_bnd hv hf (Nat.le_refl _) ((rng_iff hf hc hq hq1 a).2 ⟨by rw [hlo]; exact h1, by rw [hhi]; exact h2⟩))
  rw [hlo] at hl0 hl1
  rw [hhi] at hh0 hh1
  have hW : Below w.heap.size w (((w.alloc (.cells #[.slice A n c, .slice B m d] 27)).alloc (.cells #[.slice C l e] 28)).alloc (.cells #[.slice C2 l2 e2] 28)) := below_step (below_step (bel1 w _) (bel1 _ _)) (bel1 _ _)
  have BB0 := BB.start (A := A) (n := n) (c := c) (B := B) (m := m) (d := d) (C := C) (l := l) (e := e) (C2 := C2) (l2 := l2) (e2 := e2) w
  obtain ⟨w3, hw3⟩ : ∃ w3, (((w.alloc (.cells #[.slice A n c, .slice B m d] 27)).alloc (.cells #[.slice C l e] 28)).alloc (.cells #[.slice C2 l2 e2] 28)) = w3 := ⟨_, rfl⟩
  rw [hw3] at hW BB0
  have HW3 := Lib.hid hw3
  have HW := Lib.hid hW
  have HBB := Lib.hid BB0
  have H1 := fun (wr : World) (hb : Below w3.heap.size w3 wr) (a v : Int) (b : Bool) (ha : -100000 ≤ a ∧ a ≤ 100000) (hr : chgR net zs cs a = (v, b)) => best1_is w.heap.size A n c B m d net C l e zs C2 l2 e2 cs a v b wr (BB0.step hb) (h.later (below_step hW hb)) (hz.later (below_step hW hb)) (hz2.later (below_step hW hb)) hv hf hc ha hr
  have H2 := fun (wr : World) (hb : Below w3.heap.size w3 wr) (a v : Int) (b : Bool) (ha : -100000 ≤ a ∧ a ≤ 100000) (hr : chgR net zs cs a = (v, b)) => energyChange_is A n c B m d net C l e zs C2 l2 e2 cs a v b wr (h.later (below_step hW hb)) (hz.later (below_step hW hb)) (hz2.later (below_step hW hb)) hv hf hc ha hr
  have HE1 := Lib.hid H1
  have HE2 := Lib.hid H2
  clear H1 H2 hw3 hW BB0 hlo hhi hbest hF HE h hz hz2 hv hf hc hq hq1
  go_enter Try.func94, Try.ntmps94
  go_wp2_with fail
  rw [HW3.out]
  go_loopw [3, 4, 12] (fun s t _ wr => ∃ a b : Int, s = .int .i64 a ∧ t = .int .i64 b ∧ lo ≤ a ∧ a ≤ b ∧ b ≤ hi ∧ Hid (a = lo ∨ F a < F (a - 1)) ∧ Hid (b = hi ∨ F b ≤ F (b + 1)) ∧ Below w3.heap.size w3 wr) (fun s t _ _ => (intOf t - intOf s).toNat)
  case atStart => exact ⟨lo, hi, rfl, rfl, Int.le_refl _, by omega, Int.le_refl _, Lib.hid (.inl rfl), Lib.hid (.inl rfl), Below.refl _ _⟩
  case round =>
    obtain ⟨a, b, rfl, rfl, ha, hab, hbh, hA, hB, hb⟩ := hrel
    by_cases hlt : a < b
    · obtain ⟨M, hM⟩ : ∃ M, (a + b) / 2 = M := ⟨_, rfl⟩
      have hM1 : a ≤ M := by omega
      have hM2 : M < b := by omega
      have hfd := floorDiv_twoc (a + b) wr ⟨by omega, by omega⟩
      rw [hM] at hfd
      have HFD := Lib.hid hfd
      clear hfd hM
      go_wp2_with fail
      refine HFD.out.mono ?_
      rintro e w' ⟨rfl, rfl⟩
      go_wp2_with fail
      refine (HE1.out wr hb (M + 1) (F (M + 1)) true ⟨by omega, by omega⟩ (HIN.out _ (by omega) (by omega))).mono ?_
      rintro e w5 ⟨rfl, b5⟩
      have hb5 := below_step hb b5
      clear b5 hb
      go_wp2_with fail
      refine (HE1.out w5 hb5 M (F M) true ⟨by omega, by omega⟩ (HIN.out _ (by omega) (by omega))).mono ?_
      rintro e w6 ⟨rfl, b6⟩
      have hb6 := below_step hb5 b6
      clear b6 hb5
      by_cases hcmp : F M ≤ F (M + 1)
      · have hB2 : Hid (M = hi ∨ F M ≤ F (M + 1)) := Lib.hid (.inr hcmp)
        have hge : decide (F (M + 1) ≥ F M) = true := decide_eq_true hcmp
        go_wp2_with fail
        go_roundw
        case rel => exact ⟨a, M, rfl, rfl, by omega, by omega, by omega, hA, hB2, hb6⟩
        case measure => simp [intOf]; omega
      · have hA2 : Hid (M + 1 = lo ∨ F (M + 1) < F (M + 1 - 1)) := Lib.hid (.inr (by rw [show M + 1 - 1 = M by omega]; omega))
        have hge : decide (F (M + 1) ≥ F M) = false := decide_eq_false (by omega)
        have hlt2 : F (M + 1) < F M := by omega
        clear hcmp
        go_wp2_with fail
        go_roundw
        case rel => exact ⟨M + 1, b, rfl, rfl, by omega, by omega, by omega, hA2, hB, hb6⟩
        case measure => simp [intOf]; omega
    · have hae : b = a := by omega
      subst hae
      have HP : Hid (Pm F lo hi b) := Lib.hid ⟨ha, hbh, hA.out, hB.out⟩
      have HN : Hid (nearer F hi b = r) := Lib.hid (HFIN.out b HP.out)
      have hFb := HBND.out b ha hbh
      clear hA hB hlt HFIN
      obtain ⟨w4, hw4⟩ : ∃ w4, w4 = wr := ⟨_, rfl⟩
      subst hw4
      go_wp2_with fail
      go_loopw [13, 43] (fun s i wr => ∃ (j : Nat) (x : Int), j ≤ 2 ∧ s = .int .i64 x ∧ i = .int .i64 (j : Int) ∧ Hid (BestAt j x b r) ∧ Below w3.heap.size w3 wr) (fun _ i _ => 2 - (intOf i).toNat)
      case atStart => exact ⟨0, b, by omega, rfl, rfl, Lib.hid ⟨fun _ => rfl, fun h => absurd h (by omega)⟩, hb⟩
      case round =>
        clear hb
        obtain ⟨j, x, hj, rfl, rfl, hx, hb⟩ := hrel
        obtain ⟨hx0, hx1⟩ := run_index2c (b - 1) (b + 1) wr
        have BBr := HBB.out.step hb
        have k0 := BBr.bx.c0
        have k1 := BBr.bx.c1
        have k2 := BBr.c2
        have k3 := BBr.c3
        clear BBr
        have hj3 : j = 0 ∨ j = 1 ∨ j = 2 := by omega
        rcases hj3 with rfl | rfl | rfl
        · have hxb := hx.out.1 (by omega)
          subst hxb
          clear hx
          have hx2 : Hid (BestAt 1 x x r) := Lib.hid ⟨fun _ => rfl, fun h => absurd h (by omega)⟩
          by_cases hin : lo ≤ x - 1
          · have hne : F (x - 1) ≠ F x := by have := HP.out.lt; have h2 := this.resolve_left (by omega); omega
            have hnb : (F (x - 1) == F x) = false := by simp [hne]
            go_wp2_with fail
            refine (HE2.out wr hb (x - 1) (F (x - 1)) true ⟨by omega, by omega⟩ (HIN.out _ (by omega) (by omega))).mono ?_
            rintro e w5 ⟨rfl, b5⟩
            have hb5 := below_step hb b5
            clear b5 hb
            go_wp2_with fail
            refine (HE1.out w5 hb5 x (F x) true ⟨by omega, by omega⟩ (HIN.out _ (by omega) (by omega))).mono ?_
            rintro e w6 ⟨rfl, b6⟩
            have hb6 := below_step hb5 b6
            clear b6 hb5 hne
            go_wp2_with fail
            go_roundw
            case rel => exact ⟨1, x, by omega, rfl, by rfl, hx2, hb6⟩
            case measure => simp [intOf]
          · go_wp2_with fail
            refine (HE2.out wr hb (x - 1) 0 false ⟨by omega, by omega⟩ (HOUT.out _ (by omega))).mono ?_
            rintro e w5 ⟨rfl, b5⟩
            have hb5 := below_step hb b5
            clear b5 hb
            go_wp2_with fail
            go_roundw
            case rel => exact ⟨1, x, by omega, rfl, by rfl, hx2, hb5⟩
            case measure => simp [intOf]
        · have hxb := hx.out.1 (by omega)
          subst hxb
          clear hx
          by_cases hin : x + 1 ≤ hi
          · by_cases heq : F (x + 1) = F x
            · have heb : (F (x + 1) == F x) = true := by simp [heq]
              obtain ⟨p1, hp1⟩ : ∃ p1, ab (x + 1) = p1 := ⟨_, rfl⟩
              obtain ⟨p0, hp0⟩ : ∃ p0, ab x = p0 := ⟨_, rfl⟩
              have HP1 := Lib.hid hp1
              have HP0 := Lib.hid hp0
              clear hp1 hp0
              by_cases hlt : p1 < p0
              · have hx2 : Hid (BestAt 2 (x + 1) x r) := Lib.hid ⟨fun h => absurd h (by omega), fun _ => by rw [← HN.out]; unfold nearer; rw [if_pos ⟨hin, heq, by rw [HP1.out, HP0.out]; exact hlt⟩]⟩
                clear heq HN
                go_wp2_with fail
                refine (HE2.out wr hb (x + 1) (F (x + 1)) true ⟨by omega, by omega⟩ (HIN.out _ (by omega) (by omega))).mono ?_
                rintro e w5 ⟨rfl, b5⟩
                have hb5 := below_step hb b5
                clear b5 hb
                go_wp2_with fail
                refine (HE1.out w5 hb5 x (F x) true ⟨by omega, by omega⟩ (HIN.out _ (by omega) (by omega))).mono ?_
                rintro e w6 ⟨rfl, b6⟩
                have hb6 := below_step hb5 b6
                clear b6 hb5
                go_wp2_with fail
                refine (absOf_is _ p1 _ ⟨by omega, by omega⟩ HP1.out).mono ?_
                rintro e w7 ⟨rfl, rfl⟩
                go_wp2_with fail
                refine (absOf_is _ p0 _ ⟨by omega, by omega⟩ HP0.out).mono ?_
                rintro e w7 ⟨rfl, rfl⟩
                go_wp2_with fail
                go_roundw
                case rel => exact ⟨2, x + 1, by omega, rfl, by rfl, hx2, hb6⟩
                case measure => simp [intOf]
              · have hx2 : Hid (BestAt 2 x x r) := Lib.hid ⟨fun _ => rfl, fun _ => by rw [← HN.out]; unfold nearer; rw [if_neg (fun h => hlt (by rw [← HP1.out, ← HP0.out]; exact h.2.2))]⟩
                clear heq HN
                go_wp2_with fail
                refine (HE2.out wr hb (x + 1) (F (x + 1)) true ⟨by omega, by omega⟩ (HIN.out _ (by omega) (by omega))).mono ?_
                rintro e w5 ⟨rfl, b5⟩
                have hb5 := below_step hb b5
                clear b5 hb
                go_wp2_with fail
                refine (HE1.out w5 hb5 x (F x) true ⟨by omega, by omega⟩ (HIN.out _ (by omega) (by omega))).mono ?_
                rintro e w6 ⟨rfl, b6⟩
                have hb6 := below_step hb5 b6
                clear b6 hb5
                go_wp2_with fail
                refine (absOf_is _ p1 _ ⟨by omega, by omega⟩ HP1.out).mono ?_
                rintro e w7 ⟨rfl, rfl⟩
                go_wp2_with fail
                refine (absOf_is _ p0 _ ⟨by omega, by omega⟩ HP0.out).mono ?_
                rintro e w7 ⟨rfl, rfl⟩
                go_wp2_with fail
                go_roundw
                case rel => exact ⟨2, x, by omega, rfl, by rfl, hx2, hb6⟩
                case measure => simp [intOf]
            · have heb : (F (x + 1) == F x) = false := by simp [heq]
              have hx2 : Hid (BestAt 2 x x r) := Lib.hid ⟨fun _ => rfl, fun _ => by rw [← HN.out]; unfold nearer; rw [if_neg (fun h => heq h.2.1)]⟩
              clear heq HN
              go_wp2_with fail
              refine (HE2.out wr hb (x + 1) (F (x + 1)) true ⟨by omega, by omega⟩ (HIN.out _ (by omega) (by omega))).mono ?_
              rintro e w5 ⟨rfl, b5⟩
              have hb5 := below_step hb b5
              clear b5 hb
              go_wp2_with fail
              refine (HE1.out w5 hb5 x (F x) true ⟨by omega, by omega⟩ (HIN.out _ (by omega) (by omega))).mono ?_
              rintro e w6 ⟨rfl, b6⟩
              have hb6 := below_step hb5 b6
              clear b6 hb5
              go_wp2_with fail
              go_roundw
              case rel => exact ⟨2, x, by omega, rfl, by rfl, hx2, hb6⟩
              case measure => simp [intOf]
          · have hx2 : Hid (BestAt 2 x x r) := Lib.hid ⟨fun _ => rfl, fun _ => by rw [← HN.out]; unfold nearer; rw [if_neg (fun h => hin h.1)]⟩
            clear HN
            go_wp2_with fail
            refine (HE2.out wr hb (x + 1) 0 false ⟨by omega, by omega⟩ (HOUT.out _ (by omega))).mono ?_
            rintro e w5 ⟨rfl, b5⟩
            have hb5 := below_step hb b5
            clear b5 hb
            go_wp2_with fail
            go_roundw
            case rel => exact ⟨2, x, by omega, rfl, by rfl, hx2, hb5⟩
            case measure => simp [intOf]
        · have hxr := hx.out.2 rfl
          subst hxr
          go_wp2_with fail
          go_ret
          exact ⟨rfl, below_step HW.out hb⟩

end Go.Proofs.Ytllblmndoigdlaa
