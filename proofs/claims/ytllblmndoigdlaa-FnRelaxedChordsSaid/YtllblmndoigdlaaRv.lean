/- l11Best and RelaxChord, the reference -/
import Derived.Test.YtllblmndoigdlaaRy
import Derived.Test.YtllblmndoigdlaaVq
import Derived.Test.YtllblmndoigdlaaJ4
namespace Go.Proofs.Ytllblmndoigdlaa
open Go.RowKit

theorem best_pm2 {net : Net} {zs cs : List Int} (hv : netB net = true) (hf : flowB net zs = true) (hc : Cyc net cs) {c : Nat} (h0 : c < net.pipes.length) (h1 : ig cs c ≠ 0) {p : Int}
    (hp : Pm (enA net zs cs) (loK zs cs net.pipes.length) (hiK zs cs net.pipes.length) p) : nearer (enA net zs cs) (hiK zs cs net.pipes.length) p = bestL net zs cs :=
  best_pm hv hf hc h0 h1 (F := enA net zs cs) (E := 0) (fun a => by omega) hp
/-- a list of the call's own in some block -/
def isOwnL (n : Nat) (zs : List Int) : VP := fun v w => ∃ b c, v = .slice (some ⟨b, 0, none⟩) n c ∧ Own w (some ⟨b, 0, none⟩) n c zs
theorem stb_own {n : Nat} {zs : List Int} : Stb Grw (isOwnL n zs) := by
  rintro v w w' h ⟨b, c, rfl, ho⟩
  exact ⟨b, c, rfl, ho.later h⟩
def At3 (G : Int → Int) (hi b r : Int) (j : Nat) (x : Int) : Prop := (j = 0 → x = b) ∧ (j = 1 → x = r ∧ G (b + 1) = G b ∧ b + 1 ≤ hi)
theorem ab_near (p : Int) : (ab (p + 1) ≤ ab p ↔ ab (p + 1) < ab p) := by unfold ab; split <;> split <;> omega

set_option maxRecDepth 100000 in
set_option maxHeartbeats 16000000 in
theorem l11Best_any (A : Option Addr) (n c : Nat) (B : Option Addr) (m d : Nat) (net : Net) (C : Option Addr) (l e : Nat) (zs : List Int) (C2 : Option Addr) (l2 e2 : Nat) (cs : List Int) (q : Nat) (r : Int) (w : World) (h : NetAt w A n c B m d net) (hz : Ints w C l e zs) (hz2 : Ints w C2 l2 e2 cs) (hv : netB net = true) (hf : flowB net zs = true) (hc : Cyc net cs) (hq : q < net.pipes.length) (hq1 : ig cs q ≠ 0) (hbest : bestL net zs cs = r) :
    Calls Try.prog 96 #[.agg #[.slice A n c, .slice B m d], .slice C l e, .slice C2 l2 e2] w fun e w' => e = .returned (.int .i64 r) ∧ Below w.heap.size w w' := by
  have HB := Lib.hid (bel1 w (.cells #[.slice A n c, .slice B m d] 27))
  have bxW : BX (w.alloc (.cells #[.slice A n c, .slice B m d] 27)) w.heap.size A n c B m d := ⟨heap_alloc_new w _⟩
  have hlm : m = l := by have := flowB_len hf; have := h.pipes.len; have := hz.len; omega
  have hlm2 : m = l2 := by have := hc.len; have := h.pipes.len; have := hz2.len; omega
  subst hlm
  subst hlm2
  have hm40 : m ≤ 40 := by have := (netB_sizes hv).2.2; have := h.pipes.len; omega
  have hPL := h.pipes.len
  have hm0 : 0 < m := by omega
  obtain ⟨lo, hlo⟩ : ∃ lo, loK zs cs net.pipes.length = lo := ⟨_, rfl⟩
  obtain ⟨hi, hhi⟩ : ∃ hi, hiK zs cs net.pipes.length = hi := ⟨_, rfl⟩
  obtain ⟨hl0, hl1, hh0, hh1⟩ := lohi_zero hf hc net.pipes.length
  obtain ⟨G, hG⟩ : ∃ G : Int → Int, G = enA net zs cs := ⟨_, rfl⟩
  have hfl : ∀ a, lo ≤ a → a ≤ hi → flowB net (addL zs cs a) = true := fun a h1 h2 => (flow_okK hf hc.len).trans ((rng_iff hf hc hq hq1 a).2 ⟨by rw [hlo]; exact h1, by rw [hhi]; exact h2⟩)
  have HCV : Hid (Conv G) := Lib.hid (by rw [hG]; exact enA_conv hv (by rw [hc.len, flowB_len hf]) hc hq hq1)
  have HFIN : Hid (∀ p, Pm G lo hi p → nearer G hi p = r) := Lib.hid (fun p hp => by rw [← hbest, ← hhi, hG]; exact best_pm2 hv hf hc hq hq1 (by rw [hlo, hhi, ← hG]; exact hp))
  have HBND : Hid (∀ a, lo ≤ a → a ≤ hi → -1080000000000000000 ≤ G a ∧ G a ≤ 1080000000000000000) := Lib.hid (fun a h1 h2 => by rw [hG]; exact eng_bnd hv (hfl a h1 h2) _ (Nat.le_refl _))
  have HADD : Hid (∀ W : World, Below w.heap.size w W → ∀ a : Int, lo ≤ a → a ≤ hi → Calls Try.prog 80 #[.slice C m e, .slice C2 m e2, .int .i64 a] W fun e w' => ∃ A' c', e = .returned (.slice A' m c') ∧ Own w' A' m c' (addL zs cs a) ∧ Fresh W.heap.size A' ∧ Below W.heap.size W w') :=
    Lib.hid (fun W hW a h1 h2 => l05Add_any _ _ _ _ _ _ _ _ _ _ (hz.later hW) (hz2.later hW) (Nat.le_refl _) (by omega) (fun j => by have := flowB_all hf j; omega) (fun j => by have := hc.bnd j; omega) (by rw [← hlo] at h1; rw [← hhi] at h2; omega))
  have HEN : Hid (∀ W : World, Below w.heap.size w W → ∀ a : Int, lo ≤ a → a ≤ hi → ∀ (A' : Option Addr) (c' : Nat), Own W A' m c' (addL zs cs a) → Calls Try.prog 82 #[.agg #[.slice A n c, .slice B m d], .slice A' m c'] W fun e w' => e = .returned (.int .i64 (G a)) ∧ Below W.heap.size W w') :=
    Lib.hid (fun W hW a h1 h2 A' c' ho => by
      have := l10Energy_any A n c B m d net A' m c' (addL zs cs a) W (h.later hW) ho.ints hv (hfl a h1 h2)
      have e : G a = eng net.pipes (addL zs cs a) m := by rw [hG, ← hPL]; rfl
      rw [e]; exact this)
  have HLO : Hid (loK zs cs m = lo) := Lib.hid (by rw [← hPL]; exact hlo)
  have HHI : Hid (hiK zs cs m = hi) := Lib.hid (by rw [← hPL]; exact hhi)
  rw [hlo] at hl0 hl1
  rw [hhi] at hh0 hh1
  have HF := Lib.hid hf
  have HCY := Lib.hid hc
  clear hlo hhi hbest hG hfl hPL h hv hf hc hq hq1
  go_enter Try.func96, Try.ntmps96
  go_wp2_with fail
  go_loopw [7, 8, 9] (fun s t i wr => ∃ k : Nat, k ≤ m ∧ s = .int .i64 (loK zs cs k) ∧ t = .int .i64 (hiK zs cs k) ∧ i = .int .i64 k ∧ Hid (Below w.heap.size w wr) ∧ Hid (BX wr w.heap.size A n c B m d)) (fun _ _ i _ => m - (intOf i).toNat)
  case atStart => exact ⟨0, by omega, rfl, rfl, rfl, HB, Lib.hid bxW⟩
  case round =>
    obtain ⟨k, hk, rfl, rfl, rfl, HT, HX⟩ := hrel
    by_cases hlt : k < m
    · have hki : (k : Int) < (m : Int) := by omega
      obtain ⟨bz, offz, rfl, hblz, hcz⟩ := (hz.later HT.out).cells (by omega)
      obtain ⟨by_, offy, rfl, hbly, hcy⟩ := (hz2.later HT.out).cells (by omega)
      have cz := hcz k hlt
      have cy := hcy k hlt
      have hLH := lohi_zero HF.out HCY.out k
      have hVb := flowB_all HF.out k
      have HL := Lib.hid (loK_succ zs cs k)
      have HH := Lib.hid (hiK_succ zs cs k)
      have hu := HCY.out.u k
      clear hcz hcy
      generalize loK zs cs k = LO at *
      generalize hiK zs cs k = HI at *
      generalize ig zs k = V at *
      have HT2 := fun n => Lib.hid (below_drew HT.out n)
      have HX2 := fun n => Lib.hid (HX.out.step (below_drew (Below.refl _ _) n))
      rcases hu with h1 | h1 | h1
      · rw [h1] at cy
        have HL1 : Hid (loK zs cs (k + 1) = if LO < V - 30000 then V - 30000 else LO) := Lib.hid (by rw [HL.out, h1, if_neg (by decide)]; split <;> split <;> omega)
        have HH1 : Hid (hiK zs cs (k + 1) = if V + 30000 < HI then V + 30000 else HI) := Lib.hid (by rw [HH.out, h1, if_neg (by decide)]; split <;> split <;> omega)
        clear HL HH h1
        go_wp2_with fail
        go_quiet (fail)
        go_wp2_with fail
        go_quiet (fail)
        go_wp2_with fail
        go_roundw
        case rel => exact ⟨k + 1, by omega, by rw [HL1.out]; refine congrArg (Value.int .i64) ?_; split <;> omega, by rw [HH1.out]; refine congrArg (Value.int .i64) ?_; split <;> omega, by go_num, HT2 _, HX2 _⟩
        case measure => simp [intOf]; omega
      · rw [h1] at cy
        have HL2 : Hid (loK zs cs (k + 1) = LO) := Lib.hid (by rw [HL.out, h1, if_pos rfl])
        have HH2 : Hid (hiK zs cs (k + 1) = HI) := Lib.hid (by rw [HH.out, h1, if_pos rfl])
        clear HL HH h1
        go_wp2_with fail
        go_roundw
        case rel => exact ⟨k + 1, by omega, by rw [HL2.out], by rw [HH2.out], by go_num, HT, HX⟩
        case measure => simp [intOf]; omega
      · rw [h1] at cy
        have HL1 : Hid (loK zs cs (k + 1) = if LO < -30000 - V then -30000 - V else LO) := Lib.hid (by rw [HL.out, h1, if_neg (by decide)]; split <;> split <;> omega)
        have HH1 : Hid (hiK zs cs (k + 1) = if 30000 - V < HI then 30000 - V else HI) := Lib.hid (by rw [HH.out, h1, if_neg (by decide)]; split <;> split <;> omega)
        clear HL HH h1
        go_wp2_with fail
        go_quiet (fail)
        go_wp2_with fail
        go_quiet (fail)
        go_wp2_with fail
        go_roundw
        case rel => exact ⟨k + 1, by omega, by rw [HL1.out]; refine congrArg (Value.int .i64) ?_; split <;> omega, by rw [HH1.out]; refine congrArg (Value.int .i64) ?_; split <;> omega, by go_num, HT2 _, HX2 _⟩
        case measure => simp [intOf]; omega
    · have hkm : k = m := by omega
      subst hkm
      have hki : ¬ (k : Int) < (k : Int) := by omega
      have HTk := HT
      have HXk := HX
      rw [HLO.out, HHI.out]
      clear HLO HHI hz hz2 HF HCY HT HX
      go_wp2_with fail
      go_loopw [10, 11, 12] (fun s t _ wr => ∃ a b : Int, s = .int .i64 a ∧ t = .int .i64 b ∧ lo ≤ a ∧ a ≤ b ∧ b ≤ hi ∧ Hid (a = lo ∨ G a < G (a - 1)) ∧ Hid (b = hi ∨ G b ≤ G (b + 1)) ∧ Hid (Below w.heap.size w wr) ∧ Hid (BX wr w.heap.size A n c B k d)) (fun s t _ _ => (intOf t - intOf s).toNat)
      case atStart => exact ⟨lo, hi, rfl, rfl, Int.le_refl _, by omega, Int.le_refl _, Lib.hid (.inl rfl), Lib.hid (.inl rfl), HTk, HXk⟩
      case round =>
        clear HTk HXk
        obtain ⟨a, b, rfl, rfl, ha, hab, hbh, hA, hB, HT, HX⟩ := hrel
        have k0 := HX.out.c0
        have k1 := HX.out.c1
        by_cases hlt : a < b
        · obtain ⟨M, hM⟩ : ∃ M, (a + b) / 2 = M := ⟨_, rfl⟩
          have hM1 : a ≤ M := by omega
          have hM2 : M < b := by omega
          have hfd := l01Floor_twoc (a + b) wr ⟨by omega, by omega⟩
          rw [hM] at hfd
          have HFD := Lib.hid hfd
          have f1 := HBND.out M (by omega) (by omega)
          have f2 := HBND.out (M + 1) (by omega) (by omega)
          clear hfd hM
          go_wp2_with fail
          refine HFD.out.mono ?_
          rintro e w' ⟨rfl, rfl⟩
          clear HFD
          go_wp2_with fail
          have lt0 := World.block_lt_of_cell? _ _ k0
          simp only at lt0
          have hMw := wrap_id (z := M + 1) ⟨by omega, by omega⟩
          apply wp_region_track [60, 61, 62, 63, 64, 65, 66, 67, 68, 69, 70, 71, 72, 73] [eqv _, eqv _, eqv _, eqv _, isOwnL k (addL zs cs M), eqv _, eqv _, eqv _, eqv _, eqv _, eqv (.int .i64 (M + 1)), isOwnL k (addL zs cs (M + 1)), eqv _, eqv _]
            (fun w' => Below wr.heap.size wr w') Grw (by kernel_rfl) (by kernel_rfl) rfl (by kernel_rfl)
          case hs =>
            refine ⟨?_, ?_, ?_, ?_, ?_, ?_, ?_, ?_, ?_, ?_, ?_, ?_, ?_, ?_, trivial⟩
            · intro ev wt ht hc hg hf hI hd
              have e3 : ev (.tmp 3) = .pointer (some ⟨w.heap.size, 0, none⟩) := ht 3 (by decide)
              have y0 := (hI.cell (p := ⟨w.heap.size, 0, none⟩) lt0).trans k0
              have y1 := (hI.cell (p := ⟨w.heap.size, 1, none⟩) lt0).trans k1
              refine opok_gen fun N hN => ?_
              clear hd ht
              go_simp
              exact hN.out _ _ ⟨hI, Below.refl _ _, rfl⟩
            · intro ev wt ht hc hg hf hI hd
              have e1 : ev (.tmp 1) = .slice C k e := ht 1 (by decide)
              exact opok_move _ rfl ⟨hI, Below.refl _ _, e1⟩
            · intro ev wt ht hc hg hf hI hd
              have e2 : ev (.tmp 2) = .slice C2 k e2 := ht 2 (by decide)
              exact opok_move _ rfl ⟨hI, Below.refl _ _, e2⟩
            · intro ev wt ht hc hg hf hI hd
              have e12 : ev (.tmp 12) = .int .i64 M := ht 12 (by decide)
              exact opok_move _ rfl ⟨hI, Below.refl _ _, e12⟩
            · intro ev wt ht hc hg hf hI hd
              have e61 : ev (.tmp 61) = _ := hd 1 61 rfl rfl
              have e62 : ev (.tmp 62) = _ := hd 2 62 rfl rfl
              have e63 : ev (.tmp 63) = _ := hd 3 63 rfl rfl
              refine opok_gen fun N hN => ?_
              clear hd ht
              go_simp
              refine (HADD.out _ (below_step HT.out hI) (M) (by omega) (by omega)).mono ?_
              rintro e wz ⟨Ay, cy, rfl, oy, _, bz_⟩
              obtain ⟨gy, rfl, hgy⟩ := oy.pos (by omega)
              exact ⟨_, rfl, hN.out _ _ ⟨below_step hI bz_, bz_, ⟨gy, cy, rfl, oy⟩⟩⟩
            · intro ev wt ht hc hg hf hI hd
              have e60 : ev (.tmp 60) = _ := hd 0 60 rfl rfl
              have e64 := hd 4 64 rfl rfl
              obtain ⟨gy, cy, e64, oy⟩ := e64
              refine opok_gen fun N hN => ?_
              clear hd ht
              go_simp
              refine (HEN.out _ (below_step HT.out hI) (M) (by omega) (by omega) _ _ oy).mono ?_
              rintro e wz ⟨rfl, bz_⟩
              exact ⟨_, rfl, hN.out _ _ ⟨below_step hI bz_, bz_, rfl⟩⟩
            · intro ev wt ht hc hg hf hI hd
              have e3 : ev (.tmp 3) = .pointer (some ⟨w.heap.size, 0, none⟩) := ht 3 (by decide)
              have y0 := (hI.cell (p := ⟨w.heap.size, 0, none⟩) lt0).trans k0
              have y1 := (hI.cell (p := ⟨w.heap.size, 1, none⟩) lt0).trans k1
              refine opok_gen fun N hN => ?_
              clear hd ht
              go_simp
              exact hN.out _ _ ⟨hI, Below.refl _ _, rfl⟩
            · intro ev wt ht hc hg hf hI hd
              have e1 : ev (.tmp 1) = .slice C k e := ht 1 (by decide)
              exact opok_move _ rfl ⟨hI, Below.refl _ _, e1⟩
            · intro ev wt ht hc hg hf hI hd
              have e2 : ev (.tmp 2) = .slice C2 k e2 := ht 2 (by decide)
              exact opok_move _ rfl ⟨hI, Below.refl _ _, e2⟩
            · intro ev wt ht hc hg hf hI hd
              have e12 : ev (.tmp 12) = .int .i64 M := ht 12 (by decide)
              exact opok_move _ rfl ⟨hI, Below.refl _ _, e12⟩
            · intro ev wt ht hc hg hf hI hd
              have e69 : ev (.tmp 69) = _ := hd 9 69 rfl rfl
              refine opok_gen fun N hN => ?_
              clear hd ht
              go_simp
              exact hN.out _ _ ⟨hI, Below.refl _ _, rfl⟩
            · intro ev wt ht hc hg hf hI hd
              have e67 : ev (.tmp 67) = _ := hd 7 67 rfl rfl
              have e68 : ev (.tmp 68) = _ := hd 8 68 rfl rfl
              have e70 : ev (.tmp 70) = _ := hd 10 70 rfl rfl
              refine opok_gen fun N hN => ?_
              clear hd ht
              go_simp
              refine (HADD.out _ (below_step HT.out hI) (M + 1) (by omega) (by omega)).mono ?_
              rintro e wz ⟨Ay, cy, rfl, oy, _, bz_⟩
              obtain ⟨gy, rfl, hgy⟩ := oy.pos (by omega)
              exact ⟨_, rfl, hN.out _ _ ⟨below_step hI bz_, bz_, ⟨gy, cy, rfl, oy⟩⟩⟩
            · intro ev wt ht hc hg hf hI hd
              have e66 : ev (.tmp 66) = _ := hd 6 66 rfl rfl
              have e71 := hd 11 71 rfl rfl
              obtain ⟨gy, cy, e71, oy⟩ := e71
              refine opok_gen fun N hN => ?_
              clear hd ht
              go_simp
              refine (HEN.out _ (below_step HT.out hI) (M + 1) (by omega) (by omega) _ _ oy).mono ?_
              rintro e wz ⟨rfl, bz_⟩
              exact ⟨_, rfl, hN.out _ _ ⟨below_step hI bz_, bz_, rfl⟩⟩
            · intro ev wt ht hc hg hf hI hd
              have e65 : ev (.tmp 65) = _ := hd 5 65 rfl rfl
              have e72 : ev (.tmp 72) = _ := hd 12 72 rfl rfl
              refine opok_gen fun N hN => ?_
              clear hd ht
              go_simp
              exact hN.out _ _ ⟨hI, Below.refl _ _, rfl⟩
          case hst =>
            refine fun j v w w' _ h1 h2 => StbL.nth (S := Grw) ?_ j v w w' h1 h2
            exact ⟨stb_eqv _, stb_eqv _, stb_eqv _, stb_eqv _, stb_own, stb_eqv _, stb_eqv _, stb_eqv _, stb_eqv _, stb_eqv _, stb_eqv _, stb_own, stb_eqv _, stb_eqv _, trivial⟩
          case hI => exact (Below.refl _ _).drew
          case hl =>
            rintro wt hI _ rfl _ rfl _ rfl _ rfl _ h4 _ rfl _ rfl _ rfl _ rfl _ rfl _ rfl _ h11 _ rfl _ rfl
            simp only [Lasts, List.length_cons, List.length_nil, Nat.reduceAdd, List.drop_succ_cons, List.drop_zero, Act.put, List.setIfInBounds_toArray, List.set_cons_succ, List.set_cons_zero]
            rw [wpList_none]
            have HT := Lib.hid (below_step HT.out hI)
            have HX := Lib.hid (HX.out.step hI)
            clear hI k0 k1 lt0
            by_cases hcmp : G M ≤ G (M + 1)
            · have hB2 : Hid (M = hi ∨ G M ≤ G (M + 1)) := Lib.hid (.inr hcmp)
              go_wp2_with fail
              go_roundw
              case rel => exact ⟨a, M, rfl, rfl, by omega, by omega, by omega, hA, hB2, HT, HX⟩
              case measure => simp [intOf]; omega
            · have hA2 : Hid (M + 1 = lo ∨ G (M + 1) < G (M + 1 - 1)) := Lib.hid (.inr (by rw [show M + 1 - 1 = M by omega]; omega))
              have hlt2 : G (M + 1) < G M := by omega
              clear hcmp
              go_wp2_with fail
              go_roundw
              case rel => exact ⟨M + 1, b, rfl, rfl, by omega, by omega, by omega, hA2, hB, HT, HX⟩
              case measure => simp [intOf]; omega
        · have hae : b = a := by omega
          subst hae
          have HP : Hid (Pm G lo hi b) := Lib.hid ⟨ha, hbh, hA.out, hB.out⟩
          have HN : Hid (nearer G hi b = r) := Lib.hid (HFIN.out b HP.out)
          have hGb := HBND.out b ha hbh
          clear hA hB hlt HFIN
          obtain ⟨w4, hw4⟩ : ∃ w4, w4 = wr := ⟨_, rfl⟩
          subst hw4
          go_wp2_with fail
          have lt0 := World.block_lt_of_cell? _ _ k0
          simp only at lt0
          apply wp_region_track [78, 79, 80, 81, 82, 83, 14] [eqv _, eqv _, eqv _, eqv _, isOwnL k (addL zs cs b), eqv _, eqv _]
            (fun w' => Below w4.heap.size w4 w') Grw (by kernel_rfl) (by kernel_rfl) rfl (by kernel_rfl)
          case hs =>
            refine ⟨?_, ?_, ?_, ?_, ?_, ?_, ?_, trivial⟩
            · intro ev wt ht hc hg hf hI hd
              have e3 : ev (.tmp 3) = .pointer (some ⟨w.heap.size, 0, none⟩) := ht 3 (by decide)
              have y0 := (hI.cell (p := ⟨w.heap.size, 0, none⟩) lt0).trans k0
              have y1 := (hI.cell (p := ⟨w.heap.size, 1, none⟩) lt0).trans k1
              refine opok_gen fun N hN => ?_
              clear hd ht
              go_simp
              exact hN.out _ _ ⟨hI, Below.refl _ _, rfl⟩
            · intro ev wt ht hc hg hf hI hd
              have e1 : ev (.tmp 1) = .slice C k e := ht 1 (by decide)
              exact opok_move _ rfl ⟨hI, Below.refl _ _, e1⟩
            · intro ev wt ht hc hg hf hI hd
              have e2 : ev (.tmp 2) = .slice C2 k e2 := ht 2 (by decide)
              exact opok_move _ rfl ⟨hI, Below.refl _ _, e2⟩
            · intro ev wt ht hc hg hf hI hd
              have e10 : ev (.tmp 10) = .int .i64 b := ht 10 (by decide)
              exact opok_move _ rfl ⟨hI, Below.refl _ _, e10⟩
            · intro ev wt ht hc hg hf hI hd
              have e79 : ev (.tmp 79) = _ := hd 1 79 rfl rfl
              have e80 : ev (.tmp 80) = _ := hd 2 80 rfl rfl
              have e81 : ev (.tmp 81) = _ := hd 3 81 rfl rfl
              refine opok_gen fun N hN => ?_
              clear hd ht
              go_simp
              refine (HADD.out _ (below_step HT.out hI) (b) (by omega) (by omega)).mono ?_
              rintro e wz ⟨Ay, cy, rfl, oy, _, bz_⟩
              obtain ⟨gy, rfl, hgy⟩ := oy.pos (by omega)
              exact ⟨_, rfl, hN.out _ _ ⟨below_step hI bz_, bz_, ⟨gy, cy, rfl, oy⟩⟩⟩
            · intro ev wt ht hc hg hf hI hd
              have e78 : ev (.tmp 78) = _ := hd 0 78 rfl rfl
              have e82 := hd 4 82 rfl rfl
              obtain ⟨gy, cy, e82, oy⟩ := e82
              refine opok_gen fun N hN => ?_
              clear hd ht
              go_simp
              refine (HEN.out _ (below_step HT.out hI) (b) (by omega) (by omega) _ _ oy).mono ?_
              rintro e wz ⟨rfl, bz_⟩
              exact ⟨_, rfl, hN.out _ _ ⟨below_step hI bz_, bz_, rfl⟩⟩
            · intro ev wt ht hc hg hf hI hd
              have e83 : ev (.tmp 83) = _ := hd 5 83 rfl rfl
              exact opok_assign _ rfl ⟨hI, Below.refl _ _, e83⟩
          case hst =>
            refine fun j v w w' _ h1 h2 => StbL.nth (S := Grw) ?_ j v w w' h1 h2
            exact ⟨stb_eqv _, stb_eqv _, stb_eqv _, stb_eqv _, stb_own, stb_eqv _, stb_eqv _, trivial⟩
          case hI => exact (Below.refl _ _).drew
          case hl =>
            rintro wt hI _ rfl _ rfl _ rfl _ rfl _ h4 _ rfl _ rfl
            simp only [Lasts, List.length_cons, List.length_nil, Nat.reduceAdd, List.drop_succ_cons, List.drop_zero, Act.put, List.setIfInBounds_toArray, List.set_cons_succ, List.set_cons_zero]
            rw [wpList_none]
            have HT := Lib.hid (below_step HT.out hI)
            have HX := Lib.hid (HX.out.step hI)
            clear hI k0 k1 lt0
            have HT5 := HT
            have HX5 := HX
            clear HT HX
            go_wp2_with fail
            go_loopw [13, 15] (fun s i wr => ∃ (j : Nat) (x : Int), j ≤ 1 ∧ s = .int .i64 x ∧ i = .int .i64 (b + 1 + j) ∧ Hid (At3 G hi b r j x) ∧ Hid (Below w.heap.size w wr) ∧ Hid (BX wr w.heap.size A n c B k d)) (fun _ i _ => (b + 3 - intOf i).toNat)
            case atStart => exact ⟨0, b, by omega, rfl, by simp, Lib.hid ⟨fun _ => rfl, fun h => absurd h (by omega)⟩, HT5, HX5⟩
            case round =>
              clear HT5 HX5
              obtain ⟨j, x, hj, rfl, rfl, hx, HT, HX⟩ := hrel
              have k0 := HX.out.c0
              have k1 := HX.out.c1
              have hj2 : j = 0 ∨ j = 1 := by omega
              rcases hj2 with rfl | rfl
              · have hxb := hx.out.1 rfl
                subst hxb
                clear hx
                obtain ⟨y, hy⟩ : ∃ y, x + 1 + ((0 : Nat) : Int) = y := ⟨_, rfl⟩
                rw [hy]
                have hy : x + 1 = y := by omega
                have HY := Lib.hid hy
                have hyl : lo ≤ y := by omega
                have hyh : y ≤ 60001 := by omega
                have hyn : -60000 ≤ y := by omega
                clear hy
                by_cases hin : y ≤ hi
                · have hG1 := HBND.out y hyl hin
                  have hdec : decide (y ≤ hi) = true := decide_eq_true hin
                  by_cases heq : G y = G x
                  · have heb : (G y == G x) = true := by simp [heq]
                    obtain ⟨p1, hp1⟩ : ∃ p1, ab y = p1 := ⟨_, rfl⟩
                    obtain ⟨p0, hp0⟩ : ∃ p0, ab x = p0 := ⟨_, rfl⟩
                    have hnear := ab_near x
                    rw [HY.out, hp1, hp0] at hnear
                    have HP1 := Lib.hid hp1
                    have HP0 := Lib.hid hp0
                    have HEQ := Lib.hid heq
                    have HN2 : Hid (p1 < p0 → y = r) := Lib.hid (fun hl => by rw [← HN.out]; unfold nearer; rw [HY.out, if_pos ⟨hin, heq, by rw [hp1, hp0]; exact hl⟩])
                    have HN3 : Hid (¬ p1 < p0 → x = r) := Lib.hid (fun hl => by rw [← HN.out]; unfold nearer; rw [HY.out, if_neg (fun h => hl (by rw [← hp1, ← hp0]; exact h.2.2))])
                    clear hp1 hp0 heq
                    have hle : p1 ≤ p0 ↔ p1 < p0 := hnear
                    clear hnear
                    go_wp2_with fail
                    have HT := Lib.hid (below_drew HT.out 1)
                    have HX := Lib.hid (HX.out.step (below_drew (Below.refl _ _) 1))
                    refine wp_region_any (by kernel_rfl) ?_
                    try (change wpAny _ _ _ _ _ _ _ (World.drew _))
                    refine wpAny_take (i := 0) (v := _) rfl (by kernel_rfl) (by kernel_rfl) (by kernel_rfl) (fun _ _ _ h => h) (Or.inl ⟨by rfl, by intro w; go_simp; try with_reducible rfl⟩) ?_
                    simp only [Act.put, List.getElem_toArray, List.getElem_cons_zero, List.setIfInBounds_toArray, List.set_cons_succ, List.set_cons_zero]
                    refine wpAny_take (i := 1) (v := _) rfl (by kernel_rfl) (by kernel_rfl) (by kernel_rfl) (fun _ _ _ h => h) (Or.inl ⟨by rfl, by intro w; go_simp; try with_reducible rfl⟩) ?_
                    simp only [Act.put, List.getElem_toArray, List.getElem_cons_zero, List.getElem_cons_succ, List.setIfInBounds_toArray, List.set_cons_succ, List.set_cons_zero]
                    refine wpAny_take (i := 2) (v := _) rfl (by kernel_rfl) (by kernel_rfl) (by kernel_rfl) (fun _ _ _ h => h) (Or.inl ⟨by rfl, by intro w; go_simp; try with_reducible rfl⟩) ?_
                    simp only [Act.put, List.getElem_toArray, List.getElem_cons_zero, List.getElem_cons_succ, List.setIfInBounds_toArray, List.set_cons_succ, List.set_cons_zero]
                    refine wpAny_take (i := 3) (v := _) rfl (by kernel_rfl) (by kernel_rfl) (by kernel_rfl) (fun _ _ _ h => h) (Or.inl ⟨by rfl, by intro w; go_simp; try with_reducible rfl⟩) ?_
                    simp only [Act.put, List.getElem_toArray, List.getElem_cons_zero, List.getElem_cons_succ, List.setIfInBounds_toArray, List.set_cons_succ, List.set_cons_zero]
                    refine wpAny_take (i := 5) (v := _) rfl (by kernel_rfl) (by kernel_rfl) (by kernel_rfl) (fun _ _ _ h => h) (Or.inl ⟨by rfl, by intro w; go_simp; try with_reducible rfl⟩) ?_
                    simp only [Act.put, List.getElem_toArray, List.getElem_cons_zero, List.getElem_cons_succ, List.setIfInBounds_toArray, List.set_cons_succ, List.set_cons_zero]
                    refine wpAny_take (i := 6) (v := _) rfl (by kernel_rfl) (by kernel_rfl) (by kernel_rfl) (fun _ _ _ h => h) (Or.inl ⟨by rfl, by intro w; go_simp; try with_reducible rfl⟩) ?_
                    simp only [Act.put, List.getElem_toArray, List.getElem_cons_zero, List.getElem_cons_succ, List.setIfInBounds_toArray, List.set_cons_succ, List.set_cons_zero]
                    refine wpAny_take (i := 7) (v := _) rfl (by kernel_rfl) (by kernel_rfl) (by kernel_rfl) (fun _ _ _ h => h) (Or.inl ⟨by rfl, by intro w; go_simp; try with_reducible rfl⟩) ?_
                    simp only [Act.put, List.getElem_toArray, List.getElem_cons_zero, List.getElem_cons_succ, List.setIfInBounds_toArray, List.set_cons_succ, List.set_cons_zero]
                    refine wpAny_take (i := 10) (v := _) rfl (by kernel_rfl) (by kernel_rfl) (by kernel_rfl) (fun _ _ _ h => h) (Or.inl ⟨by rfl, by intro w; go_simp; try with_reducible rfl⟩) ?_
                    simp only [Act.put, List.getElem_toArray, List.getElem_cons_zero, List.getElem_cons_succ, List.setIfInBounds_toArray, List.set_cons_succ, List.set_cons_zero]
                    refine wpAny_ready (rs := [4, 8]) (by kernel_rfl) (by simp) (AllReady.cons rfl (fun K hK => ?_) (AllReady.cons rfl (fun K hK => ?_) AllReady.nil))
                    all_goals
                      first
                        | (go_simp
                           refine hK _ _ ?_
                           clear hK K
                           refine wpAny_ready (rs := [8]) (by kernel_rfl) (by simp) (AllReady.cons rfl (fun K hK => ?_) AllReady.nil)
                           go_simp
                           go_wp2_with (go_at_call 80; refine (HADD.out _ HT.out (y) (by omega) (by omega)).mono ?_; rintro e wz ⟨A1, c1, rfl, oa, _, bz⟩; have OA := Lib.hid oa; have HT := Lib.hid (below_step HT.out bz); have HX := Lib.hid (HX.out.step bz); have k0 := HX.out.c0; have k1 := HX.out.c1; clear bz)
                           refine wpAny_ready (rs := [9]) (by kernel_rfl) (by simp) (AllReady.cons rfl (fun K hK => ?_) AllReady.nil)
                           go_simp
                           go_wp2_with (go_at_call 82; refine (HEN.out _ HT.out (y) (by omega) (by omega) _ _ OA.out).mono ?_; rintro e wz ⟨rfl, bz⟩; have HT := Lib.hid (below_step HT.out bz); have HX := Lib.hid (HX.out.step bz); have k0 := HX.out.c0; have k1 := HX.out.c1; clear bz)
                           refine wpAny_take (i := 11) (v := _) rfl (by kernel_rfl) (by kernel_rfl) (by kernel_rfl) (fun _ _ _ h => h) (Or.inl ⟨by rfl, by intro w; go_simp; try with_reducible rfl⟩) ?_
                           simp only [Act.put, List.getElem_toArray, List.getElem_cons_zero, List.getElem_cons_succ, List.setIfInBounds_toArray, List.set_cons_succ, List.set_cons_zero]
                           refine wpAny_take (i := 12) (v := _) rfl (by kernel_rfl) (by kernel_rfl) (by kernel_rfl) (fun _ _ _ h => h) (Or.inl ⟨by rfl, by intro w; go_simp; try with_reducible rfl⟩) ?_
                           simp only [Act.put, List.getElem_toArray, List.getElem_cons_zero, List.getElem_cons_succ, List.setIfInBounds_toArray, List.set_cons_succ, List.set_cons_zero]
                           refine wpAny_done (by kernel_rfl) ?_ _)
                        | (go_simp
                           go_wp2_with (go_at_call 80; refine (HADD.out _ HT.out (y) (by omega) (by omega)).mono ?_; rintro e wz ⟨A1, c1, rfl, oa, _, bz⟩; have OA := Lib.hid oa; have HT := Lib.hid (below_step HT.out bz); have HX := Lib.hid (HX.out.step bz); have k0 := HX.out.c0; have k1 := HX.out.c1; clear bz)
                           refine wpAny_ready (rs := [4]) (by kernel_rfl) (by simp) (AllReady.cons rfl (fun K hK => ?_) AllReady.nil)
                           go_simp
                           refine hK _ _ ?_
                           clear hK K
                           refine wpAny_ready (rs := [9]) (by kernel_rfl) (by simp) (AllReady.cons rfl (fun K hK => ?_) AllReady.nil)
                           go_simp
                           go_wp2_with (go_at_call 82; refine (HEN.out _ HT.out (y) (by omega) (by omega) _ _ OA.out).mono ?_; rintro e wz ⟨rfl, bz⟩; have HT := Lib.hid (below_step HT.out bz); have HX := Lib.hid (HX.out.step bz); have k0 := HX.out.c0; have k1 := HX.out.c1; clear bz)
                           refine wpAny_take (i := 11) (v := _) rfl (by kernel_rfl) (by kernel_rfl) (by kernel_rfl) (fun _ _ _ h => h) (Or.inl ⟨by rfl, by intro w; go_simp; try with_reducible rfl⟩) ?_
                           simp only [Act.put, List.getElem_toArray, List.getElem_cons_zero, List.getElem_cons_succ, List.setIfInBounds_toArray, List.set_cons_succ, List.set_cons_zero]
                           refine wpAny_take (i := 12) (v := _) rfl (by kernel_rfl) (by kernel_rfl) (by kernel_rfl) (fun _ _ _ h => h) (Or.inl ⟨by rfl, by intro w; go_simp; try with_reducible rfl⟩) ?_
                           simp only [Act.put, List.getElem_toArray, List.getElem_cons_zero, List.getElem_cons_succ, List.setIfInBounds_toArray, List.set_cons_succ, List.set_cons_zero]
                           refine wpAny_done (by kernel_rfl) ?_ _)
                    all_goals
                      go_wp2_with fail
                      refine (l01Abs_is _ p1 _ ⟨by omega, by omega⟩ HP1.out).mono ?_
                      rintro e w7 ⟨rfl, rfl⟩
                      go_wp2_with fail
                      refine (l01Abs_is _ p0 _ ⟨by omega, by omega⟩ HP0.out).mono ?_
                      rintro e w7 ⟨rfl, rfl⟩
                      by_cases hl : p1 < p0
                      · have hl2 : p1 ≤ p0 := by omega
                        have hx2 : Hid (At3 G hi x r 1 y) := Lib.hid ⟨fun h => absurd h (by omega), fun _ => ⟨HN2.out (by omega), by rw [HY.out]; exact HEQ.out, by rw [HY.out]; exact hin⟩⟩
                        clear hle HN2 HN3
                        go_wp2_with fail
                        go_roundw
                        case rel => exact ⟨1, y, by omega, rfl, congrArg (Value.int .i64) (by have := HY.out; omega), hx2, HT, HX⟩
                        case measure => have := HY.out; simp [intOf]; omega
                      · have hl2 : ¬ p1 ≤ p0 := fun h => hl (hle.1 h)
                        have hx2 : Hid (At3 G hi x r 1 x) := Lib.hid ⟨fun h => absurd h (by omega), fun _ => ⟨HN3.out (by omega), by rw [HY.out]; exact HEQ.out, by rw [HY.out]; exact hin⟩⟩
                        clear hle HN2 HN3
                        go_wp2_with fail
                        go_roundw
                        case rel => exact ⟨1, x, by omega, rfl, congrArg (Value.int .i64) (by have := HY.out; omega), hx2, HT, HX⟩
                        case measure => have := HY.out; simp [intOf]; omega
                  · have heb : (G y == G x) = false := by simp [heq]
                    have HXR : Hid (x = r) := Lib.hid (by rw [← HN.out]; unfold nearer; rw [HY.out, if_neg (fun h => heq h.2.1)])
                    clear heq
                    go_wp2_with fail
                    have HT := Lib.hid (below_drew HT.out 1)
                    have HX := Lib.hid (HX.out.step (below_drew (Below.refl _ _) 1))
                    refine wp_region_any (by kernel_rfl) ?_
                    try (change wpAny _ _ _ _ _ _ _ (World.drew _))
                    refine wpAny_take (i := 0) (v := _) rfl (by kernel_rfl) (by kernel_rfl) (by kernel_rfl) (fun _ _ _ h => h) (Or.inl ⟨by rfl, by intro w; go_simp; try with_reducible rfl⟩) ?_
                    simp only [Act.put, List.getElem_toArray, List.getElem_cons_zero, List.setIfInBounds_toArray, List.set_cons_succ, List.set_cons_zero]
                    refine wpAny_take (i := 1) (v := _) rfl (by kernel_rfl) (by kernel_rfl) (by kernel_rfl) (fun _ _ _ h => h) (Or.inl ⟨by rfl, by intro w; go_simp; try with_reducible rfl⟩) ?_
                    simp only [Act.put, List.getElem_toArray, List.getElem_cons_zero, List.getElem_cons_succ, List.setIfInBounds_toArray, List.set_cons_succ, List.set_cons_zero]
                    refine wpAny_take (i := 2) (v := _) rfl (by kernel_rfl) (by kernel_rfl) (by kernel_rfl) (fun _ _ _ h => h) (Or.inl ⟨by rfl, by intro w; go_simp; try with_reducible rfl⟩) ?_
                    simp only [Act.put, List.getElem_toArray, List.getElem_cons_zero, List.getElem_cons_succ, List.setIfInBounds_toArray, List.set_cons_succ, List.set_cons_zero]
                    refine wpAny_take (i := 3) (v := _) rfl (by kernel_rfl) (by kernel_rfl) (by kernel_rfl) (fun _ _ _ h => h) (Or.inl ⟨by rfl, by intro w; go_simp; try with_reducible rfl⟩) ?_
                    simp only [Act.put, List.getElem_toArray, List.getElem_cons_zero, List.getElem_cons_succ, List.setIfInBounds_toArray, List.set_cons_succ, List.set_cons_zero]
                    refine wpAny_take (i := 5) (v := _) rfl (by kernel_rfl) (by kernel_rfl) (by kernel_rfl) (fun _ _ _ h => h) (Or.inl ⟨by rfl, by intro w; go_simp; try with_reducible rfl⟩) ?_
                    simp only [Act.put, List.getElem_toArray, List.getElem_cons_zero, List.getElem_cons_succ, List.setIfInBounds_toArray, List.set_cons_succ, List.set_cons_zero]
                    refine wpAny_take (i := 6) (v := _) rfl (by kernel_rfl) (by kernel_rfl) (by kernel_rfl) (fun _ _ _ h => h) (Or.inl ⟨by rfl, by intro w; go_simp; try with_reducible rfl⟩) ?_
                    simp only [Act.put, List.getElem_toArray, List.getElem_cons_zero, List.getElem_cons_succ, List.setIfInBounds_toArray, List.set_cons_succ, List.set_cons_zero]
                    refine wpAny_take (i := 7) (v := _) rfl (by kernel_rfl) (by kernel_rfl) (by kernel_rfl) (fun _ _ _ h => h) (Or.inl ⟨by rfl, by intro w; go_simp; try with_reducible rfl⟩) ?_
                    simp only [Act.put, List.getElem_toArray, List.getElem_cons_zero, List.getElem_cons_succ, List.setIfInBounds_toArray, List.set_cons_succ, List.set_cons_zero]
                    refine wpAny_take (i := 10) (v := _) rfl (by kernel_rfl) (by kernel_rfl) (by kernel_rfl) (fun _ _ _ h => h) (Or.inl ⟨by rfl, by intro w; go_simp; try with_reducible rfl⟩) ?_
                    simp only [Act.put, List.getElem_toArray, List.getElem_cons_zero, List.getElem_cons_succ, List.setIfInBounds_toArray, List.set_cons_succ, List.set_cons_zero]
                    refine wpAny_ready (rs := [4, 8]) (by kernel_rfl) (by simp) (AllReady.cons rfl (fun K hK => ?_) (AllReady.cons rfl (fun K hK => ?_) AllReady.nil))
                    all_goals
                      first
                        | (go_simp
                           refine hK _ _ ?_
                           clear hK K
                           refine wpAny_ready (rs := [8]) (by kernel_rfl) (by simp) (AllReady.cons rfl (fun K hK => ?_) AllReady.nil)
                           go_simp
                           go_wp2_with (go_at_call 80; refine (HADD.out _ HT.out (y) (by omega) (by omega)).mono ?_; rintro e wz ⟨A1, c1, rfl, oa, _, bz⟩; have OA := Lib.hid oa; have HT := Lib.hid (below_step HT.out bz); have HX := Lib.hid (HX.out.step bz); have k0 := HX.out.c0; have k1 := HX.out.c1; clear bz)
                           refine wpAny_ready (rs := [9]) (by kernel_rfl) (by simp) (AllReady.cons rfl (fun K hK => ?_) AllReady.nil)
                           go_simp
                           go_wp2_with (go_at_call 82; refine (HEN.out _ HT.out (y) (by omega) (by omega) _ _ OA.out).mono ?_; rintro e wz ⟨rfl, bz⟩; have HT := Lib.hid (below_step HT.out bz); have HX := Lib.hid (HX.out.step bz); have k0 := HX.out.c0; have k1 := HX.out.c1; clear bz)
                           refine wpAny_take (i := 11) (v := _) rfl (by kernel_rfl) (by kernel_rfl) (by kernel_rfl) (fun _ _ _ h => h) (Or.inl ⟨by rfl, by intro w; go_simp; try with_reducible rfl⟩) ?_
                           simp only [Act.put, List.getElem_toArray, List.getElem_cons_zero, List.getElem_cons_succ, List.setIfInBounds_toArray, List.set_cons_succ, List.set_cons_zero]
                           refine wpAny_take (i := 12) (v := _) rfl (by kernel_rfl) (by kernel_rfl) (by kernel_rfl) (fun _ _ _ h => h) (Or.inl ⟨by rfl, by intro w; go_simp; try with_reducible rfl⟩) ?_
                           simp only [Act.put, List.getElem_toArray, List.getElem_cons_zero, List.getElem_cons_succ, List.setIfInBounds_toArray, List.set_cons_succ, List.set_cons_zero]
                           refine wpAny_done (by kernel_rfl) ?_ _)
                        | (go_simp
                           go_wp2_with (go_at_call 80; refine (HADD.out _ HT.out (y) (by omega) (by omega)).mono ?_; rintro e wz ⟨A1, c1, rfl, oa, _, bz⟩; have OA := Lib.hid oa; have HT := Lib.hid (below_step HT.out bz); have HX := Lib.hid (HX.out.step bz); have k0 := HX.out.c0; have k1 := HX.out.c1; clear bz)
                           refine wpAny_ready (rs := [4]) (by kernel_rfl) (by simp) (AllReady.cons rfl (fun K hK => ?_) AllReady.nil)
                           go_simp
                           refine hK _ _ ?_
                           clear hK K
                           refine wpAny_ready (rs := [9]) (by kernel_rfl) (by simp) (AllReady.cons rfl (fun K hK => ?_) AllReady.nil)
                           go_simp
                           go_wp2_with (go_at_call 82; refine (HEN.out _ HT.out (y) (by omega) (by omega) _ _ OA.out).mono ?_; rintro e wz ⟨rfl, bz⟩; have HT := Lib.hid (below_step HT.out bz); have HX := Lib.hid (HX.out.step bz); have k0 := HX.out.c0; have k1 := HX.out.c1; clear bz)
                           refine wpAny_take (i := 11) (v := _) rfl (by kernel_rfl) (by kernel_rfl) (by kernel_rfl) (fun _ _ _ h => h) (Or.inl ⟨by rfl, by intro w; go_simp; try with_reducible rfl⟩) ?_
                           simp only [Act.put, List.getElem_toArray, List.getElem_cons_zero, List.getElem_cons_succ, List.setIfInBounds_toArray, List.set_cons_succ, List.set_cons_zero]
                           refine wpAny_take (i := 12) (v := _) rfl (by kernel_rfl) (by kernel_rfl) (by kernel_rfl) (fun _ _ _ h => h) (Or.inl ⟨by rfl, by intro w; go_simp; try with_reducible rfl⟩) ?_
                           simp only [Act.put, List.getElem_toArray, List.getElem_cons_zero, List.getElem_cons_succ, List.setIfInBounds_toArray, List.set_cons_succ, List.set_cons_zero]
                           refine wpAny_done (by kernel_rfl) ?_ _)
                    all_goals
                      go_wp2_with fail
                      go_ret
                      exact ⟨ret_int HXR.out, HT.out⟩
                · have HXR : Hid (x = r) := Lib.hid (by rw [← HN.out]; unfold nearer; rw [HY.out, if_neg (fun h => hin h.1)])
                  have hdec : decide (y ≤ hi) = false := decide_eq_false hin
                  go_wp2_with fail
                  go_quiet (fail)
                  go_wp2_with fail
                  go_ret
                  first | exact ⟨ret_int HXR.out, below_drew HT.out _⟩ | exact ⟨ret_int HXR.out, HT.out⟩
              · obtain ⟨hxr, hxe, hxh⟩ := hx.out.2 rfl
                obtain ⟨y, hy⟩ : ∃ y, b + 1 + ((1 : Nat) : Int) = y := ⟨_, rfl⟩
                rw [hy]
                have hy : b + 2 = y := by omega
                have hyl : lo ≤ y := by omega
                have hyh : y ≤ 60002 := by omega
                have hyn : -60000 ≤ y := by omega
                have HXR := Lib.hid hxr
                have hcv := HCV.out (b + 1)
                have hcv2 : G y ≠ G b := by
                  rw [show b + 1 + 1 = y by omega, show b + 1 - 1 = b by omega] at hcv
                  omega
                clear hy hx hxr hxe hcv hxh
                by_cases hin : y ≤ hi
                · have hG1 := HBND.out y hyl hin
                  have hdec : decide (y ≤ hi) = true := decide_eq_true hin
                  have heb : (G y == G b) = false := by simp [hcv2]
                  clear hcv2
                  go_wp2_with fail
                  have HT := Lib.hid (below_drew HT.out 1)
                  have HX := Lib.hid (HX.out.step (below_drew (Below.refl _ _) 1))
                  refine wp_region_any (by kernel_rfl) ?_
                  try (change wpAny _ _ _ _ _ _ _ (World.drew _))
                  refine wpAny_take (i := 0) (v := _) rfl (by kernel_rfl) (by kernel_rfl) (by kernel_rfl) (fun _ _ _ h => h) (Or.inl ⟨by rfl, by intro w; go_simp; try with_reducible rfl⟩) ?_
                  simp only [Act.put, List.getElem_toArray, List.getElem_cons_zero, List.setIfInBounds_toArray, List.set_cons_succ, List.set_cons_zero]
                  refine wpAny_take (i := 1) (v := _) rfl (by kernel_rfl) (by kernel_rfl) (by kernel_rfl) (fun _ _ _ h => h) (Or.inl ⟨by rfl, by intro w; go_simp; try with_reducible rfl⟩) ?_
                  simp only [Act.put, List.getElem_toArray, List.getElem_cons_zero, List.getElem_cons_succ, List.setIfInBounds_toArray, List.set_cons_succ, List.set_cons_zero]
                  refine wpAny_take (i := 2) (v := _) rfl (by kernel_rfl) (by kernel_rfl) (by kernel_rfl) (fun _ _ _ h => h) (Or.inl ⟨by rfl, by intro w; go_simp; try with_reducible rfl⟩) ?_
                  simp only [Act.put, List.getElem_toArray, List.getElem_cons_zero, List.getElem_cons_succ, List.setIfInBounds_toArray, List.set_cons_succ, List.set_cons_zero]
                  refine wpAny_take (i := 3) (v := _) rfl (by kernel_rfl) (by kernel_rfl) (by kernel_rfl) (fun _ _ _ h => h) (Or.inl ⟨by rfl, by intro w; go_simp; try with_reducible rfl⟩) ?_
                  simp only [Act.put, List.getElem_toArray, List.getElem_cons_zero, List.getElem_cons_succ, List.setIfInBounds_toArray, List.set_cons_succ, List.set_cons_zero]
                  refine wpAny_take (i := 5) (v := _) rfl (by kernel_rfl) (by kernel_rfl) (by kernel_rfl) (fun _ _ _ h => h) (Or.inl ⟨by rfl, by intro w; go_simp; try with_reducible rfl⟩) ?_
                  simp only [Act.put, List.getElem_toArray, List.getElem_cons_zero, List.getElem_cons_succ, List.setIfInBounds_toArray, List.set_cons_succ, List.set_cons_zero]
                  refine wpAny_take (i := 6) (v := _) rfl (by kernel_rfl) (by kernel_rfl) (by kernel_rfl) (fun _ _ _ h => h) (Or.inl ⟨by rfl, by intro w; go_simp; try with_reducible rfl⟩) ?_
                  simp only [Act.put, List.getElem_toArray, List.getElem_cons_zero, List.getElem_cons_succ, List.setIfInBounds_toArray, List.set_cons_succ, List.set_cons_zero]
                  refine wpAny_take (i := 7) (v := _) rfl (by kernel_rfl) (by kernel_rfl) (by kernel_rfl) (fun _ _ _ h => h) (Or.inl ⟨by rfl, by intro w; go_simp; try with_reducible rfl⟩) ?_
                  simp only [Act.put, List.getElem_toArray, List.getElem_cons_zero, List.getElem_cons_succ, List.setIfInBounds_toArray, List.set_cons_succ, List.set_cons_zero]
                  refine wpAny_take (i := 10) (v := _) rfl (by kernel_rfl) (by kernel_rfl) (by kernel_rfl) (fun _ _ _ h => h) (Or.inl ⟨by rfl, by intro w; go_simp; try with_reducible rfl⟩) ?_
                  simp only [Act.put, List.getElem_toArray, List.getElem_cons_zero, List.getElem_cons_succ, List.setIfInBounds_toArray, List.set_cons_succ, List.set_cons_zero]
                  refine wpAny_ready (rs := [4, 8]) (by kernel_rfl) (by simp) (AllReady.cons rfl (fun K hK => ?_) (AllReady.cons rfl (fun K hK => ?_) AllReady.nil))
                  all_goals
                    first
                      | (go_simp
                         refine hK _ _ ?_
                         clear hK K
                         refine wpAny_ready (rs := [8]) (by kernel_rfl) (by simp) (AllReady.cons rfl (fun K hK => ?_) AllReady.nil)
                         go_simp
                         go_wp2_with (go_at_call 80; refine (HADD.out _ HT.out (y) (by omega) (by omega)).mono ?_; rintro e wz ⟨A1, c1, rfl, oa, _, bz⟩; have OA := Lib.hid oa; have HT := Lib.hid (below_step HT.out bz); have HX := Lib.hid (HX.out.step bz); have k0 := HX.out.c0; have k1 := HX.out.c1; clear bz)
                         refine wpAny_ready (rs := [9]) (by kernel_rfl) (by simp) (AllReady.cons rfl (fun K hK => ?_) AllReady.nil)
                         go_simp
                         go_wp2_with (go_at_call 82; refine (HEN.out _ HT.out (y) (by omega) (by omega) _ _ OA.out).mono ?_; rintro e wz ⟨rfl, bz⟩; have HT := Lib.hid (below_step HT.out bz); have HX := Lib.hid (HX.out.step bz); have k0 := HX.out.c0; have k1 := HX.out.c1; clear bz)
                         refine wpAny_take (i := 11) (v := _) rfl (by kernel_rfl) (by kernel_rfl) (by kernel_rfl) (fun _ _ _ h => h) (Or.inl ⟨by rfl, by intro w; go_simp; try with_reducible rfl⟩) ?_
                         simp only [Act.put, List.getElem_toArray, List.getElem_cons_zero, List.getElem_cons_succ, List.setIfInBounds_toArray, List.set_cons_succ, List.set_cons_zero]
                         refine wpAny_take (i := 12) (v := _) rfl (by kernel_rfl) (by kernel_rfl) (by kernel_rfl) (fun _ _ _ h => h) (Or.inl ⟨by rfl, by intro w; go_simp; try with_reducible rfl⟩) ?_
                         simp only [Act.put, List.getElem_toArray, List.getElem_cons_zero, List.getElem_cons_succ, List.setIfInBounds_toArray, List.set_cons_succ, List.set_cons_zero]
                         refine wpAny_done (by kernel_rfl) ?_ _)
                      | (go_simp
                         go_wp2_with (go_at_call 80; refine (HADD.out _ HT.out (y) (by omega) (by omega)).mono ?_; rintro e wz ⟨A1, c1, rfl, oa, _, bz⟩; have OA := Lib.hid oa; have HT := Lib.hid (below_step HT.out bz); have HX := Lib.hid (HX.out.step bz); have k0 := HX.out.c0; have k1 := HX.out.c1; clear bz)
                         refine wpAny_ready (rs := [4]) (by kernel_rfl) (by simp) (AllReady.cons rfl (fun K hK => ?_) AllReady.nil)
                         go_simp
                         refine hK _ _ ?_
                         clear hK K
                         refine wpAny_ready (rs := [9]) (by kernel_rfl) (by simp) (AllReady.cons rfl (fun K hK => ?_) AllReady.nil)
                         go_simp
                         go_wp2_with (go_at_call 82; refine (HEN.out _ HT.out (y) (by omega) (by omega) _ _ OA.out).mono ?_; rintro e wz ⟨rfl, bz⟩; have HT := Lib.hid (below_step HT.out bz); have HX := Lib.hid (HX.out.step bz); have k0 := HX.out.c0; have k1 := HX.out.c1; clear bz)
                         refine wpAny_take (i := 11) (v := _) rfl (by kernel_rfl) (by kernel_rfl) (by kernel_rfl) (fun _ _ _ h => h) (Or.inl ⟨by rfl, by intro w; go_simp; try with_reducible rfl⟩) ?_
                         simp only [Act.put, List.getElem_toArray, List.getElem_cons_zero, List.getElem_cons_succ, List.setIfInBounds_toArray, List.set_cons_succ, List.set_cons_zero]
                         refine wpAny_take (i := 12) (v := _) rfl (by kernel_rfl) (by kernel_rfl) (by kernel_rfl) (fun _ _ _ h => h) (Or.inl ⟨by rfl, by intro w; go_simp; try with_reducible rfl⟩) ?_
                         simp only [Act.put, List.getElem_toArray, List.getElem_cons_zero, List.getElem_cons_succ, List.setIfInBounds_toArray, List.set_cons_succ, List.set_cons_zero]
                         refine wpAny_done (by kernel_rfl) ?_ _)
                  all_goals
                    go_wp2_with fail
                    go_ret
                    exact ⟨ret_int HXR.out, HT.out⟩
                · clear hcv2
                  have hdec : decide (y ≤ hi) = false := decide_eq_false hin
                  go_wp2_with fail
                  go_quiet (fail)
                  go_wp2_with fail
                  go_ret
                  first | exact ⟨ret_int HXR.out, below_drew HT.out _⟩ | exact ⟨ret_int HXR.out, HT.out⟩

set_option maxRecDepth 100000 in
set_option maxHeartbeats 8000000 in
theorem specRelaxChord_any (A : Option Addr) (n c : Nat) (B : Option Addr) (m d : Nat) (net : Net) (C : Option Addr) (l e : Nat) (zs : List Int) (x : Int) (w : World) (h : NetAt w A n c B m d net) (hz : Ints w C l e zs) (_hx : I64 x) :
    Calls Try.prog 42 #[.agg #[.slice A n c, .slice B m d], .slice C l e, .int .i64 x] w fun e w' => RetLI w (rRelaxChord net zs x) e w' := by
  have HB := Lib.hid (bel1 w (.cells #[.slice A n c, .slice B m d] 27))
  have bxW : BX (w.alloc (.cells #[.slice A n c, .slice B m d] 27)) w.heap.size A n c B m d := ⟨heap_alloc_new w _⟩
  by_cases h0 : codeC net zs x = 0
  · obtain ⟨hv, hf, q, rfl, hq, hqm⟩ := codeC_zero h0
    have ok := NetOK.of hv
    have hlm : m = l := by have := flowB_len hf; have := h.pipes.len; have := hz.len; omega
    subst hlm
    have hm40 : m ≤ 40 := by have := ok.m40; have := h.pipes.len; omega
    obtain ⟨cs, hcs⟩ : ∃ cs, cycL net q = cs := ⟨_, rfl⟩
    obtain ⟨r, hr⟩ : ∃ r, bestL net zs cs = r := ⟨_, rfl⟩
    have hcy : Cyc net cs := by rw [← hcs]; exact cycL_cyc ok hq
    have hself : ig cs q ≠ 0 := by rw [← hcs, cycL_self ok hq]; decide
    have hrb := bestL_rng hf hcy
    rw [hr] at hrb
    obtain ⟨_, _, hr0, hr1⟩ := hrb
    have HR : Hid (rRelaxChord net zs q = (addL zs cs r, 0)) := Lib.hid (by unfold rRelaxChord; rw [if_pos h0, ← hr, ← hcs]; rfl)
    have HCS := Lib.hid hcs
    have HBE := Lib.hid hr
    clear hr hcs
    go_enter Try.func42, Try.ntmps42
    go_wp2_with fail
    refine (l10Code_is _ _ _ _ _ _ net _ _ _ zs _ _ _ (h.later HB.out) (hz.later HB.out) h0).mono ?_
    rintro e w1 ⟨rfl, b1⟩
    have t1 := below_step HB.out b1
    have bx1 := bxW.step b1
    have k0 := bx1.c0
    have k1 := bx1.c1
    clear bxW b1
    go_wp2_with fail
    refine (l05Cycle_any _ _ _ _ _ _ net q _ (h.later t1) ok hq).mono ?_
    rintro e w2 ⟨Ay, rfl, oy, fy, b2⟩
    rw [HCS.out] at oy
    have t2 := below_step t1 b2
    have bx2 := bx1.step b2
    clear k0 k1 bx1 b2
    have k0 := bx2.c0
    have k1 := bx2.c1
    go_wp2_with fail
    refine (l11Best_any _ _ _ _ _ _ net _ _ _ zs _ _ _ cs q r _ (h.later t2) (hz.later t2) oy.ints hv hf hcy hqm hself HBE.out).mono ?_
    rintro e w3 ⟨rfl, b3⟩
    have t3 := below_step t2 b3
    have oy3 := oy.later b3
    go_wp2_with fail
    refine (l05Add_any _ _ _ _ _ _ _ _ _ _ (hz.later t3) oy3.ints (Nat.le_refl _) (by omega) (fun j => by have := flowB_all hf j; omega) (fun j => by have := hcy.bnd j; omega) ⟨by omega, by omega⟩).mono ?_
    rintro e w4 ⟨Ao, co, rfl, ow, fo, b4⟩
    have t4 := below_step t3 b4
    have f4 : Fresh w.heap.size Ao := fresh_up fo t3.size
    clear k0 k1 fo b4 b3
    go_wp2_with fail
    go_ret2
    exact retLI_own rfl HR.out ow f4 t4
  · obtain ⟨K, hK⟩ : ∃ K, codeC net zs x = K := ⟨_, rfl⟩
    rw [hK] at h0
    have hne : (K != 0) = true := by simp [h0]
    have HR : Hid (rRelaxChord net zs x = ([], K)) := Lib.hid (by unfold rRelaxChord; rw [hK, if_neg h0])
    clear h0
    go_enter Try.func42, Try.ntmps42
    go_wp2_with fail
    refine (l10Code_is _ _ _ _ _ _ net _ _ _ zs _ _ _ (h.later HB.out) (hz.later HB.out) hK).mono ?_
    rintro e w1 ⟨rfl, b1⟩
    have t1 := below_step HB.out b1
    clear hK
    go_wp2_with fail
    go_ret2
    exact retLI_nil rfl HR.out t1

end Go.Proofs.Ytllblmndoigdlaa
