/- even supplies -/
import Derived.Test.YtioiebjgjimeiaaH6
namespace Go.Proofs.Ytioiebjgjimeiaa
open Go.RowKit

def Gr.sumsK (g : Gr) (sup : Nat → Int) (k c : Nat) : Int := sumTo (fun v => if g.root v = c then sup v else 0) k
theorem Gr.sumsK_succ {g : Gr} {sup : Nat → Int} {n k : Nat} : (mapTo n (g.sumsK sup k)).set (g.root k) (g.sumsK sup k (g.root k) + sup k) = mapTo n (g.sumsK sup (k + 1)) := mapTo_set fun v _ => by
  show sumTo _ k + (if g.root k = v then sup k else 0) = _
  by_cases e : g.root k = v
  · subst e; rw [if_pos rfl, if_pos rfl]; rfl
  · rw [if_neg e, if_neg e, Int.add_zero]; rfl
def evB (net : Net) (zs : List Int) : Bool := allB (mapTo net.nodes.length ((netG net).sums (ig zs))) 0 0
theorem evB_iff {net : Net} {zs : List Int} : evB net zs = true ↔ (netG net).even (ig zs) := by
  unfold evB allB Gr.even
  rw [List.all_eq_true]
  constructor
  · intro h c hc
    have := h ((netG net).sums (ig zs) c) (List.mem_map.2 ⟨c, List.mem_range.2 hc, rfl⟩)
    unfold inB at this
    simp at this
    omega
  · intro h z hz
    obtain ⟨c, hc, rfl⟩ := List.mem_map.1 hz
    rw [h c (List.mem_range.1 hc)]
    rfl
theorem sumsK_bnd {net : Net} {zs : List Int} (h : supB net zs = true) (c : Nat) (k : Nat) (hk : k ≤ 24) : -720000 ≤ (netG net).sumsK (ig zs) k c ∧ (netG net).sumsK (ig zs) k c ≤ 720000 := by
  have := sumTo_le (f := fun v => if (netG net).root v = c then ig zs v else 0) (k := k) (N := 24) (M := 30000) (by omega) (by omega) fun j hj => by
    have h1 := supB_all h j
    by_cases e : (netG net).root j = c
    · simp only [if_pos e]; exact h1
    · simp only [if_neg e]; omega
  exact this

set_option maxHeartbeats 1000000 in
theorem l05Zero_any (A : Option Addr) (n c : Nat) (zs : List Int) (w : World) (h : Ints w A n c zs) :
    Calls Try.prog 151 #[.slice A n c] w fun e w' => e = .returned (.bool (allB zs 0 0)) ∧ w = w' := by
  have hlen := Lib.hid h.len
  have hle := h.le
  have hcap := h.cap
  go_enter Try.func151, Try.ntmps151
  go_wp2_with fail
  go_loop [3] (fun i => ∃ k : Nat, k ≤ n ∧ i = .int .i64 k ∧ Hid (∀ j, j < k → inB (ig zs j) 0 0 = true)) (fun i => n - (intOf i).toNat)
  case atStart => exact ⟨0, by omega, rfl, Lib.hid (fun j hj => absurd hj (by omega))⟩
  case round =>
    obtain ⟨k, hk, rfl, hall⟩ := hrel
    by_cases hlt : k < n
    · obtain ⟨b, off, rfl, hb, hc⟩ := h.cells (by omega)
      have hck := hc k hlt
      clear hc
      by_cases e : ig zs k = 0
      · have g : (ig zs k != 0) = false := by simp [e]
        have H2 : Hid (∀ j, j < k + 1 → inB (ig zs j) 0 0 = true) := Lib.hid (fun j hj => by
          by_cases h' : j = k
          · subst h'; rw [e]; rfl
          · exact hall.out j (by omega))
        clear e
        generalize ig zs k = x at *
        go_wp2_with fail
        go_round
        case rel => exact ⟨k + 1, by omega, by go_num, H2⟩
        case measure => simp [intOf]; omega
      · have g : (ig zs k != 0) = true := by simp [e]
        have H2 : Hid (allB zs 0 0 = false) := Lib.hid (allB_no (k := k) (by rw [hlen.out]; exact hlt) (by unfold inB; simp; omega))
        clear e
        generalize ig zs k = x at *
        go_wp2_with fail
        go_ret
        exact ⟨ret_bool H2.out.symm, rfl⟩
    · have hkn : n = k := by omega
      subst hkn
      have H2 : Hid (allB zs 0 0 = true) := Lib.hid (allB_yes (k := n) (by rw [hlen.out]; omega) hall.out)
      go_wp2_with fail
      go_ret
      exact ⟨ret_bool H2.out.symm, rfl⟩

set_option maxRecDepth 100000 in
set_option maxHeartbeats 4000000 in
theorem isEven_is (A : Option Addr) (n c : Nat) (B : Option Addr) (m d : Nat) (net : Net) (C : Option Addr) (l e : Nat) (zs : List Int) (b : Bool) (w : World) (h : NetAt w A n c B m d net) (hz : Ints w C l e zs) (ok : NetOK net) (hs : supB net zs = true) (hb : evB net zs = b) :
    Calls Try.prog 87 #[.agg #[.slice A n c, .slice B m d], .slice C l e] w fun e w' => e = .returned (.bool b) ∧ Below w.heap.size w w' := by
  have hn24 : n ≤ 24 := by have := ok.n24; have := h.nodes.len; omega
  have HNn : Hid ((netG net).n = n) := Lib.hid h.nodes.len
  have hl : n = l := by have := supB_len hs; have := h.nodes.len; have := hz.len; omega
  subst hl
  have HS := Lib.hid hs
  have HE : Hid (allB (mapTo n ((netG net).sumsK (ig zs) n)) 0 0 = b) := Lib.hid (by rw [← hb]; unfold evB Gr.sums Gr.sumsK; rw [HNn.out, h.nodes.len])
  have HB := Lib.hid (bel1 w (.cells #[.slice A n c, .slice B m d] 27))
  have bx0 : BX (w.alloc (.cells #[.slice A n c, .slice B m d] 27)) w.heap.size A n c B m d := ⟨heap_alloc_new w _⟩
  obtain ⟨W, hW⟩ : ∃ W, W = w.alloc (.cells #[.slice A n c, .slice B m d] 27) := ⟨_, rfl⟩
  have hWs : W.heap.size = w.heap.size + 1 := by rw [hW]; simp
  clear hs hb
  go_enter Try.func87, Try.ntmps87
  go_wp2_with (at_make; refine law_make _ rfl _ _ rfl n _ _ rfl rfl rfl rfl (by omega) ?_; intro w1 o1 b1 z1; have kx := bx0.step b1; have k0 := kx.c0; have k1 := kx.c1)
  rw [World.size_alloc] at o1
  rw [← hW] at b1 HB
  have t1 := below_step HB.out b1
  refine (componentsOf_any _ _ _ _ _ _ net _ (h.later t1) ok).mono ?_
  rintro e w2 ⟨Ac, rfl, o2, f2, b2⟩
  have t2 := below_step t1 b2
  have o12 := o1.later b2
  have hac : ∀ a, Ac = some a → a.block ≠ w.heap.size + 1 := fun a ha => by
    have h1 := f2 a ha
    have h2 := o1.lt _ rfl
    simp only at h2
    omega
  rw [show List.replicate n (0 : Int) = mapTo n ((netG net).sumsK (ig zs) 0) from (mapTo_const n 0).symm] at o12
  clear k0 k1 kx hW z1 o1
  go_wp2_with fail
  go_loopw [15] (fun i wr => ∃ k : Nat, k ≤ n ∧ i = .int .i64 k ∧ Own wr (some ⟨w.heap.size + 1, 0, none⟩) n n (mapTo n ((netG net).sumsK (ig zs) k)) ∧ Own wr Ac n n (mapTo n (netG net).comp) ∧ Below w.heap.size w wr) (fun i _ => n - (intOf i).toNat)
  case atStart => exact ⟨0, by omega, rfl, o12, o2, t2⟩
  case round =>
    obtain ⟨k, hk, rfl, os, oc, hb⟩ := hrel
    clear o12 o2
    by_cases hlt : k < n
    · obtain ⟨ga, rfl, hga⟩ := oc.pos (by omega)
      have c1 := oc.cell hlt
      rw [mapTo_ig hlt, Gr.comp_root ok.g (by rw [HNn.out]; exact hlt)] at c1
      have hrn : (netG net).root k < n := by have := (Gr.root_facts ok.g (v := k) (by rw [HNn.out]; exact hlt)).1; rw [HNn.out] at this; exact this
      have c2 := os.cell hrn
      rw [mapTo_ig hrn] at c2
      have u2 := os.unfrozen ((netG net).root k)
      obtain ⟨bb, off, rfl, hbl, hc⟩ := (hz.later hb).cells (by omega)
      have hck := hc k hlt
      have hbs := hb.size
      have hbbne : bb ≠ w.heap.size + 1 := by
        obtain ⟨bb', off', hbb, hlt', _⟩ := hz.cells (by omega)
        injection hbb with hbb
        injection hbb with hbb1 _
        omega
      have hgane := hac _ rfl
      have hbn := sumsK_bnd HS.out ((netG net).root k) k (by omega)
      have hzk := supB_all HS.out k
      have os' := os.store ((netG net).root k) (z := (netG net).sumsK (ig zs) k ((netG net).root k) + ig zs k) ⟨by omega, by omega⟩
      rw [Gr.sumsK_succ] at os'
      have oc' := oc.far (p := ⟨w.heap.size + 1, (netG net).root k, none⟩) hac (.int .i64 ((netG net).sumsK (ig zs) k ((netG net).root k) + ig zs k))
      have hb' := hb.setCell (p := ⟨w.heap.size + 1, (netG net).root k, none⟩) (by show w.heap.size ≤ w.heap.size + 1; omega) (.int .i64 ((netG net).sumsK (ig zs) k ((netG net).root k) + ig zs k))
      have OS := Lib.hid os'
      have OC := Lib.hid oc'
      have HB' := Lib.hid hb'
      clear os' oc' hb' hc oc os
      generalize (netG net).root k = R at *
      generalize (netG net).sumsK (ig zs) k R = X at *
      go_wp2_with fail
      go_region
      go_wp2_with fail
      go_roundw
      case rel => exact ⟨k + 1, by omega, by go_num, OS.out.later (Below.refl _ _).drew, OC.out.later (Below.refl _ _).drew, HB'.out.drew⟩
      case measure => simp [intOf]; omega
    · have hkn : n = k := by omega
      subst hkn
      go_wp2_with fail
      refine (allWithin_any _ _ _ _ _ _ _ os.ints).mono ?_
      rintro e w' ⟨rfl, rfl⟩
      rw [HE.out]
      go_wp2_with fail
      go_ret
      exact ⟨rfl, hb⟩
set_option maxRecDepth 100000 in
set_option maxHeartbeats 4000000 in
theorem l06Even_is (A : Option Addr) (n c : Nat) (B : Option Addr) (m d : Nat) (net : Net) (C : Option Addr) (l e : Nat) (zs : List Int) (b : Bool) (w : World) (h : NetAt w A n c B m d net) (hz : Ints w C l e zs) (ok : NetOK net) (hs : supB net zs = true) (hb : evB net zs = b) :
    Calls Try.prog 76 #[.agg #[.slice A n c, .slice B m d], .slice C l e] w fun e w' => e = .returned (.bool b) ∧ Below w.heap.size w w' := by
  have hn24 : n ≤ 24 := by have := ok.n24; have := h.nodes.len; omega
  have HNn : Hid ((netG net).n = n) := Lib.hid h.nodes.len
  have hl : n = l := by have := supB_len hs; have := h.nodes.len; have := hz.len; omega
  subst hl
  have HS := Lib.hid hs
  have HE : Hid (allB (mapTo n ((netG net).sumsK (ig zs) n)) 0 0 = b) := Lib.hid (by rw [← hb]; unfold evB Gr.sums Gr.sumsK; rw [HNn.out, h.nodes.len])
  have HB := Lib.hid (bel1 w (.cells #[.slice A n c, .slice B m d] 27))
  obtain ⟨W, hW⟩ : ∃ W, W = w.alloc (.cells #[.slice A n c, .slice B m d] 27) := ⟨_, rfl⟩
  have hWs : W.heap.size = w.heap.size + 1 := by rw [hW]; simp
  clear hs hb
  go_enter Try.func76, Try.ntmps76
  go_wp2_with fail
  refine (l04Components_any _ _ _ _ _ _ net _ (h.later HB.out) ok).mono ?_
  rintro e w1 ⟨Ac, rfl, o2', f2, b1⟩
  rw [← hW] at b1 f2 HB
  have t1 := below_step HB.out b1
  go_wp2_with (at_make; refine law_make _ rfl _ _ rfl n _ _ rfl rfl rfl rfl (by omega) ?_; intro w2 o12 b2 z1)
  have t2 := below_step t1 b2
  have o2 := o2'.later b2
  obtain ⟨gs, hgs⟩ : ∃ gs, w1.heap.size = gs := ⟨_, rfl⟩
  have hgs2 : w.heap.size ≤ gs := by have := t1.size; omega
  rw [hgs] at o12 ⊢
  have hac : ∀ a, Ac = some a → a.block ≠ gs := fun a ha => by
    have h2 := o2'.lt a ha
    omega
  rw [show List.replicate n (0 : Int) = mapTo n ((netG net).sumsK (ig zs) 0) from (mapTo_const n 0).symm] at o12
  clear hW z1 o2'
  go_loopw [7] (fun i wr => ∃ k : Nat, k ≤ n ∧ i = .int .i64 k ∧ Own wr (some ⟨gs, 0, none⟩) n n (mapTo n ((netG net).sumsK (ig zs) k)) ∧ Own wr Ac n n (mapTo n (netG net).comp) ∧ Below w.heap.size w wr) (fun i _ => n - (intOf i).toNat)
  case atStart => exact ⟨0, by omega, rfl, o12, o2, t2⟩
  case round =>
    obtain ⟨k, hk, rfl, os, oc, hb⟩ := hrel
    clear o12 o2
    by_cases hlt : k < n
    · obtain ⟨ga, rfl, hga⟩ := oc.pos (by omega)
      have c1 := oc.cell hlt
      rw [mapTo_ig hlt, Gr.comp_root ok.g (by rw [HNn.out]; exact hlt)] at c1
      have hrn : (netG net).root k < n := by have := (Gr.root_facts ok.g (v := k) (by rw [HNn.out]; exact hlt)).1; rw [HNn.out] at this; exact this
      have c2 := os.cell hrn
      rw [mapTo_ig hrn] at c2
      have u2 := os.unfrozen ((netG net).root k)
      obtain ⟨bb, off, rfl, hbl, hc⟩ := (hz.later hb).cells (by omega)
      have hck := hc k hlt
      have hzle := hz.le
      have hzcap := hz.cap
      have hbs := hb.size
      have hbbne : bb ≠ gs := by
        obtain ⟨bb', off', hbb, hlt', _⟩ := hz.cells (by omega)
        injection hbb with hbb
        injection hbb with hbb1 _
        omega
      have hgane := hac _ rfl
      have hbn := sumsK_bnd HS.out ((netG net).root k) k (by omega)
      have hzk := supB_all HS.out k
      have os' := os.store ((netG net).root k) (z := (netG net).sumsK (ig zs) k ((netG net).root k) + ig zs k) ⟨by omega, by omega⟩
      rw [Gr.sumsK_succ] at os'
      have oc' := oc.far (p := ⟨gs, (netG net).root k, none⟩) hac (.int .i64 ((netG net).sumsK (ig zs) k ((netG net).root k) + ig zs k))
      have hb' := hb.setCell (p := ⟨gs, (netG net).root k, none⟩) (by exact hgs2) (.int .i64 ((netG net).sumsK (ig zs) k ((netG net).root k) + ig zs k))
      have OS := Lib.hid os'
      have OC := Lib.hid oc'
      have HB' := Lib.hid hb'
      clear os' oc' hb' hc oc os
      generalize (netG net).root k = R at *
      generalize (netG net).sumsK (ig zs) k R = X at *
      go_wp2_with fail
      go_region
      go_wp2_with fail
      go_roundw
      case rel => exact ⟨k + 1, by omega, by go_num, OS.out.later (Below.refl _ _).drew, OC.out.later (Below.refl _ _).drew, HB'.out.drew⟩
      case measure => simp [intOf]; omega
    · have hkn : n = k := by omega
      subst hkn
      go_wp2_with fail
      refine (l05Zero_any _ _ _ _ _ os.ints).mono ?_
      rintro e w' ⟨rfl, rfl⟩
      rw [HE.out]
      go_wp2_with fail
      go_ret
      exact ⟨rfl, hb⟩

end Go.Proofs.Ytioiebjgjimeiaa
