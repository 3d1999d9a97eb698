/- MissedBy, RootRange, BlockingPair -/
import Derived.Test.YtioiebjgjimeiaaI4
namespace Go.Proofs.Ytioiebjgjimeiaa
open Go.RowKit

def ndl (net : Net) (j : Nat) : Int := (nd net.nodes j).low
def ndh (net : Net) (j : Nat) : Int := (nd net.nodes j).high
theorem netB_node_at {net : Net} (h : netB net = true) {j : Nat} (hj : j < net.nodes.length) : 0 ≤ (nd net.nodes j).low ∧ (nd net.nodes j).low ≤ (nd net.nodes j).high ∧ (nd net.nodes j).high ≤ 100000000 := by
  have hn : nodeOkB net.nodes j = true := by
    cases hx : nodeOkB net.nodes j with
    | true => rfl
    | false => rw [netB_node hj hx] at h; cases h
  unfold nodeOkB nodeB at hn
  simp only [Bool.and_eq_true, decide_eq_true_eq] at hn
  omega
theorem node_bnd {net : Net} (hv : netB net = true) (j : Nat) : 0 ≤ ndl net j ∧ ndl net j ≤ ndh net j ∧ ndh net j ≤ 100000000 := by
  unfold ndl ndh
  rcases Nat.lt_or_ge j net.nodes.length with hj | hj
  · exact netB_node_at hv hj
  · have : nd net.nodes j = node0 := by unfold nd; rw [List.getD_eq_getElem?_getD, List.getElem?_eq_none hj]; rfl
    rw [this]; exact ⟨by decide, by decide, by decide⟩

/-! ### MissedBy -/
def misK (net : Net) (L : List Int) : Nat → Int
  | 0 => 0
  | k + 1 => max (misK net L k) (max (ndl net k - ig L k) (ig L k - ndh net k))
theorem misK_bnd {net : Net} {L : List Int} (hv : netB net = true) (hL : ∀ j, -500043200000000000 ≤ ig L j ∧ ig L j ≤ 500043200000000000) (k : Nat) : 0 ≤ misK net L k ∧ misK net L k ≤ 500043300000000000 := by
  induction k with
  | zero => simp [misK]
  | succ k ih =>
    have h1 := node_bnd hv k
    have h2 := hL k
    unfold misK
    omega
theorem levL_lim {net : Net} {zs : List Int} (hv : netB net = true) (hs : flowB net zs = true) {root : Nat} {level : Int} (hl : -500000000000000000 ≤ level ∧ level ≤ 500000000000000000) (j : Nat) : -500043200000000000 ≤ ig (levL net zs root level) j ∧ ig (levL net zs root level) j ≤ 500043200000000000 := by
  rcases Nat.lt_or_ge j net.nodes.length with hj | hj
  · rw [levL_ig hj]; exact lev_lim hv hs hl j
  · rw [ig_ge (by rw [levL_len]; exact hj)]; omega
def rMissedBy (net : Net) (zs : List Int) (root level : Int) : Int × Int := if codeT net zs level [root] = 0 then (misK net (levL net zs root.toNat level) net.nodes.length, 0) else (0, codeT net zs level [root])

/-- a row of the call's own -/
def isOwnS (n c : Nat) (zs : List Int) : VP := fun v w => ∃ A, v = .slice A n c ∧ Own w A n c zs ∧ True
theorem stb_own {n c : Nat} {zs : List Int} : Stb Grw (isOwnS n c zs) := by
  rintro v w w' h ⟨A, rfl, ho, _⟩
  exact ⟨A, rfl, ho.later h, trivial⟩

theorem specForestLevels_ok (A : Option Addr) (n c : Nat) (B : Option Addr) (m d : Nat) (net : Net) (C : Option Addr) (l e : Nat) (zs : List Int) (root : Nat) (level : Int) (w : World) (h : NetAt w A n c B m d net) (hz : Ints w C l e zs) (h0 : codeT net zs level [(root : Int)] = 0) :
    Calls Try.prog 54 #[.agg #[.slice A n c, .slice B m d], .slice C l e, .int .i64 root, .int .i64 level] w fun e w' => ∃ Al cl, e = .returned (.tuple #[.slice Al n cl, .int .i64 0]) ∧ Own w' Al n cl (levL net zs root level) ∧ Fresh w.heap.size Al ∧ Below w.heap.size w w' := by
  have hR : rForestLevels net zs root level = (levL net zs root level, 0) := by unfold rForestLevels; rw [if_pos h0, Int.toNat_natCast]
  refine (specForestLevels_any A n c B m d net C l e zs root level w h hz).mono ?_
  rintro e' w' ⟨Al, cl, h1, h2, h3, h4⟩
  rw [hR] at h1 h2
  simp only [levL_len, h.nodes.len] at h1 h2
  exact ⟨Al, cl, h1, h2, h3, h4⟩

theorem specForestLevels_bad (A : Option Addr) (n c : Nat) (B : Option Addr) (m d : Nat) (net : Net) (C : Option Addr) (l e : Nat) (zs : List Int) (root level k : Int) (w : World) (h : NetAt w A n c B m d net) (hz : Ints w C l e zs) (h0 : codeT net zs level [root] = k) (hk : k ≠ 0) :
    Calls Try.prog 54 #[.agg #[.slice A n c, .slice B m d], .slice C l e, .int .i64 root, .int .i64 level] w fun e w' => ∃ Al cl, e = .returned (.tuple #[.slice Al 0 cl, .int .i64 k]) ∧ Below w.heap.size w w' := by
  have hR : rForestLevels net zs root level = ([], k) := by unfold rForestLevels; rw [h0, if_neg hk]
  refine (specForestLevels_any A n c B m d net C l e zs root level w h hz).mono ?_
  rintro e' w' ⟨Al, cl, h1, h2, h3, h4⟩
  rw [hR] at h1
  exact ⟨Al, cl, h1, h4⟩

end Go.Proofs.Ytioiebjgjimeiaa

/- RootRange, BlockingPair -/
namespace Go.Proofs.Ytioiebjgjimeiaa
open Go.RowKit

/-! ### RootRange -/
def rlo (net : Net) (L : List Int) : Nat → Int
  | 0 => ndl net 0 - ig L 0
  | k + 1 => max (rlo net L k) (ndl net (k + 1) - ig L (k + 1))
def rhi (net : Net) (L : List Int) : Nat → Int
  | 0 => ndh net 0 - ig L 0
  | k + 1 => min (rhi net L k) (ndh net (k + 1) - ig L (k + 1))
/-- as the program reckons, from a first value on -/
def rloI (net : Net) (L : List Int) (x : Int) : Nat → Int
  | 0 => x
  | k + 1 => max (rloI net L x k) (ndl net k - ig L k)
def rhiI (net : Net) (L : List Int) (x : Int) : Nat → Int
  | 0 => x
  | k + 1 => min (rhiI net L x k) (ndh net k - ig L k)
theorem rloI_eq (net : Net) (L : List Int) (x : Int) (k : Nat) : rloI net L x (k + 1) = max x (rlo net L k) := by
  induction k with
  | zero => rfl
  | succ k ih => show max (rloI net L x (k + 1)) _ = max x (max (rlo net L k) _); rw [ih]; omega
theorem rhiI_eq (net : Net) (L : List Int) (x : Int) (k : Nat) : rhiI net L x (k + 1) = min x (rhi net L k) := by
  induction k with
  | zero => rfl
  | succ k ih => show min (rhiI net L x (k + 1)) _ = min x (min (rhi net L k) _); rw [ih]; omega
theorem rlo_ge (net : Net) (L : List Int) {j k : Nat} (h : j ≤ k) : ndl net j - ig L j ≤ rlo net L k := by
  induction k with
  | zero => have : j = 0 := by omega
            subst this; exact Int.le_refl _
  | succ k ih =>
    show _ ≤ max (rlo net L k) _
    by_cases e : j = k + 1
    · subst e; omega
    · have := ih (by omega); omega
theorem rhi_le (net : Net) (L : List Int) {j k : Nat} (h : j ≤ k) : rhi net L k ≤ ndh net j - ig L j := by
  induction k with
  | zero => have : j = 0 := by omega
            subst this; exact Int.le_refl _
  | succ k ih =>
    show min (rhi net L k) _ ≤ _
    by_cases e : j = k + 1
    · subst e; omega
    · have := ih (by omega); omega
theorem rloI_end {net : Net} {L : List Int} {root n : Nat} (hr : root < n) (h0 : ig L root = 0) : rloI net L (ndl net root) n = rlo net L (n - 1) := by
  obtain ⟨k, rfl⟩ : ∃ k, n = k + 1 := ⟨n - 1, by omega⟩
  rw [rloI_eq]
  have := rlo_ge net L (j := root) (k := k) (by omega)
  show max _ (rlo net L k) = rlo net L (k + 1 - 1)
  rw [Nat.add_sub_cancel]
  omega
theorem rhiI_end {net : Net} {L : List Int} {root n : Nat} (hr : root < n) (h0 : ig L root = 0) : rhiI net L (ndh net root) n = rhi net L (n - 1) := by
  obtain ⟨k, rfl⟩ : ∃ k, n = k + 1 := ⟨n - 1, by omega⟩
  rw [rhiI_eq]
  have := rhi_le net L (j := root) (k := k) (by omega)
  show min _ (rhi net L k) = rhi net L (k + 1 - 1)
  rw [Nat.add_sub_cancel]
  omega
theorem levL0_lim {net : Net} {zs : List Int} (hv : netB net = true) (hs : flowB net zs = true) {root : Nat} (j : Nat) : -43200000000000 ≤ ig (levL net zs root 0) j ∧ ig (levL net zs root 0) j ≤ 43200000000000 := by
  rcases Nat.lt_or_ge j net.nodes.length with hj | hj
  · rw [levL_ig hj]; exact lev0_lim hv hs j
  · rw [ig_ge (by rw [levL_len]; exact hj)]; omega
theorem rlo_bnd {net : Net} {zs : List Int} {root : Nat} (hv : netB net = true) (hs : flowB net zs = true) (k : Nat) : -43200000000000 ≤ rlo net (levL net zs root 0) k ∧ rlo net (levL net zs root 0) k ≤ 43200100000000 := by
  induction k with
  | zero =>
    have h1 := node_bnd hv 0
    have h2 := levL0_lim hv hs (root := root) 0
    unfold rlo; omega
  | succ k ih =>
    have h1 := node_bnd hv (k + 1)
    have h2 := levL0_lim hv hs (root := root) (k + 1)
    unfold rlo; omega
theorem rhi_bnd {net : Net} {zs : List Int} {root : Nat} (hv : netB net = true) (hs : flowB net zs = true) (k : Nat) : -43200000000000 ≤ rhi net (levL net zs root 0) k ∧ rhi net (levL net zs root 0) k ≤ 43200100000000 := by
  induction k with
  | zero =>
    have h1 := node_bnd hv 0
    have h2 := levL0_lim hv hs (root := root) 0
    unfold rhi; omega
  | succ k ih =>
    have h1 := node_bnd hv (k + 1)
    have h2 := levL0_lim hv hs (root := root) (k + 1)
    unfold rhi; omega
theorem rloI_bnd {net : Net} {zs : List Int} {root : Nat} {x : Int} (hx : 0 ≤ x ∧ x ≤ 100000000) (hv : netB net = true) (hs : flowB net zs = true) (k : Nat) : -43200000000000 ≤ rloI net (levL net zs root 0) x k ∧ rloI net (levL net zs root 0) x k ≤ 43200100000000 := by
  cases k with
  | zero => unfold rloI; omega
  | succ k => rw [rloI_eq]; have := rlo_bnd hv hs (root := root) k; omega
theorem rhiI_bnd {net : Net} {zs : List Int} {root : Nat} {x : Int} (hx : 0 ≤ x ∧ x ≤ 100000000) (hv : netB net = true) (hs : flowB net zs = true) (k : Nat) : -43200000000000 ≤ rhiI net (levL net zs root 0) x k ∧ rhiI net (levL net zs root 0) x k ≤ 43200100000000 := by
  cases k with
  | zero => unfold rhiI; omega
  | succ k => rw [rhiI_eq]; have := rhi_bnd hv hs (root := root) k; omega
/-- the range of a root -/
def rngR (net : Net) (zs : List Int) (root : Nat) : Int × Int × Int :=
  if rlo net (levL net zs root 0) (net.nodes.length - 1) > rhi net (levL net zs root 0) (net.nodes.length - 1) then (0, 0, 7) else (rlo net (levL net zs root 0) (net.nodes.length - 1), rhi net (levL net zs root 0) (net.nodes.length - 1), 0)
def rRootRange (net : Net) (zs : List Int) (root : Int) : Int × Int × Int := if codeT net zs 0 [root] = 0 then rngR net zs root.toNat else (0, 0, codeT net zs 0 [root])

set_option maxRecDepth 100000 in
set_option maxHeartbeats 8000000 in
theorem rootRange_any (A : Option Addr) (n c : Nat) (B : Option Addr) (m d : Nat) (net : Net) (C : Option Addr) (l e : Nat) (zs : List Int) (root : Nat) (w : World) (h : NetAt w A n c B m d net) (hz : Ints w C l e zs) (hv : netB net = true) (hs : flowB net zs = true) (hrn : root < n) :
    Calls Try.prog 97 #[.agg #[.slice A n c, .slice B m d], .slice C l e, .int .i64 root] w fun e w' => e = .returned (.tuple #[.int .i64 (rngR net zs root).1, .int .i64 (rngR net zs root).2.1, .int .i64 (rngR net zs root).2.2]) ∧ Below w.heap.size w w' := by
  have HB := Lib.hid (bel1 w (.cells #[.slice A n c, .slice B m d] 27))
  have hnl := h.nodes.len
  have hn24 := (netB_sizes hv).2.1
  rw [hnl] at hn24
  have hlim : -500000000000000000 ≤ (0 : Int) ∧ (0 : Int) ≤ 500000000000000000 := by omega
  have HNL := Lib.hid hnl
  have hr0 : ig (levL net zs root 0) root = 0 := by rw [levL_ig (by omega), Gr.lev_root]
  have HR0 := Lib.hid hr0
  clear hr0 hnl
  go_enter Try.func97, Try.ntmps97
  go_wp2_with fail
  refine (forestLevels_any _ _ _ _ _ _ net _ _ _ zs root 0 _ (h.later HB.out) (hz.later HB.out) hv hs hrn hlim).mono ?_
  rintro e w1 ⟨Al, rfl, ol, fl, b1⟩
  have t1 := below_step HB.out b1
  obtain ⟨k0, k1⟩ := box_cells b1
  obtain ⟨g, rfl, hg⟩ := ol.pos (by omega)
  have hnle := h.nodes.le
  have hncap := h.nodes.cap
  have hbr := node_bnd hv root
  obtain ⟨bn, offn, rfl, hbln, hcn⟩ := (h.nodes.later t1).cells (by omega)
  obtain ⟨c0, c1, c2⟩ := hcn root hrn
  clear hcn
  go_wp2_with fail
  go_quiet (fail)
  clear c0 c1 c2
  go_wp2_with fail
  clear k0 k1
  go_loopw [10, 11, 33] (fun p q i wr => ∃ k : Nat, k ≤ n ∧ p = .int .i64 (rloI net (levL net zs root 0) (ndl net root) k) ∧ q = .int .i64 (rhiI net (levL net zs root 0) (ndh net root) k) ∧ i = .int .i64 k ∧ Below w.heap.size w wr ∧ Own wr (some ⟨g, 0, none⟩) n n (levL net zs root 0)) (fun _ _ i _ => n - (intOf i).toNat)
  case atStart => exact ⟨0, by omega, rfl, rfl, rfl, below_drew t1 _, ol.later (below_drew (Below.refl _ _) _)⟩
  case round =>
    obtain ⟨k, hk, rfl, rfl, rfl, hb, ol⟩ := hrel
    have hlo := rloI_bnd (root := root) (x := ndl net root) (by omega) hv hs k
    have hhi := rhiI_bnd (root := root) (x := ndh net root) (by omega) hv hs k
    by_cases hlt : k < n
    · obtain ⟨bn, offn, hbe, hbln, hcn⟩ := (h.nodes.later hb).cells (by omega)
      injection hbe with hbe
      injection hbe with hbe1 hbe2
      subst hbe1 hbe2
      obtain ⟨c0, c1, c2⟩ := hcn k hlt
      have hck := ol.cell hlt
      have hgl : g < wr.heap.size := ol.lt _ rfl
      have hbs := hb.size
      have hnb := node_bnd hv k
      have hLk := levL0_lim hv hs (root := root) k
      have HP : Hid (rloI net (levL net zs root 0) (ndl net root) (k + 1) = max (rloI net (levL net zs root 0) (ndl net root) k) (ndl net k - ig (levL net zs root 0) k)) := Lib.hid rfl
      have HQ : Hid (rhiI net (levL net zs root 0) (ndh net root) (k + 1) = min (rhiI net (levL net zs root 0) (ndh net root) k) (ndh net k - ig (levL net zs root 0) k)) := Lib.hid rfl
      have OL := Lib.hid ol
      clear hcn ol
      change _ = some (Value.int IntKind.i64 (ndl net k)) at c1
      change _ = some (Value.int IntKind.i64 (ndh net k)) at c2
      generalize rloI net (levL net zs root 0) (ndl net root) k = P1 at *
      generalize rhiI net (levL net zs root 0) (ndh net root) k = Q1 at *
      generalize ig (levL net zs root 0) k = V at *
      generalize ndl net k = lo at *
      generalize ndh net k = hi at *
      by_cases h1 : P1 < lo - V
      · by_cases h2 : hi - V < Q1
        · have HX : Hid (rloI net (levL net zs root 0) (ndl net root) (k + 1) = lo - V) := Lib.hid (by rw [HP.out]; omega)
          have HY : Hid (rhiI net (levL net zs root 0) (ndh net root) (k + 1) = hi - V) := Lib.hid (by rw [HQ.out]; omega)
          clear HP HQ
          go_wp2_with fail
          go_quiet (fail)
          go_wp2_with fail
          go_roundw
          case rel => exact ⟨k + 1, by omega, by rw [HX.out], by rw [HY.out], by go_num, below_drew (hb.alloc hbs _) _, OL.out.later (below_drew (bel1 _ _) _)⟩
          case measure => simp [intOf]; omega
        · have HX : Hid (rloI net (levL net zs root 0) (ndl net root) (k + 1) = lo - V) := Lib.hid (by rw [HP.out]; omega)
          have HY : Hid (rhiI net (levL net zs root 0) (ndh net root) (k + 1) = Q1) := Lib.hid (by rw [HQ.out]; omega)
          clear HP HQ
          go_wp2_with fail
          go_quiet (fail)
          go_wp2_with fail
          go_roundw
          case rel => exact ⟨k + 1, by omega, by rw [HX.out], by rw [HY.out], by go_num, below_drew (hb.alloc hbs _) _, OL.out.later (below_drew (bel1 _ _) _)⟩
          case measure => simp [intOf]; omega
      · by_cases h2 : hi - V < Q1
        · have HX : Hid (rloI net (levL net zs root 0) (ndl net root) (k + 1) = P1) := Lib.hid (by rw [HP.out]; omega)
          have HY : Hid (rhiI net (levL net zs root 0) (ndh net root) (k + 1) = hi - V) := Lib.hid (by rw [HQ.out]; omega)
          clear HP HQ
          go_wp2_with fail
          go_quiet (fail)
          go_wp2_with fail
          go_roundw
          case rel => exact ⟨k + 1, by omega, by rw [HX.out], by rw [HY.out], by go_num, below_drew (hb.alloc hbs _) _, OL.out.later (below_drew (bel1 _ _) _)⟩
          case measure => simp [intOf]; omega
        · have HX : Hid (rloI net (levL net zs root 0) (ndl net root) (k + 1) = P1) := Lib.hid (by rw [HP.out]; omega)
          have HY : Hid (rhiI net (levL net zs root 0) (ndh net root) (k + 1) = Q1) := Lib.hid (by rw [HQ.out]; omega)
          clear HP HQ
          go_wp2_with fail
          go_quiet (fail)
          go_wp2_with fail
          go_roundw
          case rel => exact ⟨k + 1, by omega, by rw [HX.out], by rw [HY.out], by go_num, below_drew (hb.alloc hbs _) _, OL.out.later (below_drew (bel1 _ _) _)⟩
          case measure => simp [intOf]; omega
    · have hkn : n = k := by omega
      subst hkn
      rw [rloI_end hrn HR0.out] at hlo ⊢
      rw [rhiI_end hrn HR0.out] at hhi ⊢
      have HR : Hid (rngR net zs root = if rlo net (levL net zs root 0) (n - 1) > rhi net (levL net zs root 0) (n - 1) then (0, 0, 7) else (rlo net (levL net zs root 0) (n - 1), rhi net (levL net zs root 0) (n - 1), 0)) := Lib.hid (by unfold rngR; rw [HNL.out])
      generalize rlo net (levL net zs root 0) (n - 1) = P at *
      generalize rhi net (levL net zs root 0) (n - 1) = Q at *
      by_cases hc : Q < P
      · rw [if_pos hc] at HR
        go_wp2_with fail
        go_ret3
        exact ⟨by rw [HR.out]; rfl, hb⟩
      · rw [if_neg hc] at HR
        go_wp2_with fail
        go_ret3
        exact ⟨by rw [HR.out]; rfl, hb⟩

set_option maxHeartbeats 2000000 in
theorem implRootRange_any (A : Option Addr) (n c : Nat) (B : Option Addr) (m d : Nat) (net : Net) (C : Option Addr) (l e : Nat) (zs : List Int) (root : Int) (w : World) (h : NetAt w A n c B m d net) (hz : Ints w C l e zs) (hroot : I64 root) :
    Calls Try.prog 35 #[.agg #[.slice A n c, .slice B m d], .slice C l e, .int .i64 root] w fun e w' => e = .returned (.tuple #[.int .i64 (rRootRange net zs root).1, .int .i64 (rRootRange net zs root).2.1, .int .i64 (rRootRange net zs root).2.2]) ∧ Below w.heap.size w w' := by
  have HB := Lib.hid (bel1 w (.cells #[.slice A n c, .slice B m d] 27))
  have hnl := h.nodes.len
  by_cases h0 : codeT net zs 0 [root] = 0
  · obtain ⟨hv, hs, hA, hLv, hC⟩ := codeT_zero h0
    rw [allB_one, hnl] at hA
    obtain ⟨rt, rfl, hrn⟩ := inB_nat hA
    have hlim := levB_lim hLv
    have hn24 := (netB_sizes hv).2.1
    rw [hnl] at hn24
    have HR : Hid (rRootRange net zs rt = rngR net zs rt) := Lib.hid (by unfold rRootRange; rw [if_pos h0, Int.toNat_natCast])
    go_enter Try.func35, Try.ntmps35
    go_wp2_with fail
    refine (checkForest_is _ _ _ _ _ _ net _ _ _ zs 0 _ _ _ [(rt : Int)] _ _ (h.later (bel2 w (.cells #[.slice A n c, .slice B m d] 27) (.cells #[.int .i64 rt] 2))) (hz.later (bel2 w (.cells #[.slice A n c, .slice B m d] 27) (.cells #[.int .i64 rt] 2))) (ints_lit1 w (.cells #[.slice A n c, .slice B m d] 27) hroot) h0).mono ?_
    rintro e w1 ⟨rfl, b1⟩
    have t1 := below_step (bel2 w (.cells #[.slice A n c, .slice B m d] 27) (.cells #[.int .i64 rt] 2)) b1
    have s1 := below_step (bel1 (w.alloc (.cells #[.slice A n c, .slice B m d] 27)) (.cells #[.int .i64 rt] 2)) b1
    obtain ⟨k0, k1⟩ := box_cells s1
    go_wp2_with fail
    refine (rootRange_any _ _ _ _ _ _ net _ _ _ zs rt _ (h.later t1) (hz.later t1) hv hs hrn).mono ?_
    rintro e w2 ⟨rfl, b2⟩
    clear k0 k1
    have t2 := below_step t1 b2
    have s2 := below_step s1 b2
    obtain ⟨k0, k1⟩ := box_cells s2
    go_wp2_with fail
    go_ret3
    exact ⟨by rw [HR.out]; rfl, t2⟩
  · obtain ⟨k, hk⟩ : ∃ k, codeT net zs 0 [root] = k := ⟨_, rfl⟩
    rw [hk] at h0
    have hne : (k != 0) = true := by simp [h0]
    have HR : Hid (rRootRange net zs root = (0, 0, k)) := Lib.hid (by unfold rRootRange; rw [hk, if_neg h0])
    go_enter Try.func35, Try.ntmps35
    go_wp2_with fail
    refine (checkForest_is _ _ _ _ _ _ net _ _ _ zs 0 _ _ _ [root] _ _ (h.later (bel2 w (.cells #[.slice A n c, .slice B m d] 27) (.cells #[.int .i64 root] 2))) (hz.later (bel2 w (.cells #[.slice A n c, .slice B m d] 27) (.cells #[.int .i64 root] 2))) (ints_lit1 w (.cells #[.slice A n c, .slice B m d] 27) hroot) hk).mono ?_
    rintro e w1 ⟨rfl, b1⟩
    have t1 := below_step (bel2 w (.cells #[.slice A n c, .slice B m d] 27) (.cells #[.int .i64 root] 2)) b1
    have s1 := below_step (bel1 (w.alloc (.cells #[.slice A n c, .slice B m d] 27)) (.cells #[.int .i64 root] 2)) b1
    obtain ⟨k0, k1⟩ := box_cells s1
    go_wp2_with fail
    go_ret3
    exact ⟨by rw [HR.out]; rfl, t1⟩

end Go.Proofs.Ytioiebjgjimeiaa

/- BlockingPair -/
namespace Go.Proofs.Ytioiebjgjimeiaa
open Go.RowKit

/-- the first number below k with a property -/
def fst1 (p : Nat → Bool) : Nat → Option Nat
  | 0 => none
  | k + 1 => match fst1 p k with
    | some j => some j
    | none => if p k then some k else none
theorem fst1_none {p : Nat → Bool} {k : Nat} (h : ∀ j, j < k → p j = false) : fst1 p k = none := by
  induction k with
  | zero => rfl
  | succ k ih => unfold fst1; rw [ih fun j hj => h j (by omega)]; simp [h k (by omega)]
theorem fst1_some {p : Nat → Bool} {j k : Nat} (hj : j < k) (hp : p j = true) (h : ∀ i, i < j → p i = false) : fst1 p k = some j := by
  induction k with
  | zero => omega
  | succ k ih =>
    unfold fst1
    by_cases e : j = k
    · subst e; rw [fst1_none h]; simp [hp]
    · rw [ih (by omega)]
theorem fst1_is {p : Nat → Bool} {k j : Nat} (h : fst1 p k = some j) : j < k ∧ p j = true := by
  induction k with
  | zero => cases h
  | succ k ih =>
    unfold fst1 at h
    rcases hx : fst1 p k with _ | i
    · rw [hx] at h
      by_cases hp : p k = true
      · simp [hp] at h; subst h; exact ⟨by omega, hp⟩
      · simp [hp] at h
    · rw [hx] at h
      injection h with h
      subst h
      have := ih hx
      exact ⟨by omega, this.2⟩
theorem fst1_no {p : Nat → Bool} {k : Nat} (h : fst1 p k = none) : ∀ j, j < k → p j = false := by
  intro j hj
  cases hp : p j with
  | false => rfl
  | true =>
    exfalso
    have key : ∀ n, (∃ i, i < n ∧ i < k ∧ p i = true) → fst1 p k ≠ none := by
      intro n
      induction n with
      | zero => rintro ⟨i, hi, _⟩; omega
      | succ n ih =>
        rintro ⟨i, hi, hik, hpi⟩
        by_cases hex : ∃ i, i < n ∧ i < k ∧ p i = true
        · exact ih hex
        · have hin : i = n := by
            rcases Nat.lt_or_ge i n with h' | h'
            · exact absurd ⟨i, h', hik, hpi⟩ hex
            · omega
          subst hin
          rw [fst1_some hik hpi (fun q hq => by
            cases hx : p q with
            | false => rfl
            | true => exact absurd ⟨q, hq, by omega, hx⟩ hex)]
          intro h; cases h
    exact key (j + 1) ⟨j, by omega, hj, hp⟩ h
def blkB (net : Net) (L : List Int) (a b : Nat) : Bool := decide (ndl net a - ndh net b > ig L a - ig L b)
def bpR (net : Net) (L : List Int) : Int × Int × Int := match fst1 (fun a => (fst1 (blkB net L a) net.nodes.length).isSome) net.nodes.length with
  | some a => match fst1 (blkB net L a) net.nodes.length with
    | some b => ((a : Int), (b : Int), 0)
    | none => (0, 0, 4)
  | none => (0, 0, 4)
def rBlockingPair (net : Net) (zs : List Int) : Int × Int × Int := if codeT net zs 0 [] = 0 then bpR net (levL net zs 0 0) else (0, 0, codeT net zs 0 [])
theorem bpR_found {net : Net} {L : List Int} {a b : Nat} (ha : a < net.nodes.length) (hb : b < net.nodes.length) (hp : blkB net L a b = true) (h1 : ∀ a', a' < a → ∀ b', b' < net.nodes.length → blkB net L a' b' = false) (h2 : ∀ b', b' < b → blkB net L a b' = false) : bpR net L = ((a : Int), (b : Int), 0) := by
  have e2 := fst1_some hb hp h2
  unfold bpR
  rw [fst1_some (p := fun a => (fst1 (blkB net L a) net.nodes.length).isSome) ha (by simp [e2]) (fun i hi => by simp [fst1_none (h1 i hi)])]
  simp [e2]
theorem bpR_none {net : Net} {L : List Int} (h1 : ∀ a', a' < net.nodes.length → ∀ b', b' < net.nodes.length → blkB net L a' b' = false) : bpR net L = (0, 0, 4) := by
  unfold bpR
  rw [fst1_none (p := fun a => (fst1 (blkB net L a) net.nodes.length).isSome) (fun i hi => by simp [fst1_none (h1 i hi)])]

set_option maxRecDepth 100000 in
set_option maxHeartbeats 8000000 in
theorem implBlockingPair_any (A : Option Addr) (n c : Nat) (B : Option Addr) (m d : Nat) (net : Net) (C : Option Addr) (l e : Nat) (zs : List Int) (w : World) (h : NetAt w A n c B m d net) (hz : Ints w C l e zs) :
    Calls Try.prog 32 #[.agg #[.slice A n c, .slice B m d], .slice C l e] w fun e w' => e = .returned (.tuple #[.int .i64 (rBlockingPair net zs).1, .int .i64 (rBlockingPair net zs).2.1, .int .i64 (rBlockingPair net zs).2.2]) ∧ Below w.heap.size w w' := by
  have HB := Lib.hid (bel1 w (.cells #[.slice A n c, .slice B m d] 27))
  have hnl := h.nodes.len
  by_cases h0 : codeT net zs 0 [] = 0
  · obtain ⟨hv, hs, hA, _, hC⟩ := codeT_zero h0
    have hn24 := (netB_sizes hv).2.1
    have hn1 := (netB_sizes hv).1
    rw [hnl] at hn24 hn1
    have hrn : 0 < n := by omega
    have hlim : -500000000000000000 ≤ (0 : Int) ∧ (0 : Int) ≤ 500000000000000000 := by omega
    have hLm := levL0_lim hv hs (root := 0)
    have HV := Lib.hid hv
    have HLM := Lib.hid hLm
    have HNL := Lib.hid hnl
    have hnle := h.nodes.le
    have hncap := h.nodes.cap
    have HR : Hid (rBlockingPair net zs = bpR net (levL net zs 0 0)) := Lib.hid (by unfold rBlockingPair; rw [if_pos h0])
    go_enter Try.func32, Try.ntmps32
    go_wp2_with fail
    refine (checkForest_is _ _ _ _ _ _ net _ _ _ zs 0 _ _ _ [] _ _ (h.later HB.out) (hz.later HB.out) Ints.nil h0).mono ?_
    rintro e w1 ⟨rfl, b1⟩
    have t1 := below_step HB.out b1
    have s1 := b1
    obtain ⟨k0, k1⟩ := box_cells s1
    go_wp2_with fail
    refine (forestLevels_any _ _ _ _ _ _ net _ _ _ zs 0 0 _ (h.later t1) (hz.later t1) hv hs hrn hlim).mono ?_
    rintro e w2 ⟨Al, rfl, ol, fl, b2⟩
    clear k0 k1
    have t2 := below_step t1 b2
    have s2 := below_step s1 b2
    obtain ⟨k0, k1⟩ := box_cells s2
    obtain ⟨g, rfl, hg⟩ := ol.pos (by omega)
    obtain ⟨L, hL⟩ : ∃ L, L = levL net zs 0 0 := ⟨_, rfl⟩
    rw [← hL] at ol HLM HR
    clear hL hLm
    obtain ⟨wb, rfl⟩ : ∃ wb, wb = w2 := ⟨_, rfl⟩
    have HS2 := Lib.hid s2
    clear k0 k1
    obtain ⟨k0, k1⟩ := box_cells s2
    go_wp2_with fail
    clear k0 k1
    go_loopw [25] (fun i wr => ∃ a : Nat, a ≤ n ∧ i = .int .i64 a ∧ Hid (∀ a', a' < a → ∀ b', b' < n → blkB net L a' b' = false) ∧ Below wb.heap.size wb wr) (fun i _ => n - (intOf i).toNat)
    case atStart => exact ⟨0, by omega, rfl, Lib.hid (fun a' ha' => absurd ha' (by omega)), Below.refl _ _⟩
    case round =>
      obtain ⟨a, ha, rfl, hq, hb⟩ := hrel
      have tw := below_step t2 hb
      by_cases hlt : a < n
      · obtain ⟨bn, offn, rfl, hbln, hcn⟩ := (h.nodes.later tw).cells (by omega)
        obtain ⟨c0, c1, c2⟩ := hcn a hlt
        clear hcn
        change _ = some (Value.int IntKind.i64 (ndl net a)) at c1
        change _ = some (Value.int IntKind.i64 (ndh net a)) at c2
        obtain ⟨k0, k1⟩ := box_cells (below_step HS2.out hb)
        have hbws := below_step HS2.out hb
        have hlw : w.heap.size < wr.heap.size := by have := hbws.size; simp at this; omega
        obtain ⟨wa, hwa⟩ : ∃ wa, wa = wr.alloc (.cells #[.string (nd net.nodes a).name, .int .i64 (ndl net a), .int .i64 (ndh net a)] 48) := ⟨_, rfl⟩
        have ba := bel1 wr (.cells #[.string (nd net.nodes a).name, .int .i64 (ndl net a), .int .i64 (ndh net a)] 48)
        have xa := heap_alloc_new wr (.cells #[.string (nd net.nodes a).name, .int .i64 (ndl net a), .int .i64 (ndh net a)] 48)
        rw [← hwa] at ba xa
        have ya : wa.cell? ⟨wr.heap.size, 1, none⟩ = some (.int .i64 (ndl net a)) := by rw [cell_blk xa]; rfl
        have was : wa.heap.size = wr.heap.size + 1 := by rw [hwa]; simp
        obtain ⟨wo, rfl⟩ : ∃ wo, wo = wr := ⟨_, rfl⟩
        have YA := Lib.hid ya
        clear xa ya
        have HWA := Lib.hid hwa
        clear hwa
        go_wp2_with fail
        rw [← HWA.out]
        clear c0 c1 c2 k0 k1
        go_loopw [33] (fun i wr => ∃ b : Nat, b ≤ n ∧ i = .int .i64 b ∧ Hid (∀ b', b' < b → blkB net L a b' = false) ∧ Below wa.heap.size wa wr) (fun i _ => n - (intOf i).toNat)
        case atStart => exact ⟨0, by omega, rfl, Lib.hid (fun b' hb' => absurd hb' (by omega)), Below.refl _ _⟩
        case round =>
          obtain ⟨b, hbn, rfl, hq2, hb2⟩ := hrel
          have hba := below_step hb ba
          have tw2 := below_step (below_step t2 hba) hb2
          by_cases hlt2 : b < n
          · obtain ⟨bn', offn', hbe, hbln', hcn⟩ := (h.nodes.later tw2).cells (by omega)
            injection hbe with hbe
            injection hbe with hbe1 hbe2
            subst hbe1 hbe2
            obtain ⟨c0, c1, c2⟩ := hcn b hlt2
            clear hcn
            change _ = some (Value.int IntKind.i64 (ndl net b)) at c1
            change _ = some (Value.int IntKind.i64 (ndh net b)) at c2
            have olr := (ol.later hba).later hb2
            have ca := olr.cell hlt
            have cb := olr.cell hlt2
            have hgl : g < wr.heap.size := olr.lt _ rfl
            have ya := (hb2.cell (p := ⟨wo.heap.size, 1, none⟩) (by show wo.heap.size < _; omega)).trans YA.out
            have hwl : wo.heap.size < wr.heap.size := by have := hb2.size; omega
            have h1 := node_bnd HV.out a
            have h2 := node_bnd HV.out b
            have h3 := HLM.out a
            have h4 := HLM.out b
            have hbs := tw2.size
            rcases hin : blkB net L a b with _ | _
            · have HQ2 : Hid (∀ b', b' < b + 1 → blkB net L a b' = false) := Lib.hid (fun b' hb' => by
                rcases Nat.lt_or_ge b' b with h' | h'
                · exact hq2.out b' h'
                · have : b' = b := by omega
                  subst this; exact hin)
              have hc : ¬ (ig L a - ig L b < ndl net a - ndh net b) := by
                unfold blkB at hin
                simp only [decide_eq_false_iff_not] at hin
                omega
              clear hin hq2
              generalize ig L a = La at *
              generalize ig L b = Lb at *
              generalize ndl net a = Xa at *
              generalize ndh net b = Yb at *
              generalize ndl net b = Xb at *
              go_wp2_with fail
              go_quiet (fail)
              go_wp2_with fail
              go_roundw
              case rel => exact ⟨b + 1, by omega, by go_num, HQ2, below_drew (hb2.alloc hb2.size _) _⟩
              case measure => simp [intOf]; omega
            · have HX : Hid (bpR net L = ((a : Int), (b : Int), 0)) := Lib.hid (bpR_found (by rw [HNL.out]; exact hlt) (by rw [HNL.out]; exact hlt2) hin (fun a' ha' b' hb' => hq.out a' ha' b' (by rw [HNL.out] at hb'; exact hb')) hq2.out)
              have hc : ig L a - ig L b < ndl net a - ndh net b := by
                unfold blkB at hin
                simp only [decide_eq_true_eq] at hin
                omega
              clear hin hq2
              generalize ig L a = La at *
              generalize ig L b = Lb at *
              generalize ndl net a = Xa at *
              generalize ndh net b = Yb at *
              generalize ndl net b = Xb at *
              go_wp2_with fail
              go_quiet (fail)
              go_wp2_with fail
              go_ret3
              exact ⟨by rw [HR.out, HX.out]; rfl, below_drew (tw2.alloc hbs _) _⟩
          · have hbe : n = b := by omega
            subst hbe
            have HQ : Hid (∀ a', a' < a + 1 → ∀ b', b' < n → blkB net L a' b' = false) := Lib.hid (fun a' ha' b' hb' => by
              rcases Nat.lt_or_ge a' a with h' | h'
              · exact hq.out a' h' b' hb'
              · have : a' = a := by omega
                subst this; exact hq2.out b' hb')
            go_wp2_with fail
            go_roundw
            case rel => exact ⟨a + 1, by omega, by go_num, HQ, below_step hba hb2⟩
            case measure => simp [intOf]; omega
      · have hae : n = a := by omega
        subst hae
        have HX : Hid (bpR net L = (0, 0, 4)) := Lib.hid (bpR_none (fun a' ha' b' hb' => hq.out a' (by rw [HNL.out] at ha'; exact ha') b' (by rw [HNL.out] at hb'; exact hb')))
        go_wp2_with fail
        go_ret3
        exact ⟨by rw [HR.out, HX.out]; rfl, tw⟩
  · obtain ⟨k, hk⟩ : ∃ k, codeT net zs 0 [] = k := ⟨_, rfl⟩
    rw [hk] at h0
    have hne : (k != 0) = true := by simp [h0]
    have HR : Hid (rBlockingPair net zs = (0, 0, k)) := Lib.hid (by unfold rBlockingPair; rw [hk, if_neg h0])
    go_enter Try.func32, Try.ntmps32
    go_wp2_with fail
    refine (checkForest_is _ _ _ _ _ _ net _ _ _ zs 0 _ _ _ [] _ _ (h.later HB.out) (hz.later HB.out) Ints.nil hk).mono ?_
    rintro e w1 ⟨rfl, b1⟩
    have t1 := below_step HB.out b1
    have s1 := b1
    obtain ⟨k0, k1⟩ := box_cells s1
    go_wp2_with fail
    go_ret3
    exact ⟨by rw [HR.out]; rfl, t1⟩

theorem codeT_root0 {net : Net} {zs : List Int} : codeT net zs 0 [0] = codeT net zs 0 [] := by
  unfold codeT
  by_cases h0 : codeF net zs = 0
  · rw [if_pos h0, if_pos h0]
    have hn := (netB_sizes (codeF_zero h0).1).1
    have e : allB [0] 0 ((net.nodes.length : Int) - 1) = true := by rw [allB_one]; unfold inB; simp; omega
    rw [e]; rfl
  · rw [if_neg h0, if_neg h0]
theorem specForestLevels_two (A : Option Addr) (n c : Nat) (B : Option Addr) (m d : Nat) (net : Net) (C : Option Addr) (l e : Nat) (zs : List Int) (w : World) (h : NetAt w A n c B m d net) (hz : Ints w C l e zs) (h0 : codeT net zs 0 [] = 0) :
    Calls Try.prog 54 #[.agg #[.slice A n c, .slice B m d], .slice C l e, .int .i64 0, .int .i64 0] w fun e w' => ∃ Al cl, e = .returned (.tuple #[.slice Al n cl, .int .i64 0]) ∧ Own w' Al n cl (levL net zs 0 0) ∧ Fresh w.heap.size Al ∧ Below w.heap.size w w' :=
  specForestLevels_ok A n c B m d net C l e zs 0 0 w h hz (codeT_root0.trans h0)
theorem specForestLevels_zero (A : Option Addr) (n c : Nat) (B : Option Addr) (m d : Nat) (net : Net) (C : Option Addr) (l e : Nat) (zs : List Int) (k : Int) (w : World) (h : NetAt w A n c B m d net) (hz : Ints w C l e zs) (h0 : codeT net zs 0 [] = k) (hk : k ≠ 0) :
    Calls Try.prog 54 #[.agg #[.slice A n c, .slice B m d], .slice C l e, .int .i64 0, .int .i64 0] w fun e w' => ∃ Al cl, e = .returned (.tuple #[.slice Al 0 cl, .int .i64 k]) ∧ Below w.heap.size w w' :=
  specForestLevels_bad A n c B m d net C l e zs 0 0 k w h hz (codeT_root0.trans h0) hk

set_option maxRecDepth 100000 in
set_option maxHeartbeats 8000000 in
theorem specBlockingPair_any (A : Option Addr) (n c : Nat) (B : Option Addr) (m d : Nat) (net : Net) (C : Option Addr) (l e : Nat) (zs : List Int) (w : World) (h : NetAt w A n c B m d net) (hz : Ints w C l e zs) :
    Calls Try.prog 33 #[.agg #[.slice A n c, .slice B m d], .slice C l e] w fun e w' => e = .returned (.tuple #[.int .i64 (rBlockingPair net zs).1, .int .i64 (rBlockingPair net zs).2.1, .int .i64 (rBlockingPair net zs).2.2]) ∧ Below w.heap.size w w' := by
  have HB := Lib.hid (bel1 w (.cells #[.slice A n c, .slice B m d] 27))
  have hnl := h.nodes.len
  by_cases h0 : codeT net zs 0 [] = 0
  · obtain ⟨hv, hs, hA, _, hC⟩ := codeT_zero h0
    have hn24 := (netB_sizes hv).2.1
    have hn1 := (netB_sizes hv).1
    rw [hnl] at hn24 hn1
    have hrn : 0 < n := by omega
    have hlim : -500000000000000000 ≤ (0 : Int) ∧ (0 : Int) ≤ 500000000000000000 := by omega
    have hLm := levL0_lim hv hs (root := 0)
    have HV := Lib.hid hv
    have HLM := Lib.hid hLm
    have HNL := Lib.hid hnl
    have hnle := h.nodes.le
    have hncap := h.nodes.cap
    have HR : Hid (rBlockingPair net zs = bpR net (levL net zs 0 0)) := Lib.hid (by unfold rBlockingPair; rw [if_pos h0])
    go_enter Try.func33, Try.ntmps33
    go_wp2_with fail
    refine (specForestLevels_two _ _ _ _ _ _ net _ _ _ zs _ (h.later HB.out) (hz.later HB.out) h0).mono ?_
    rintro e w1 ⟨Al, cl, rfl, ol, fl, b1⟩
    have t1 := below_step HB.out b1
    have s1 := b1
    obtain ⟨k0, k1⟩ := box_cells s1
    obtain ⟨g, rfl, hg⟩ := ol.pos (by omega)
    obtain ⟨L, hL⟩ : ∃ L, L = levL net zs 0 0 := ⟨_, rfl⟩
    rw [← hL] at ol HLM HR
    clear hL hLm
    obtain ⟨bn, offn, rfl, hbln, hcn⟩ := (h.nodes.later t1).cells (by omega)
    have HC := Lib.hid hcn
    have OL := Lib.hid ol
    clear hcn ol
    go_wp2_with fail
    go_loopw [9, 10] (fun i _ wr => ∃ a : Nat, a ≤ n ∧ i = .int .i64 a ∧ Hid (∀ a', a' < a → ∀ b', b' < n → blkB net L a' b' = false) ∧ ∃ nq, wr = w1.drewN nq) (fun i _ _ => n - (intOf i).toNat)
    case atStart => exact ⟨0, by omega, rfl, Lib.hid (fun a' ha' => absurd ha' (by omega)), 0, rfl⟩
    case round =>
      obtain ⟨a, ha, rfl, hq, nq, rfl⟩ := hrel
      by_cases hlt : a < n
      · go_wp2_with fail
        go_loopw [10] (fun i wr => ∃ b : Nat, b ≤ n ∧ i = .int .i64 b ∧ Hid (∀ b', b' < b → blkB net L a b' = false) ∧ ∃ nq, wr = w1.drewN nq) (fun i _ => n - (intOf i).toNat)
        case atStart => exact ⟨0, by omega, rfl, Lib.hid (fun b' hb' => absurd hb' (by omega)), _, rfl⟩
        case round =>
          obtain ⟨b, hbn, rfl, hq2, nq2, rfl⟩ := hrel
          by_cases hlt2 : b < n
          · obtain ⟨c0, c1, c2⟩ := HC.out a hlt
            obtain ⟨d0, d1, d2⟩ := HC.out b hlt2
            change _ = some (Value.int IntKind.i64 (ndl net a)) at c1
            change _ = some (Value.int IntKind.i64 (ndh net b)) at d2
            have ca := OL.out.cell hlt
            have cb := OL.out.cell hlt2
            have h1 := node_bnd HV.out a
            have h2 := node_bnd HV.out b
            have h3 := HLM.out a
            have h4 := HLM.out b
            clear c0 c2 d0 d1
            rcases hin : blkB net L a b with _ | _
            · have HQ2 : Hid (∀ b', b' < b + 1 → blkB net L a b' = false) := Lib.hid (fun b' hb' => by
                rcases Nat.lt_or_ge b' b with h' | h'
                · exact hq2.out b' h'
                · have : b' = b := by omega
                  subst this; exact hin)
              have hc : ¬ (ig L a - ig L b < ndl net a - ndh net b) := by
                unfold blkB at hin
                simp only [decide_eq_false_iff_not] at hin
                omega
              clear hin hq2
              generalize ig L a = La at *
              generalize ig L b = Lb at *
              generalize ndl net a = Xa at *
              generalize ndh net b = Yb at *
              go_wp2_with fail
              go_quiet (fail)
              go_wp2_with fail
              go_roundw
              case rel => exact ⟨b + 1, by omega, by go_num, HQ2, _, rfl⟩
              case measure => simp [intOf]; omega
            · have HX : Hid (bpR net L = ((a : Int), (b : Int), 0)) := Lib.hid (bpR_found (by rw [HNL.out]; exact hlt) (by rw [HNL.out]; exact hlt2) hin (fun a' ha' b' hb' => hq.out a' ha' b' (by rw [HNL.out] at hb'; exact hb')) hq2.out)
              have hc : ig L a - ig L b < ndl net a - ndh net b := by
                unfold blkB at hin
                simp only [decide_eq_true_eq] at hin
                omega
              clear hin hq2
              generalize ig L a = La at *
              generalize ig L b = Lb at *
              generalize ndl net a = Xa at *
              generalize ndh net b = Yb at *
              go_wp2_with fail
              go_quiet (fail)
              go_wp2_with fail
              go_ret3
              exact ⟨by rw [HR.out, HX.out]; rfl, by first | exact below_drew t1 _ | exact below_drew (below_drew t1 _) _⟩
          · have hbe : n = b := by omega
            subst hbe
            have HQ : Hid (∀ a', a' < a + 1 → ∀ b', b' < n → blkB net L a' b' = false) := Lib.hid (fun a' ha' b' hb' => by
              rcases Nat.lt_or_ge a' a with h' | h'
              · exact hq.out a' h' b' hb'
              · have : a' = a := by omega
                subst this; exact hq2.out b' hb')
            go_wp2_with fail
            go_roundw
            case rel => exact ⟨a + 1, by omega, by go_num, HQ, _, rfl⟩
            case measure => simp [intOf]; omega
      · have hae : n = a := by omega
        subst hae
        have HX : Hid (bpR net L = (0, 0, 4)) := Lib.hid (bpR_none (fun a' ha' b' hb' => hq.out a' (by rw [HNL.out] at ha'; exact ha') b' (by rw [HNL.out] at hb'; exact hb')))
        go_wp2_with fail
        go_ret3
        exact ⟨by rw [HR.out, HX.out]; rfl, by first | exact below_drew t1 _ | exact below_drew (below_drew t1 _) _⟩
  · obtain ⟨k, hk⟩ : ∃ k, codeT net zs 0 [] = k := ⟨_, rfl⟩
    rw [hk] at h0
    have hne : (k != 0) = true := by simp [h0]
    have HR : Hid (rBlockingPair net zs = (0, 0, k)) := Lib.hid (by unfold rBlockingPair; rw [hk, if_neg h0])
    go_enter Try.func33, Try.ntmps33
    go_wp2_with fail
    refine (specForestLevels_zero _ _ _ _ _ _ net _ _ _ zs k _ (h.later HB.out) (hz.later HB.out) hk h0).mono ?_
    rintro e w1 ⟨Al, cl, rfl, b1⟩
    have t1 := below_step HB.out b1
    have s1 := b1
    obtain ⟨k0, k1⟩ := box_cells s1
    go_wp2_with fail
    go_ret3
    exact ⟨by rw [HR.out]; rfl, t1⟩

end Go.Proofs.Ytioiebjgjimeiaa
