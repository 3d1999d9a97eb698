/- SplitFlow -/
import Derived.Test.YtlinofehnpmbgaaE
import Derived.Test.YtlinofehnpmbgaaMark
namespace Go.Proofs.Ytlinofehnpmbgaa
open Go.RowKit

/-- what is left is given, one unit each, to those that may have one more: after k of them -/
def fillS (ps qs : List Int) (l : Int) : Nat → List Int × Int
  | 0 => (ps, l)
  | k + 1 => if 0 < (fillS ps qs l k).2 ∧ ig (fillS ps qs l k).1 k < ig qs k then ((fillS ps qs l k).1.set k (ig (fillS ps qs l k).1 k + 1), (fillS ps qs l k).2 - 1) else fillS ps qs l k

theorem fillS_len (ps qs : List Int) (l : Int) (k : Nat) : (fillS ps qs l k).1.length = ps.length := by
  induction k with
  | zero => rfl
  | succ k ih => unfold fillS; split <;> simp [ih]

theorem ig_set {zs : List Int} {i j : Nat} {z : Int} (h : i < zs.length) : ig (zs.set i z) j = if i = j then z else ig zs j := by
  unfold ig
  rw [List.getD_eq_getElem?_getD, List.getElem?_set, List.getD_eq_getElem?_getD]
  split
  · first | rfl | (rw [if_pos h]; rfl)
  · rfl

theorem fillS_ahead (ps qs : List Int) (l : Int) (k : Nat) (hk : k ≤ ps.length) : ∀ j, k ≤ j → ig (fillS ps qs l k).1 j = ig ps j := by
  induction k with
  | zero => intro j _; rfl
  | succ k ih =>
    intro j hj
    unfold fillS
    split
    · rw [ig_set (by rw [fillS_len]; omega), if_neg (by omega)]; exact ih (by omega) j (by omega)
    · exact ih (by omega) j (by omega)

theorem fillS_stop (ps qs : List Int) (l : Int) (k : Nat) (h : (fillS ps qs l k).2 ≤ 0) : ∀ m, fillS ps qs l (k + m) = fillS ps qs l k := by
  intro m
  induction m with
  | zero => rfl
  | succ m ih =>
    rw [show k + (m + 1) = (k + m) + 1 by omega, fillS, ih, if_neg (by omega)]

/-- the parts of a flow -/
def splitL (zs : List Int) (f d : Int) : List Int :=
  if f = 0 then List.replicate zs.length 0 else (fillS (drv zs (d - 1)) (drv zs d) (f - sum0 (drv zs (d - 1))) zs.length).1
theorem splitL_len (zs : List Int) (f d : Int) : (splitL zs f d).length = zs.length := by
  unfold splitL
  split
  · simp
  · rw [fillS_len, drv_len]

theorem fillS_le (ps qs : List Int) (l : Int) (B : Int) (hp : ∀ j, 0 ≤ ig ps j ∧ ig ps j ≤ B) (k : Nat) (hk : k ≤ ps.length) : ∀ j, 0 ≤ ig (fillS ps qs l k).1 j ∧ ig (fillS ps qs l k).1 j ≤ B + 1 := by
  induction k with
  | zero => intro j; have := hp j; exact ⟨this.1, by show ig ps j ≤ B + 1; omega⟩
  | succ k ih =>
    intro j
    unfold fillS
    split
    · rw [ig_set (by rw [fillS_len]; omega)]
      split
      · have a := fillS_ahead ps qs l k (by omega) k (Nat.le_refl _)
        have := hp k
        omega
      · exact ih (by omega) j
    · exact ih (by omega) j

theorem ig_drv_bound {zs : List Int} {d : Int} (hr : Res zs) (h0 : 0 ≤ d) (h1 : d ≤ 1000000000000000000) (j : Nat) : 0 ≤ ig (drv zs d) j ∧ ig (drv zs d) j ≤ 1000000000 := by
  rcases Nat.lt_or_ge j zs.length with hj | hj
  · rw [drv_ig hj]; exact root_bound h0 h1 (hr.at_ hj).1
  · rw [ig_ge (by rw [drv_len]; exact hj)]; omega

theorem sum0_take_succ {zs : List Int} {k : Nat} (h : k < zs.length) : sum0 (zs.take (k + 1)) = sum0 (zs.take k) + ig zs k := by
  rw [take_snoc_ig h, sum0_append, sum0_cons, sum0_nil]; omega
theorem sum0_bound {zs : List Int} {B : Int} (h : ∀ z ∈ zs, 0 ≤ z ∧ z ≤ B) : 0 ≤ sum0 zs ∧ sum0 zs ≤ zs.length * B := by
  induction zs with
  | nil => simp [sum0]
  | cons z zs ih =>
    rw [sum0_cons]
    have h1 := h z (List.mem_cons_self ..)
    have h2 := ih (fun x hx => h x (List.mem_cons_of_mem _ hx))
    have hl : ((z :: zs).length : Int) * B = zs.length * B + B := by rw [List.length_cons]; push_cast; rw [Int.add_mul]; omega
    omega
theorem drv_mem {zs : List Int} {d : Int} (hr : Res zs) (h0 : 0 ≤ d) (h1 : d ≤ 1000000000000000000) : ∀ z ∈ drv zs d, 0 ≤ z ∧ z ≤ 1000000000 := by
  intro z hz
  obtain ⟨k, hk, rfl⟩ := List.mem_map.1 (show z ∈ zs.map (fun k => rt (d / k)) from hz)
  exact root_bound h0 h1 (hr k hk).1
theorem drv_take_sum {zs : List Int} {d : Int} (hr : Res zs) (h0 : 0 ≤ d) (h1 : d ≤ 1000000000000000000) (hn : zs.length ≤ 8) (k : Nat) : 0 ≤ sum0 ((drv zs d).take k) ∧ sum0 ((drv zs d).take k) ≤ 8000000000 := by
  have h := sum0_bound (zs := (drv zs d).take k) (B := 1000000000) (fun z hz => drv_mem hr h0 h1 z (List.mem_of_mem_take hz))
  have : ((drv zs d).take k).length ≤ 8 := by rw [List.length_take, drv_len]; omega
  omega

theorem fillS_left (ps qs : List Int) (l : Int) (k : Nat) : (fillS ps qs l k).2 ≤ l ∧ l - k ≤ (fillS ps qs l k).2 := by
  induction k with
  | zero => simp [fillS]
  | succ k ih =>
    unfold fillS
    split
    · simp only; omega
    · omega

theorem dropR_zero {zs : List Int} {f d : Int} (hok : (dropR zs f d).2 = 0) : codeR zs = 0 ∧ inB f 0 30000 = true := by
  unfold dropR at hok
  split at hok
  · rename_i hz
    split at hok
    · rename_i h; exact ⟨hz, h⟩
    · simp at hok
  · exact absurd hok ‹_›
theorem par_zero' {zs : List Int} (hr : Res zs) (hn : zs.length ≤ 8) : par zs 0 = 0 := by
  rw [par_eq hr hn (by omega) (by omega)]
  have : ∀ zs : List Int, sum0 (drv zs 0) = 0 := by
    intro zs
    induction zs with
    | nil => rfl
    | cons z zs ih =>
      have e : rt 0 = 0 := (rt_unique (by omega) (by omega) (by omega)).symm
      simp only [drv, List.map_cons, sum0_cons, Int.zero_ediv, e] at ih ⊢
      omega
  exact this zs

theorem fillS_part (ps qs : List Int) (l : Int) (k : Nat) (hk : k ≤ ps.length) : ∀ j, ig (fillS ps qs l k).1 j = ig ps j ∨ (ig ps j < ig qs j ∧ ig (fillS ps qs l k).1 j = ig ps j + 1) := by
  induction k with
  | zero => intro j; exact .inl rfl
  | succ k ih =>
    intro j
    unfold fillS
    split
    · rename_i hc
      rw [ig_set (by rw [fillS_len]; omega)]
      split
      · rename_i hj
        subst hj
        have a := fillS_ahead ps qs l k (by omega) k (Nat.le_refl _)
        rw [a] at hc ⊢
        exact .inr ⟨hc.2, rfl⟩
      · exact ih (by omega) j
    · exact ih (by omega) j

theorem sum0_set {zs : List Int} {k : Nat} {z : Int} (h : k < zs.length) : sum0 (zs.set k z) = sum0 zs - ig zs k + z := by
  induction zs generalizing k with
  | nil => simp at h
  | cons y ys ih =>
    cases k with
    | zero => rw [List.set_cons_zero, sum0_cons, sum0_cons]; show z + sum0 ys = y + sum0 ys - y + z; omega
    | succ k =>
      rw [List.set_cons_succ, sum0_cons, sum0_cons, ih (by simpa using h)]
      have : ig (y :: ys) (k + 1) = ig ys k := by simp [ig]
      omega

theorem fillS_sum (ps qs : List Int) (l : Int) (k : Nat) (hk : k ≤ ps.length) : sum0 (fillS ps qs l k).1 = sum0 ps + (l - (fillS ps qs l k).2) := by
  induction k with
  | zero => simp [fillS]
  | succ k ih =>
    have ih := ih (by omega)
    unfold fillS
    split
    · simp only
      rw [sum0_set (by rw [fillS_len]; omega)]
      omega
    · exact ih

theorem fillS_rest (ps qs : List Int) (l : Int) (hl : 0 ≤ l) (hlen : ps.length = qs.length) (hpq : ∀ j, ig ps j ≤ ig qs j ∧ ig qs j ≤ ig ps j + 1) (k : Nat) (hk : k ≤ ps.length) :
    (fillS ps qs l k).2 = max 0 (l - (sum0 (qs.take k) - sum0 (ps.take k))) := by
  induction k with
  | zero => simp [fillS, sum0]; omega
  | succ k ih =>
    have ih := ih (by omega)
    have a := fillS_ahead ps qs l k (by omega) k (Nat.le_refl _)
    have b := hpq k
    rw [sum0_take_succ (by omega), sum0_take_succ (by omega)]
    unfold fillS
    rw [a]
    split
    · simp only; omega
    · omega

theorem rt_succ {m : Int} (h : 0 ≤ m) : rt (m + 1) ≤ rt m + 1 := by
  have a := rt_sq_lt h
  have b := rt_nonneg m
  refine rt_le_of (by omega) (by omega) ?_
  have e : (rt m + 1 + 1) * (rt m + 1 + 1) = (rt m + 1) * (rt m + 1) + 2 * (rt m + 1) + 1 := by
    rw [Int.add_mul (rt m + 1) 1, Int.mul_add (rt m + 1)]; omega
  omega
theorem drv_step {zs : List Int} {d : Int} (hr : Res zs) (h1 : 1 ≤ d) (j : Nat) : ig (drv zs (d - 1)) j ≤ ig (drv zs d) j ∧ ig (drv zs d) j ≤ ig (drv zs (d - 1)) j + 1 := by
  rcases Nat.lt_or_ge j zs.length with hj | hj
  · rw [drv_ig hj, drv_ig hj]
    have hk := (hr.at_ hj).1
    have q0 : 0 ≤ (d - 1) / ig zs j := Int.ediv_nonneg (by omega) (by omega)
    have q1 : (d - 1) / ig zs j ≤ d / ig zs j := Int.ediv_le_ediv (by omega) (by omega)
    have q2 : d / ig zs j ≤ (d - 1) / ig zs j + 1 := by
      have e : (d - 1 + ig zs j) / ig zs j = (d - 1) / ig zs j + 1 := Int.add_ediv_of_dvd_right (Int.dvd_refl _) |>.trans (by rw [Int.ediv_self (by omega)])
      rw [← e]
      exact Int.ediv_le_ediv (by omega) (by omega)
    exact ⟨rt_mono q0 q1, Int.le_trans (rt_mono (by omega) q2) (rt_succ q0)⟩
  · rw [ig_ge (by rw [drv_len]; exact hj), ig_ge (by rw [drv_len]; exact hj)]; omega

/-- the parts add up, and each is what the drop drives, or one less -/
theorem splitL_ok {zs : List Int} {f d : Int} (hr : Res zs) (h1 : 1 ≤ zs.length) (hn : zs.length ≤ 8) (hf : 0 ≤ f) (hf2 : f ≤ 30000) (hL : Least zs f d) :
    sum0 (splitL zs f d) = f ∧ ∀ j, ig (splitL zs f d) j ≤ ig (drv zs d) j ∧ ig (drv zs d) j - 1 ≤ ig (splitL zs f d) j ∧ 0 ≤ ig (splitL zs f d) j := by
  obtain ⟨d0, d1⟩ := hL.bound hr h1 hf hf2
  by_cases h0 : f = 0
  · subst h0
    have e : d = 0 := by
      have := hL.2.1
      simp at this
      omega
    subst e
    have hz : ∀ j, ig (drv zs 0) j = 0 := by
      intro j
      rcases Nat.lt_or_ge j zs.length with hj | hj
      · rw [drv_ig hj, Int.zero_ediv]; exact (rt_unique (by omega) (by omega) (by omega)).symm
      · rw [ig_ge (by rw [drv_len]; exact hj)]
    have hr0 : ∀ (m j : Nat), ig (List.replicate m 0) j = 0 := by
      intro m j; unfold ig; rw [List.getD_eq_getElem?_getD, List.getElem?_replicate]; split <;> rfl
    rw [splitL, if_pos rfl]
    refine ⟨?_, fun j => by rw [hz, hr0]; omega⟩
    have : ∀ m : Nat, sum0 (List.replicate m 0) = 0 := by
      intro m
      induction m with
      | zero => rfl
      | succ m ih => rw [List.replicate_succ, sum0_cons, ih]; omega
    exact this _
  · have hdp : 1 ≤ d := by
      rcases Int.lt_or_le 0 d with h' | h'
      · omega
      · have hd0 : d = 0 := by omega
        subst hd0
        have := hL.2.2.1
        rw [par_zero' hr hn] at this
        omega
    have hlt := hL.2.2.2 (d - 1) (by omega) (by omega)
    have hge := hL.2.2.1
    rw [par_eq hr hn (by omega) (by omega)] at hlt hge
    have hlen : (drv zs (d - 1)).length = zs.length := drv_len _ _
    have hlen2 : (drv zs d).length = zs.length := drv_len _ _
    have hz := fillS_rest (drv zs (d - 1)) (drv zs d) (f - sum0 (drv zs (d - 1))) (by omega) (by omega) (drv_step hr hdp) zs.length (by omega)
    rw [List.take_of_length_le (by omega), List.take_of_length_le (by omega)] at hz
    have hs := fillS_sum (drv zs (d - 1)) (drv zs d) (f - sum0 (drv zs (d - 1))) zs.length (by omega)
    rw [splitL, if_neg h0]
    refine ⟨by omega, fun j => ?_⟩
    have hp := fillS_part (drv zs (d - 1)) (drv zs d) (f - sum0 (drv zs (d - 1))) zs.length (by omega) j
    have hq := drv_step hr hdp j
    have hb := ig_drv_bound hr (d := d - 1) (by omega) (by omega) j
    omega

/-- what SplitFlow gives: the list and the code -/
def splitR (zs : List Int) (f d : Int) : List Int := if (dropR zs f d).2 = 0 then splitL zs f d else []

set_option maxHeartbeats 4000000 in
theorem implSplit_any (A : Option Addr) (n c : Nat) (zs : List Int) (f d : Int) (w : World) (h : Ints w A n c zs) (hd : IsDrop zs f d) :
    Calls Try.prog 17 #[.slice A n c, .int .i64 f] w fun e w' => ∃ A' c', e = .returned (.tuple #[.slice A' (splitR zs f d).length c', .int .i64 (dropR zs f d).2]) ∧ Own w' A' (splitR zs f d).length c' (splitR zs f d) ∧ Fresh w.heap.size A' ∧ Below w.heap.size w w' := by
  by_cases hok : (dropR zs f d).2 = 0
  · have hz : codeR zs = 0 := by
      unfold dropR at hok
      split at hok
      · assumption
      · exact absurd hok ‹_›
    have hfb : inB f 0 30000 = true := by
      unfold dropR at hok
      rw [if_pos hz] at hok
      split at hok
      · assumption
      · simp at hok
    have hL := hd hz hfb
    obtain ⟨l1, l8, hr⟩ := codeR_ok hz
    obtain ⟨f0, f1⟩ := inB_iff.1 hfb
    obtain ⟨d0, d1⟩ := hL.bound hr l1 f0 f1
    have E := dropR_ok (d := d) hz hfb
    have hlen := h.len
    have HE : splitR zs f d = splitL zs f d := by unfold splitR; rw [if_pos hok]
    have hsl := splitL_len zs f d
    rw [HE, hsl, E, hlen]
    have HLEN := Lib.hid hlen
    have HL := Lib.hid hL
    have HD := Lib.hid hd
    have HEE := Lib.hid E
    have hn8 : n ≤ 8 := by omega
    have hn1 : 1 ≤ n := by omega
    clear hlen hok hfb hz hd HE hsl E hL
    by_cases hf0 : f = 0
    · subst hf0
      go_enter Try.func17, Try.ntmps17
      go_wp2_with fail
      refine (implDropFor_any _ _ _ _ _ d _ h HD.out).mono ?_
      rintro e w1 ⟨rfl, b1⟩
      rw [HEE.out]
      have hs1 := b1.size
      go_wp2_with (at_make; refine law_make _ rfl _ _ rfl n _ _ rfl rfl rfl rfl (by omega) ?_; intro w2 ho2 hb2 hs2)
      go_ret2
      refine ⟨_, _, rfl, ?_, (by intro a ha; injection ha with ha; subst ha; exact hs1), below_step b1 hb2⟩
      rw [splitL, if_pos rfl, HLEN.out]; exact ho2
    · have hf0' : (f == 0) = false := by simp [hf0]
      have hdp : 1 ≤ d := by
        rcases Int.lt_or_le 0 d with h' | h'
        · omega
        · have hd0 : d = 0 := by omega
          subst hd0
          have := HL.out.2.2.1
          have hp : par zs 0 = 0 := by
            rw [par_eq hr l8 (by omega) (by omega)]
            have : ∀ zs : List Int, sum0 (drv zs 0) = 0 := by
              intro zs
              induction zs with
              | nil => rfl
              | cons z zs ih =>
                have e : rt 0 = 0 := (rt_unique (by omega) (by omega) (by omega)).symm
                simp only [drv, List.map_cons, sum0_cons, Int.zero_ediv, e] at ih ⊢
                omega
            exact this zs
          omega
      have HSP : Hid (splitL zs f d = (fillS (drv zs (d - 1)) (drv zs d) (f - sum0 (drv zs (d - 1))) n).1) := by unfold splitL; rw [if_neg hf0, HLEN.out]; rfl
      have hS : sumW (drv zs (d - 1)) = sum0 (drv zs (d - 1)) := par_eq hr l8 (by omega) (by omega)
      have HS := Lib.hid hS
      have hsb := drv_take_sum hr (d := d - 1) (by omega) (by omega) l8 (drv zs (d - 1)).length
      rw [List.take_length] at hsb
      have HDL := Lib.hid (drv_len zs)
      clear hS hf0
      go_enter Try.func17, Try.ntmps17
      go_wp2_with fail
      refine (implDropFor_any _ _ _ _ _ d _ h HD.out).mono ?_
      rintro e w1 ⟨rfl, b1⟩
      rw [HEE.out]
      go_wp2_with fail
      refine (drivenFlows_any _ _ _ _ _ _ (h.later b1) (by omega) hr (by omega) (by omega)).mono ?_
      rintro e w2 ⟨A2, c2, rfl, o2, f2, b2⟩
      go_wp2_with fail
      refine (sumOf_any _ _ _ _ _ o2.ints).mono ?_
      rintro e w' ⟨rfl, rfl⟩
      rw [HS.out]
      have hi12 := h.later (below_step b1 b2)
      go_wp2_with fail
      refine (drivenFlows_any _ _ _ _ _ _ hi12 (by omega) hr (by omega) (by omega)).mono ?_
      rintro e w3 ⟨A3, c3, rfl, o3, f3, b3⟩
      have o2' := o2.later b3
      obtain ⟨G, rfl, hG⟩ := o2'.pos (by omega)
      have hG2 : G < w2.heap.size := o2.lt _ rfl
      have hGf : w1.heap.size ≤ G := f2 _ rfl
      have b13 := below_step (below_step b1 b2) b3
      have hs12 := b1.size
      have hs23 := b2.size
      clear HS hi12 o2 b1 b2
      go_wp2_with fail
      go_loopw [9, 38] (fun q i wr => ∃ j : Nat, j ≤ n ∧ q = .int .i64 (fillS (drv zs (d - 1)) (drv zs d) (f - sum0 (drv zs (d - 1))) j).2 ∧ i = .int .i64 j ∧ Own wr (some ⟨G, 0, none⟩) n c2 (fillS (drv zs (d - 1)) (drv zs d) (f - sum0 (drv zs (d - 1))) j).1 ∧ Ints wr A3 n c3 (drv zs d) ∧ Below w.heap.size w wr) (fun _ i _ => n - (intOf i).toNat)
      case atStart => exact ⟨0, by omega, rfl, rfl, o2', o3.ints, b13⟩
      case round =>
        obtain ⟨j, hj, rfl, rfl, ho, hi, hb⟩ := hrel
        by_cases hlt : j < n
        · obtain ⟨b, off, rfl, hbl, hc⟩ := hi.cells (by omega)
          have hck := hc j hlt
          have hold := ho.cell hlt
          have hfr := ho.unfrozen j
          have hq := fillS_left (drv zs (d - 1)) (drv zs d) (f - sum0 (drv zs (d - 1))) j
          obtain ⟨hq1, hq2⟩ := hq
          have hv := fillS_le (drv zs (d - 1)) (drv zs d) (f - sum0 (drv zs (d - 1))) 1000000000 (fun j => ig_drv_bound hr (by omega) (by omega) j) j (by rw [HDL.out, HLEN.out]; omega) j
          obtain ⟨hv1, hv2⟩ := hv
          have hb3 : w2.heap.size ≤ b := f3 _ rfl
          have hbG : b ≠ G := by omega
          clear hc
          by_cases hp : 0 < (fillS (drv zs (d - 1)) (drv zs d) (f - sum0 (drv zs (d - 1))) j).2
          · by_cases hc2 : ig (fillS (drv zs (d - 1)) (drv zs d) (f - sum0 (drv zs (d - 1))) j).1 j < ig (drv zs d) j
            · have hstep : fillS (drv zs (d - 1)) (drv zs d) (f - sum0 (drv zs (d - 1))) (j + 1) = ((fillS (drv zs (d - 1)) (drv zs d) (f - sum0 (drv zs (d - 1))) j).1.set j (ig (fillS (drv zs (d - 1)) (drv zs d) (f - sum0 (drv zs (d - 1))) j).1 j + 1), (fillS (drv zs (d - 1)) (drv zs d) (f - sum0 (drv zs (d - 1))) j).2 - 1) := by rw [fillS, if_pos ⟨hp, hc2⟩]
              have HST := Lib.hid hstep
              have hst := ho.store j (z := ig (fillS (drv zs (d - 1)) (drv zs d) (f - sum0 (drv zs (d - 1))) j).1 j + 1) ⟨by omega, by omega⟩
              have HSO := Lib.hid hst
              have hi' : Ints (wr.setCell ⟨G, j, none⟩ (.int .i64 (ig (fillS (drv zs (d - 1)) (drv zs d) (f - sum0 (drv zs (d - 1))) j).1 j + 1))) (some ⟨b, off, none⟩) n c3 (drv zs d) :=
                hi.keep (by simp [World.setCell]) fun a ha => by injection ha with ha; subst ha; exact Below.heap_setCell wr ⟨G, j, none⟩ _ b hbG
              have HI := Lib.hid hi'
              clear hstep hst hi'
              go_wp2_with fail
              go_roundw
              case rel => exact ⟨j + 1, by omega, by rw [HST.out], by go_num, by rw [HST.out]; exact HSO.out, HI.out, hb.setCell (by show w.heap.size ≤ G; omega) _⟩
              case measure => simp [intOf]; omega
            · have hstep : fillS (drv zs (d - 1)) (drv zs d) (f - sum0 (drv zs (d - 1))) (j + 1) = fillS (drv zs (d - 1)) (drv zs d) (f - sum0 (drv zs (d - 1))) j := by rw [fillS, if_neg (fun h => hc2 h.2)]
              have HST := Lib.hid hstep
              clear hstep
              go_wp2_with fail
              go_roundw
              case rel => exact ⟨j + 1, by omega, by rw [HST.out], by go_num, by rw [HST.out]; exact ho, hi, hb⟩
              case measure => simp [intOf]; omega
          · have hstep : fillS (drv zs (d - 1)) (drv zs d) (f - sum0 (drv zs (d - 1))) (j + 1) = fillS (drv zs (d - 1)) (drv zs d) (f - sum0 (drv zs (d - 1))) j := by rw [fillS, if_neg (fun h => hp h.1)]
            have HST := Lib.hid hstep
            clear hstep
            go_wp2_with fail
            go_roundw
            case rel => exact ⟨j + 1, by omega, by rw [HST.out], by go_num, by rw [HST.out]; exact ho, hi, hb⟩
            case measure => simp [intOf]; omega
        · have hjn : j = n := by omega
          subst hjn
          go_wp2_with fail
          go_ret2
          refine ⟨_, _, rfl, by rw [HSP.out]; exact ho, (by intro a ha; injection ha with ha; subst ha; show w.heap.size ≤ G; omega), hb⟩
  · have hne : ((dropR zs f d).2 != 0) = true := by simp [hok]
    have hs : splitR zs f d = [] := by unfold splitR; rw [if_neg hok]
    rw [hs]
    have HD := Lib.hid hd
    clear hd hok hs
    go_enter Try.func17, Try.ntmps17
    go_wp2_with fail
    refine (implDropFor_any _ _ _ _ _ d _ h HD.out).mono ?_
    rintro e w1 ⟨rfl, b1⟩
    go_wp2_with fail
    go_ret2
    exact ⟨none, 0, rfl, Own.nil, (by intro a ha; cases ha), b1⟩

theorem least_zero {zs : List Int} {d : Int} (h : Least zs 0 d) : d = 0 := by
  rcases Int.lt_or_le 0 d with h' | h'
  · have h1 := h.2.1
    simp at h1
    omega
  · have := h.1; omega

set_option maxHeartbeats 4000000 in
theorem specSplit_any (A : Option Addr) (n c : Nat) (zs : List Int) (f d : Int) (w : World) (h : Ints w A n c zs) (hd : IsDrop zs f d) :
    Calls Try.prog 15 #[.slice A n c, .int .i64 f] w fun e w' => ∃ A' c', e = .returned (.tuple #[.slice A' (splitR zs f d).length c', .int .i64 (dropR zs f d).2]) ∧ Own w' A' (splitR zs f d).length c' (splitR zs f d) ∧ Fresh w.heap.size A' ∧ Below w.heap.size w w' := by
  by_cases hok : (dropR zs f d).2 = 0
  · obtain ⟨hz, hfb⟩ := dropR_zero hok
    have hL := hd hz hfb
    obtain ⟨l1, l8, hr⟩ := codeR_ok hz
    obtain ⟨f0, f1⟩ := inB_iff.1 hfb
    obtain ⟨d0, d1⟩ := hL.bound hr l1 f0 f1
    have E := dropR_ok (d := d) hz hfb
    have hlen := h.len
    have HE : splitR zs f d = splitL zs f d := by unfold splitR; rw [if_pos hok]
    have hsl := splitL_len zs f d
    rw [HE, hsl, E, hlen]
    have HLEN := Lib.hid hlen
    have HL := Lib.hid hL
    have HD := Lib.hid hd
    have HEE := Lib.hid E
    have hn8 : n ≤ 8 := by omega
    have hn1 : 1 ≤ n := by omega
    have HDL := Lib.hid (drv_len zs)
    clear hlen hok hfb hz hd HE hsl E hL
    by_cases hf0 : f = 0
    · subst hf0
      have hd0 := least_zero HL.out
      subst hd0
      go_enter Try.func15, Try.ntmps15
      go_wp2_with fail
      refine (specDropFor_any _ _ _ _ _ 0 _ h HD.out).mono ?_
      rintro e w' ⟨rfl, rfl⟩
      rw [HEE.out]
      go_wp2_with (at_make; refine law_make _ rfl _ _ rfl n _ _ rfl rfl rfl rfl (by omega) ?_; intro w2 ho2 hb2 hs2)
      refine wp_loop_rounds 1 ?_
      rw [rounds_succ]
      go_wp2_with fail
      refine wp_loop_rounds 1 ?_
      rw [rounds_succ]
      go_wp2_with fail
      go_ret2
      refine ⟨_, _, rfl, ?_, (by intro a ha; injection ha with ha; subst ha; exact Nat.le_refl _), hb2⟩
      rw [splitL, if_pos rfl, HLEN.out]; exact ho2
    · have hdp : 1 ≤ d := by
        rcases Int.lt_or_le 0 d with h' | h'
        · omega
        · have hd0 : d = 0 := by omega
          subst hd0
          have := HL.out.2.2.1
          rw [par_zero' hr l8] at this
          omega
      have HSP : Hid (splitL zs f d = (fillS (drv zs (d - 1)) (drv zs d) (f - sum0 (drv zs (d - 1))) n).1) := by unfold splitL; rw [if_neg hf0, HLEN.out]; rfl
      have hf0' : (f == 0) = false := by simp [hf0]
      clear hf0
      go_enter Try.func15, Try.ntmps15
      go_wp2_with fail
      refine (specDropFor_any _ _ _ _ _ d _ h HD.out).mono ?_
      rintro e w' ⟨rfl, rfl⟩
      rw [HEE.out]
      go_wp2_with (at_make; refine law_make _ rfl _ _ rfl n _ _ rfl rfl rfl rfl (by omega) ?_; intro w2 ho2 hb2 hs2)
      go_loopw [9, 10] (fun q i wr => ∃ j : Nat, j ≤ n ∧ q = .int .i64 (f - sum0 ((drv zs (d - 1)).take j)) ∧ i = .int .i64 j ∧ Own wr (some ⟨w.heap.size, 0, none⟩) n n ((drv zs (d - 1)).take j ++ List.replicate (n - j) 0) ∧ Below w.heap.size w wr) (fun _ i _ => n - (intOf i).toNat)
      case atStart => exact ⟨0, by omega, by simp [sum0], rfl, by simpa using ho2, hb2⟩
      case round =>
        obtain ⟨j, hj, rfl, rfl, ho, hb⟩ := hrel
        have hsum := drv_take_sum hr (d := d - 1) (by omega) (by omega) l8 j
        obtain ⟨s0, s1⟩ := hsum
        by_cases hlt : j < n
        · obtain ⟨b, off, rfl, hbl, hc⟩ := (h.later hb).cells (by omega)
          have hck := hc j hlt
          have hold := ho.cell hlt
          have hfr := ho.unfrozen j
          have hjl : j < zs.length := by rw [HLEN.out]; exact hlt
          obtain ⟨r1, r2⟩ := hr.at_ hjl
          have hbd := ig_drv_bound hr (d := d - 1) (by omega) (by omega) j
          obtain ⟨v0, v1⟩ := hbd
          have hbw : b < w.heap.size := by obtain ⟨b', off', e, hb', _⟩ := h.cells (by omega); injection e with e; injection e with e; omega
          have hst := ho.store j (z := ig (drv zs (d - 1)) j) ⟨by omega, by omega⟩
          rw [set_prefix (by rw [HDL.out, HLEN.out]) hlt] at hst
          have hcn := hst.cell hlt
          have HSUM := Lib.hid (sum0_take_succ (zs := drv zs (d - 1)) (k := j) (by rw [HDL.out]; exact hjl))
          have hign : ig ((drv zs (d - 1)).take (j + 1) ++ List.replicate (n - (j + 1)) 0) j = ig (drv zs (d - 1)) j := by
            unfold ig
            rw [List.getD_eq_getElem?_getD, List.getElem?_append_left (by rw [List.length_take, HDL.out]; omega), List.getElem?_take_of_lt (by omega), List.getD_eq_getElem?_getD]
          rw [hign] at hcn
          rw [drv_ig hjl] at hst hcn v0 v1
          have HSUM' : Hid (sum0 ((drv zs (d - 1)).take (j + 1)) = sum0 ((drv zs (d - 1)).take j) + rt ((d - 1) / ig zs j)) := by rw [HSUM.out, drv_ig hjl]; rfl
          have HST := Lib.hid hst
          have HCN := Lib.hid hcn
          clear hc hst hcn HSUM hign hjl
          go_wp2_with (go_at_call 58; refine (l09Flow_any _ _ _ (by omega) (by omega) (by omega)).mono ?_; rintro e w' ⟨rfl, rfl⟩)
          go_roundw
          case rel => exact ⟨j + 1, by omega, by rw [HSUM'.out]; go_num, by go_num, HST.out, hb.setCell (Nat.le_refl _) _⟩
          case measure => simp [intOf]; omega
        · have hjn : j = n := by omega
          subst hjn
          have htk : (drv zs (d - 1)).take j = drv zs (d - 1) := List.take_of_length_le (by rw [HDL.out, HLEN.out]; omega)
          rw [htk] at s0 s1 ho ⊢
          rw [Nat.sub_self, List.replicate_zero, List.append_nil] at ho
          clear htk ho2 hb2
          go_wp2_with fail
          go_loopw [9, 11] (fun q i wr => ∃ k : Nat, k ≤ j ∧ q = .int .i64 (fillS (drv zs (d - 1)) (drv zs d) (f - sum0 (drv zs (d - 1))) k).2 ∧ i = .int .i64 k ∧ Own wr (some ⟨w.heap.size, 0, none⟩) j j (fillS (drv zs (d - 1)) (drv zs d) (f - sum0 (drv zs (d - 1))) k).1 ∧ Below w.heap.size w wr) (fun _ i _ => j - (intOf i).toNat)
          case atStart => exact ⟨0, by omega, rfl, rfl, ho, hb⟩
          case round =>
            clear ho hb
            obtain ⟨k, hk, rfl, rfl, ho, hb⟩ := hrel
            by_cases hp : 0 < (fillS (drv zs (d - 1)) (drv zs d) (f - sum0 (drv zs (d - 1))) k).2
            · by_cases hlt : k < j
              · obtain ⟨b, off, rfl, hbl, hc⟩ := (h.later hb).cells (by omega)
                have hck := hc k hlt
                have hold := ho.cell hlt
                have hfr := ho.unfrozen k
                have hjl : k < zs.length := by rw [HLEN.out]; exact hlt
                obtain ⟨r1, r2⟩ := hr.at_ hjl
                obtain ⟨hq1, hq2⟩ := fillS_left (drv zs (d - 1)) (drv zs d) (f - sum0 (drv zs (d - 1))) k
                obtain ⟨hv1, hv2⟩ := fillS_le (drv zs (d - 1)) (drv zs d) (f - sum0 (drv zs (d - 1))) 1000000000 (fun j => ig_drv_bound hr (by omega) (by omega) j) k (by rw [HDL.out, HLEN.out]; omega) k
                have HDI := Lib.hid (drv_ig (d := d) hjl)
                have hki : (k : Int) < (j : Int) := by omega
                clear hc hjl
                by_cases hc2 : ig (fillS (drv zs (d - 1)) (drv zs d) (f - sum0 (drv zs (d - 1))) k).1 k < rt (d / ig zs k)
                · have hstep : fillS (drv zs (d - 1)) (drv zs d) (f - sum0 (drv zs (d - 1))) (k + 1) = ((fillS (drv zs (d - 1)) (drv zs d) (f - sum0 (drv zs (d - 1))) k).1.set k (ig (fillS (drv zs (d - 1)) (drv zs d) (f - sum0 (drv zs (d - 1))) k).1 k + 1), (fillS (drv zs (d - 1)) (drv zs d) (f - sum0 (drv zs (d - 1))) k).2 - 1) := by rw [fillS, if_pos ⟨hp, by rw [HDI.out]; exact hc2⟩]
                  have HST := Lib.hid hstep
                  have HSO := Lib.hid (ho.store k (z := ig (fillS (drv zs (d - 1)) (drv zs d) (f - sum0 (drv zs (d - 1))) k).1 k + 1) ⟨by omega, by omega⟩)
                  clear hstep
                  go_wp2_with fail
                  go_quiet ((go_at_call 58; exact quiet_left (l09Flow_any _ _ _ (by omega) (by omega) (by omega))))
                  go_wp2_with fail
                  go_roundw
                  case rel => exact ⟨k + 1, by omega, by rw [HST.out], by go_num, by rw [HST.out]; exact HSO.out.keep (fun _ _ => rfl), (below_drew hb _).setCell (Nat.le_refl _) _⟩
                  case measure => simp [intOf]; omega
                · have hstep : fillS (drv zs (d - 1)) (drv zs d) (f - sum0 (drv zs (d - 1))) (k + 1) = fillS (drv zs (d - 1)) (drv zs d) (f - sum0 (drv zs (d - 1))) k := by rw [fillS, if_neg (fun h => hc2 (by rw [← HDI.out]; exact h.2))]
                  have HST := Lib.hid hstep
                  clear hstep
                  go_wp2_with fail
                  go_quiet ((go_at_call 58; exact quiet_left (l09Flow_any _ _ _ (by omega) (by omega) (by omega))))
                  go_wp2_with fail
                  go_roundw
                  case rel => exact ⟨k + 1, by omega, by rw [HST.out], by go_num, by rw [HST.out]; exact ho.keep (fun _ _ => rfl), below_drew hb _⟩
                  case measure => simp [intOf]; omega
              · have hkj : k = j := by omega
                subst hkj
                go_wp2_with fail
                go_ret2
                exact ⟨_, _, rfl, by rw [HSP.out]; exact ho, (by intro a ha; injection ha with ha; subst ha; exact Nat.le_refl _), hb⟩
            · have hstop := fillS_stop (drv zs (d - 1)) (drv zs d) (f - sum0 (drv zs (d - 1))) k (by omega) (j - k)
              rw [show k + (j - k) = j by omega] at hstop
              have HSTOP := Lib.hid hstop
              clear hstop
              by_cases hlt : k < j
              all_goals
                go_wp2_with fail
                go_ret2
                exact ⟨_, _, rfl, by rw [HSP.out, HSTOP.out]; exact ho, (by intro a ha; injection ha with ha; subst ha; exact Nat.le_refl _), hb⟩
  · have hne : ((dropR zs f d).2 != 0) = true := by simp [hok]
    have hs : splitR zs f d = [] := by unfold splitR; rw [if_neg hok]
    rw [hs]
    have HD := Lib.hid hd
    clear hd hok hs
    go_enter Try.func15, Try.ntmps15
    go_wp2_with fail
    refine (specDropFor_any _ _ _ _ _ d _ h HD.out).mono ?_
    rintro e w' ⟨rfl, rfl⟩
    go_wp2_with fail
    go_ret2
    exact ⟨none, 0, rfl, Own.nil, (by intro a ha; cases ha), Below.refl _ _⟩

end Go.Proofs.Ytlinofehnpmbgaa
