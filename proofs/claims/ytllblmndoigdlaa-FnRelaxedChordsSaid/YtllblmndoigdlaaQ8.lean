/- plain facts: the best multiple of a cycle -/
import Derived.Test.YtllblmndoigdlaaQa
namespace Go.Proofs.Ytllblmndoigdlaa

/-! ### convexity -/
def cub (x : Int) : Int := ab x * ab x * ab x
theorem enr_cub (k q : Int) : enr k q = k * cub q := by unfold enr cub; grind
theorem cub_conv (x : Int) : 0 < cub (x + 1) - 2 * cub x + cub (x - 1) := by
  unfold cub ab
  by_cases h : 1 ≤ x
  · rw [if_neg (by omega), if_neg (by omega), if_neg (by omega)]
    have e : (x + 1) * (x + 1) * (x + 1) - 2 * (x * x * x) + (x - 1) * (x - 1) * (x - 1) = 6 * x := by grind
    rw [e]; omega
  · by_cases h0 : x = 0
    · subst h0; decide
    · rw [if_pos (show x < 0 by omega), if_pos (show x - 1 < 0 by omega)]
      by_cases h1 : x = -1
      · subst h1; decide
      · rw [if_pos (show x + 1 < 0 by omega)]
        have e : -(x + 1) * -(x + 1) * -(x + 1) - 2 * (-x * -x * -x) + -(x - 1) * -(x - 1) * -(x - 1) = -6 * x := by grind
        rw [e]; omega
def Conv (f : Int → Int) : Prop := ∀ a, f a - f (a - 1) < f (a + 1) - f a
theorem sumTo_nn {f : Nat → Int} {k : Nat} (h : ∀ j, j < k → 0 ≤ f j) : 0 ≤ sumTo f k := by
  induction k with
  | zero => exact Int.le_refl _
  | succ k ih => rw [sumTo_succ]; have := ih fun j hj => h j (by omega); have := h k (by omega); omega
theorem sumTo_pos {f : Nat → Int} {k j : Nat} (h : ∀ j, j < k → 0 ≤ f j) (hj : j < k) (hp : 0 < f j) : 0 < sumTo f k := by
  induction k with
  | zero => omega
  | succ k ih =>
    rw [sumTo_succ]
    have h1 := sumTo_nn (f := f) (k := k) fun j hj => h j (by omega)
    have h2 := h k (by omega)
    by_cases e : j = k
    · subst e; omega
    · have := ih (fun j hj => h j (by omega)) (by omega); omega
/-- the energy after adding a multiple of a cycle -/
def enA (net : Net) (zs cs : List Int) (a : Int) : Int := eng net.pipes (addL zs cs a) net.pipes.length
theorem enA_conv {net : Net} {zs cs : List Int} (hv : netB net = true) (hl : cs.length = zs.length) (hc : Cyc net cs) {c : Nat} (h0 : c < net.pipes.length) (h1 : ig cs c ≠ 0) : Conv (enA net zs cs) := by
  intro a
  have e : sumTo (fun j => enr (pp net.pipes j).k (ig (addL zs cs (a + 1)) j) - 2 * enr (pp net.pipes j).k (ig (addL zs cs a) j) + enr (pp net.pipes j).k (ig (addL zs cs (a - 1)) j)) net.pipes.length = enA net zs cs (a + 1) - 2 * enA net zs cs a + enA net zs cs (a - 1) := by
    rw [sumTo_add, sumTo_sub, sumTo_mul]; rfl
  have key : ∀ j, j < net.pipes.length → (ig cs j = 0 → enr (pp net.pipes j).k (ig (addL zs cs (a + 1)) j) - 2 * enr (pp net.pipes j).k (ig (addL zs cs a) j) + enr (pp net.pipes j).k (ig (addL zs cs (a - 1)) j) = 0) ∧
      (ig cs j ≠ 0 → 0 < enr (pp net.pipes j).k (ig (addL zs cs (a + 1)) j) - 2 * enr (pp net.pipes j).k (ig (addL zs cs a) j) + enr (pp net.pipes j).k (ig (addL zs cs (a - 1)) j)) := by
    intro j hj
    rw [addL_ig' hl, addL_ig' hl, addL_ig' hl, enr_cub, enr_cub, enr_cub]
    have hk := netB_pipe_at hv hj
    refine ⟨fun h => by rw [h]; simp; omega, fun h => ?_⟩
    have hcv := cub_conv (ig zs j + a * ig cs j)
    have e2 : (pp net.pipes j).k * (cub (ig zs j + a * ig cs j + 1) - 2 * cub (ig zs j + a * ig cs j) + cub (ig zs j + a * ig cs j - 1)) = (pp net.pipes j).k * cub (ig zs j + (a + 1) * ig cs j) - 2 * ((pp net.pipes j).k * cub (ig zs j + a * ig cs j)) + (pp net.pipes j).k * cub (ig zs j + (a - 1) * ig cs j) := by
      rcases hc.u j with hu | hu | hu
      · rw [hu, show ig zs j + (a + 1) * -1 = ig zs j + a * -1 - 1 by omega, show ig zs j + (a - 1) * -1 = ig zs j + a * -1 + 1 by omega]; grind
      · exact absurd hu h
      · rw [hu, show ig zs j + (a + 1) * 1 = ig zs j + a * 1 + 1 by omega, show ig zs j + (a - 1) * 1 = ig zs j + a * 1 - 1 by omega]; grind
    rw [← e2]
    exact Int.mul_pos (by omega) hcv
  have := sumTo_pos (f := fun j => enr (pp net.pipes j).k (ig (addL zs cs (a + 1)) j) - 2 * enr (pp net.pipes j).k (ig (addL zs cs a) j) + enr (pp net.pipes j).k (ig (addL zs cs (a - 1)) j)) (fun j hj => by
    by_cases h : ig cs j = 0
    · exact Int.le_of_eq ((key j hj).1 h).symm
    · exact Int.le_of_lt ((key j hj).2 h)) h0 ((key c h0).2 h1)
  omega
theorem Conv.up {f : Int → Int} (h : Conv f) {p : Int} (h0 : f p ≤ f (p + 1)) (n : Nat) : f (p + n) ≤ f (p + n + 1) ∧ f p ≤ f (p + n) ∧ f (p + n + 1) < f (p + n + 2) := by
  have st : ∀ x, f x ≤ f (x + 1) → f (x + 1) < f (x + 2) := fun x hx => by
    have := h (x + 1)
    rw [show x + 1 - 1 = x by omega, show x + 1 + 1 = x + 2 by omega] at this
    omega
  induction n with
  | zero => simp; exact ⟨h0, st p h0⟩
  | succ n ih =>
    obtain ⟨a, b, c⟩ := ih
    have e : p + ((n + 1 : Nat) : Int) = p + n + 1 := by omega
    rw [e, show p + (n : Int) + 1 + 1 = p + n + 2 by omega]
    refine ⟨by omega, by omega, ?_⟩
    have := st (p + n + 1) (by rw [show p + (n : Int) + 1 + 1 = p + n + 2 by omega]; omega)
    rw [show p + (n : Int) + 1 + 1 = p + n + 2 by omega] at this
    exact this
theorem Conv.down {f : Int → Int} (h : Conv f) {p : Int} (h0 : f p < f (p - 1)) (n : Nat) : f (p - n) < f (p - n - 1) ∧ f p ≤ f (p - n) := by
  induction n with
  | zero => simp; exact h0
  | succ n ih =>
    have e : p - ((n + 1 : Nat) : Int) = p - n - 1 := by omega
    rw [e]
    have := h (p - n - 1)
    rw [show p - (n : Int) - 1 + 1 = p - n by omega] at this
    omega
/-- the least of the points with the least value between lo and hi -/
structure Pm (f : Int → Int) (lo hi p : Int) : Prop where
  l : lo ≤ p
  r : p ≤ hi
  lt : p = lo ∨ f p < f (p - 1)
  rt : p = hi ∨ f p ≤ f (p + 1)
theorem Pm.none {f : Int → Int} (h : Conv f) {lo hi p q : Int} (a : Pm f lo hi p) (b : Pm f lo hi q) : ¬ p < q := by
  intro hpq
  have h1 := a.rt.resolve_left (by have := b.r; omega)
  have h2 := b.lt.resolve_left (by have := a.l; omega)
  have := (h.up h1 (q - 1 - p).toNat).1
  rw [show p + ((q - 1 - p).toNat : Int) = q - 1 by omega, show q - 1 + 1 = q by omega] at this
  omega
theorem Pm.uniq {f : Int → Int} (h : Conv f) {lo hi p q : Int} (a : Pm f lo hi p) (b : Pm f lo hi q) : p = q := by
  have := a.none h b
  have := b.none h a
  omega
theorem Pm.min {f : Int → Int} (h : Conv f) {lo hi p : Int} (a : Pm f lo hi p) {x : Int} (h1 : lo ≤ x) (h2 : x ≤ hi) : f p ≤ f x := by
  rcases Int.lt_trichotomy x p with hx | hx | hx
  · have h3 := a.lt.resolve_left (by omega)
    have := (h.down h3 (p - x).toNat).2
    rw [show p - ((p - x).toNat : Int) = x by omega] at this
    exact this
  · rw [hx]; omega
  · have h3 := a.rt.resolve_left (by omega)
    have := (h.up h3 (x - p).toNat).2.1
    rw [show p + ((x - p).toNat : Int) = x by omega] at this
    exact this
theorem Pm.ex (f : Int → Int) (lo : Int) (n : Nat) : ∃ p, Pm f lo (lo + n) p := by
  induction n with
  | zero => exact ⟨lo, by omega, by omega, .inl rfl, .inl (by omega)⟩
  | succ n ih =>
    obtain ⟨p, a, b, c, d⟩ := ih
    by_cases hp : p = lo + n
    · by_cases hf : f p ≤ f (p + 1)
      · exact ⟨p, a, by omega, c, .inr hf⟩
      · exact ⟨p + 1, by omega, by omega, .inr (by rw [show p + 1 - 1 = p by omega]; omega), .inl (by omega)⟩
    · exact ⟨p, a, by omega, c, .inr (d.resolve_left hp)⟩
noncomputable def pmin (f : Int → Int) (lo hi : Int) : Int := @Classical.epsilon Int ⟨0⟩ (Pm f lo hi)
theorem pmin_is {f : Int → Int} (h : Conv f) {lo hi p : Int} (a : Pm f lo hi p) : p = pmin f lo hi := a.uniq h (@Classical.epsilon_spec Int (Pm f lo hi) ⟨p, a⟩)
theorem pmin_pm {f : Int → Int} {lo hi : Int} (h : lo ≤ hi) : Pm f lo hi (pmin f lo hi) := by
  obtain ⟨p, hp⟩ := Pm.ex f lo (hi - lo).toNat
  rw [show lo + ((hi - lo).toNat : Int) = hi by omega] at hp
  exact @Classical.epsilon_spec Int (Pm f lo hi) ⟨p, hp⟩
/-- of two points with the least value, that with the lesser absolute value -/
def nearer (f : Int → Int) (hi p : Int) : Int := if p + 1 ≤ hi ∧ f (p + 1) = f p ∧ ab (p + 1) < ab p then p + 1 else p
theorem nearer_val {f : Int → Int} {hi p : Int} : f (nearer f hi p) = f p := by
  unfold nearer; split
  · rename_i h; exact h.2.1
  · rfl

/-! ### the bounds of a multiple -/
def loK (zs cs : List Int) : Nat → Int
  | 0 => -60000
  | k + 1 => if ig cs k = 0 then loK zs cs k else (if loK zs cs k < -30000 - ig cs k * ig zs k then -30000 - ig cs k * ig zs k else loK zs cs k)
def hiK (zs cs : List Int) : Nat → Int
  | 0 => 60000
  | k + 1 => if ig cs k = 0 then hiK zs cs k else (if 30000 - ig cs k * ig zs k < hiK zs cs k then 30000 - ig cs k * ig zs k else hiK zs cs k)
theorem loK_succ (zs cs : List Int) (k : Nat) : loK zs cs (k + 1) = if ig cs k = 0 then loK zs cs k else (if loK zs cs k < -30000 - ig cs k * ig zs k then -30000 - ig cs k * ig zs k else loK zs cs k) := rfl
theorem hiK_succ (zs cs : List Int) (k : Nat) : hiK zs cs (k + 1) = if ig cs k = 0 then hiK zs cs k else (if 30000 - ig cs k * ig zs k < hiK zs cs k then 30000 - ig cs k * ig zs k else hiK zs cs k) := rfl
theorem rng_ok {net : Net} {zs cs : List Int} (hc : Cyc net cs) (a : Int) (k : Nat) : (okK zs cs a k = true ∧ -60000 ≤ a ∧ a ≤ 60000) ↔ (loK zs cs k ≤ a ∧ a ≤ hiK zs cs k) := by
  induction k with
  | zero => simp [okK, loK, hiK]
  | succ k ih =>
    rw [okK_succ, loK_succ, hiK_succ]
    by_cases h0 : ig cs k = 0
    · rw [if_pos h0, if_pos h0, ← ih]; simp [h0]
    · rw [if_neg h0, if_neg h0]
      have e : (inB (ig zs k + ig cs k * a) (-30000) 30000 = true) ↔ (-30000 - ig cs k * ig zs k ≤ a ∧ a ≤ 30000 - ig cs k * ig zs k) := by
        rw [inB_iff']
        rcases hc.u k with h | h | h
        · rw [h]; omega
        · exact absurd h h0
        · rw [h]; omega
      simp only [Bool.and_eq_true, Bool.or_eq_true, decide_eq_true_eq]
      rw [e]
      generalize ig cs k * ig zs k = t at *
      constructor
      · rintro ⟨⟨h1, h2⟩, h3⟩
        have h2 := h2.resolve_left h0
        have := ih.1 ⟨h1, h3⟩
        split <;> split <;> omega
      · intro h
        have h4 : loK zs cs k ≤ a ∧ a ≤ hiK zs cs k ∧ (-30000 - t ≤ a ∧ a ≤ 30000 - t) := by
          revert h; split <;> split <;> omega
        have := ih.2 ⟨h4.1, h4.2.1⟩
        exact ⟨⟨this.1, .inr h4.2.2⟩, this.2⟩
theorem lohi_zero {net : Net} {zs cs : List Int} (hf : flowB net zs = true) (hc : Cyc net cs) (k : Nat) : -60000 ≤ loK zs cs k ∧ loK zs cs k ≤ 0 ∧ 0 ≤ hiK zs cs k ∧ hiK zs cs k ≤ 60000 := by
  induction k with
  | zero => simp [loK, hiK]
  | succ k ih =>
    rw [loK_succ, hiK_succ]
    have hq := flowB_all hf k
    by_cases h0 : ig cs k = 0
    · rw [if_pos h0, if_pos h0]; exact ih
    · rw [if_neg h0, if_neg h0]
      have ht : -30000 ≤ ig cs k * ig zs k ∧ ig cs k * ig zs k ≤ 30000 := by
        rcases hc.u k with h | h | h <;> rw [h] <;> omega
      generalize ig cs k * ig zs k = t at *
      split <;> split <;> omega
/-- with a pipe in the cycle the bounds are those of the flows alone -/
theorem rng_iff {net : Net} {zs cs : List Int} (hf : flowB net zs = true) (hc : Cyc net cs) {c : Nat} (h0 : c < net.pipes.length) (h1 : ig cs c ≠ 0) (a : Int) : okK zs cs a net.pipes.length = true ↔ (loK zs cs net.pipes.length ≤ a ∧ a ≤ hiK zs cs net.pipes.length) := by
  rw [← rng_ok hc]
  refine ⟨fun h => ⟨h, ?_⟩, fun h => h.1⟩
  have h2 := okK_at h h0 h1
  have h3 := flowB_all hf c
  rcases hc.u c with h | h | h
  · rw [h] at h2; omega
  · exact absurd h h1
  · rw [h] at h2; omega
noncomputable def bestL (net : Net) (zs cs : List Int) : Int := nearer (enA net zs cs) (hiK zs cs net.pipes.length) (pmin (enA net zs cs) (loK zs cs net.pipes.length) (hiK zs cs net.pipes.length))
theorem bestL_rng {net : Net} {zs cs : List Int} (hf : flowB net zs = true) (hc : Cyc net cs) : loK zs cs net.pipes.length ≤ bestL net zs cs ∧ bestL net zs cs ≤ hiK zs cs net.pipes.length ∧ -60000 ≤ bestL net zs cs ∧ bestL net zs cs ≤ 60000 := by
  have hl := lohi_zero hf hc net.pipes.length
  have hp := pmin_pm (f := enA net zs cs) (lo := loK zs cs net.pipes.length) (hi := hiK zs cs net.pipes.length) (by omega)
  have := hp.l
  have := hp.r
  unfold bestL nearer
  split <;> omega
theorem bestL_ok {net : Net} {zs cs : List Int} (hf : flowB net zs = true) (hc : Cyc net cs) : okK zs cs (bestL net zs cs) net.pipes.length = true :=
  ((rng_ok hc _ _).2 ⟨(bestL_rng hf hc).1, (bestL_rng hf hc).2.1⟩).1
/-- no other multiple has a smaller energy -/
theorem bestL_min {net : Net} {zs cs : List Int} (hv : netB net = true) (hf : flowB net zs = true) (hc : Cyc net cs) {c : Nat} (h0 : c < net.pipes.length) (h1 : ig cs c ≠ 0) {a : Int} (ha : okK zs cs a net.pipes.length = true) : enA net zs cs (bestL net zs cs) ≤ enA net zs cs a := by
  have hl := lohi_zero hf hc net.pipes.length
  have hp := pmin_pm (f := enA net zs cs) (lo := loK zs cs net.pipes.length) (hi := hiK zs cs net.pipes.length) (by omega)
  have hr := (rng_iff hf hc h0 h1 a).1 ha
  unfold bestL
  rw [nearer_val (f := enA net zs cs)]
  exact hp.min (enA_conv hv (by rw [hc.len, flowB_len hf]) hc h0 h1) hr.1 hr.2

end Go.Proofs.Ytllblmndoigdlaa
