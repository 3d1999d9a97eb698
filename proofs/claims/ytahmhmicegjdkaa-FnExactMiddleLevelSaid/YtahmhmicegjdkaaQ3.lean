/- plain graphs: what flows out; flows through the forest are unique -/
import Derived.Test.YtahmhmicegjdkaaQ2
namespace Go.Proofs.Ytahmhmicegjdkaa

theorem sumTo_zero {f : Nat → Int} {k : Nat} (h : ∀ j, j < k → f j = 0) : sumTo f k = 0 := by
  induction k with
  | zero => rfl
  | succ k ih => rw [sumTo_succ, ih fun j hj => h j (by omega), h k (by omega)]; rfl
theorem sumTo_one {f : Nat → Int} {k i : Nat} (hi : i < k) (h : ∀ j, j < k → j ≠ i → f j = 0) : sumTo f k = f i := by
  induction k with
  | zero => omega
  | succ k ih =>
    rw [sumTo_succ]
    by_cases e : i = k
    · subst e
      rw [sumTo_zero fun j hj => h j (by omega) (by omega)]; omega
    · rw [ih (by omega) fun j hj hne => h j (by omega) hne, h k (by omega) (Ne.symm e)]; omega
theorem sumTo_add (f g : Nat → Int) (k : Nat) : sumTo (fun j => f j + g j) k = sumTo f k + sumTo g k := by
  induction k with
  | zero => rfl
  | succ k ih => rw [sumTo_succ, sumTo_succ, sumTo_succ, ih]; omega
theorem sumTo_sub (f g : Nat → Int) (k : Nat) : sumTo (fun j => f j - g j) k = sumTo f k - sumTo g k := by
  induction k with
  | zero => rfl
  | succ k ih => rw [sumTo_succ, sumTo_succ, sumTo_succ, ih]; omega
theorem sumTo_mul (c : Int) (f : Nat → Int) (k : Nat) : sumTo (fun j => c * f j) k = c * sumTo f k := by
  induction k with
  | zero => simp [sumTo]
  | succ k ih => rw [sumTo_succ, sumTo_succ, ih, Int.mul_add]
theorem sumTo_swap (f : Nat → Nat → Int) (k l : Nat) : sumTo (fun v => sumTo (fun j => f v j) l) k = sumTo (fun j => sumTo (fun v => f v j) k) l := by
  induction k with
  | zero => exact (sumTo_zero fun j _ => rfl).symm
  | succ k ih => rw [sumTo_succ, ih, ← sumTo_add]; rfl

def Gr.trm (g : Gr) (h : Nat → Int) (v j : Nat) : Int := (if g.f j = v then h j else 0) - (if g.t j = v then h j else 0)
def Gr.out (g : Gr) (h : Nat → Int) (v : Nat) : Int := sumTo (g.trm h v) g.m

theorem Gr.trm_far {g : Gr} {h : Nat → Int} {v j : Nat} (a : g.f j ≠ v) (b : g.t j ≠ v) : g.trm h v j = 0 := by unfold Gr.trm; rw [if_neg a, if_neg b]; rfl
theorem Gr.trm_zero {g : Gr} {h : Nat → Int} {v j : Nat} (a : h j = 0) : g.trm h v j = 0 := by unfold Gr.trm; rw [a]; simp
theorem Gr.out_congr {g : Gr} {h h' : Nat → Int} (e : ∀ i, i < g.m → h i = h' i) (v : Nat) : g.out h v = g.out h' v :=
  sumTo_congr fun j hj => by unfold Gr.trm; rw [e j hj]
theorem Gr.out_add (g : Gr) (h h' : Nat → Int) (v : Nat) : g.out (fun i => h i + h' i) v = g.out h v + g.out h' v := by
  unfold Gr.out
  rw [← sumTo_add]
  exact sumTo_congr fun j _ => by unfold Gr.trm; by_cases a : g.f j = v <;> by_cases b : g.t j = v <;> simp [a, b] <;> omega
theorem Gr.out_sub (g : Gr) (h h' : Nat → Int) (v : Nat) : g.out (fun i => h i - h' i) v = g.out h v - g.out h' v := by
  unfold Gr.out
  rw [← sumTo_sub]
  exact sumTo_congr fun j _ => by unfold Gr.trm; by_cases a : g.f j = v <;> by_cases b : g.t j = v <;> simp [a, b] <;> omega
theorem Gr.out_mul (g : Gr) (c : Int) (h : Nat → Int) (v : Nat) : g.out (fun i => c * h i) v = c * g.out h v := by
  unfold Gr.out
  rw [← sumTo_mul]
  exact sumTo_congr fun j _ => by
    unfold Gr.trm
    by_cases a : g.f j = v <;> by_cases b : g.t j = v <;> simp [a, b]
    rw [Int.mul_neg]
theorem Gr.out_nil (g : Gr) (v : Nat) : g.out (fun _ => 0) v = 0 := sumTo_zero fun _ _ => Gr.trm_zero rfl
theorem Gr.out_upd (g : Gr) (h : Nat → Int) {e : Nat} (he : e < g.m) (z : Int) (v : Nat) :
    g.out (upd h e z) v = g.out h v + ((if g.f e = v then z - h e else 0) - (if g.t e = v then z - h e else 0)) := by
  have h1 : g.out (fun i => upd h e z i - h i) v = (if g.f e = v then z - h e else 0) - (if g.t e = v then z - h e else 0) := by
    unfold Gr.out
    rw [sumTo_one he fun j hj hne => Gr.trm_zero (by unfold upd; rw [if_neg (Ne.symm hne)]; omega)]
    unfold Gr.trm upd
    simp
  rw [Gr.out_sub] at h1
  omega

/-- a flow through the forest that leaves nothing at the nodes that are no roots is 0 -/
theorem Gr.uniq {g : Gr} (ok : g.ok) {h : Nat → Int} (hF : ∀ i, i < g.m → ¬ g.F i → h i = 0) (h0 : ∀ v, v < g.n → g.root v ≠ v → g.out h v = 0) : ∀ i, i < g.m → h i = 0 := by
  have key : ∀ k, ∀ v, v < g.n → g.root v ≠ v → g.n - g.rank v ≤ k → ∀ e : Nat, g.fe v = e → h e = 0 := by
    intro k
    induction k with
    | zero => intro v hv _ hk; have := Gr.rank_lt ok hv; omega
    | succ k ih =>
      intro v hv hne hk e he
      obtain ⟨i, y, e1, e2, e3, e4, e5, e6⟩ := Gr.fe_some ok hv hne
      have : i = e := by omega
      subst this
      have hs : g.out h v = g.trm h v i := by
        unfold Gr.out
        refine sumTo_one e2 fun j hj hji => ?_
        by_cases hFj : g.F j
        · by_cases ht : g.f j = v ∨ g.t j = v
          · obtain ⟨u, z, a1, a2, a3, a4, a5, a6, a7, a8⟩ := Gr.F_facts ok hFj
            have : v = u ∨ v = z := by
              rcases a6 with ⟨p, q⟩ | ⟨p, q⟩ <;> omega
            rcases this with rfl | rfl
            · omega
            · exact Gr.trm_zero (ih u a1 a3 (by have := Gr.rank_lt ok a1; omega) j a4)
          · exact Gr.trm_far (fun h => ht (.inl h)) (fun h => ht (.inr h))
        · exact Gr.trm_zero (hF j hj hFj)
      rw [h0 v hv hne] at hs
      have o := ok i e2
      unfold Gr.trm at hs
      rcases e4 with ⟨p, q⟩ | ⟨p, q⟩
      · rw [if_pos p, if_neg (by omega)] at hs; omega
      · rw [if_neg (by omega), if_pos q] at hs; omega
  intro i hi
  by_cases hFi : g.F i
  · obtain ⟨v, y, a1, a2, a3, a4, _⟩ := Gr.F_facts ok hFi
    exact key _ v a1 a3 (Nat.le_refl _) i a4
  · exact hF i hi hFi
theorem Gr.uniq2 {g : Gr} (ok : g.ok) {h h' : Nat → Int} (hF : ∀ i, i < g.m → ¬ g.F i → h i = h' i) (h0 : ∀ v, v < g.n → g.root v ≠ v → g.out h v = g.out h' v) : ∀ i, i < g.m → h i = h' i := by
  intro i hi
  have := Gr.uniq ok (h := fun i => h i - h' i) (fun i hi hn => by have := hF i hi hn; show h i - h' i = 0; omega) (fun v hv hne => by rw [Gr.out_sub, h0 v hv hne]; omega) i hi
  have : h i - h' i = 0 := this
  omega

/-! ### flows through the forest -/
structure Gr.FF (g : Gr) (sup fl : Nat → Int) : Prop where
  supp : ∀ i, i < g.m → ¬ g.F i → fl i = 0
  bal : ∀ v, v < g.n → g.root v ≠ v → g.out fl v = sup v
theorem Gr.FF.uniq {g : Gr} (ok : g.ok) {sup fl fl' : Nat → Int} (h : g.FF sup fl) (h' : g.FF sup fl') : ∀ i, i < g.m → fl i = fl' i :=
  Gr.uniq2 ok (fun i hi hn => by rw [h.supp i hi hn, h'.supp i hi hn]) (fun v hv hne => by rw [h.bal v hv hne, h'.bal v hv hne])

structure Gr.FInv (g : Gr) (sup : Nat → Int) (done : Nat → Prop) (fl left : Nat → Int) : Prop where
  supp : ∀ e, fl e ≠ 0 → ∃ v, v < g.n ∧ done v ∧ g.fe v = e
  yes : ∀ v, v < g.n → done v → g.out fl v = sup v
  no : ∀ v, v < g.n → ¬ done v → g.out fl v + left v = sup v

theorem Gr.FInv.start (g : Gr) (sup : Nat → Int) : g.FInv sup (fun _ => False) (fun _ => 0) sup :=
  ⟨fun e h => absurd rfl h, fun v _ h => h.elim, fun v _ _ => by rw [Gr.out_nil]; omega⟩
theorem Gr.FInv.step {g : Gr} (ok : g.ok) {sup : Nat → Int} {done done' : Nat → Prop} {fl fl' left left' : Nat → Int} (h : g.FInv sup done fl left)
    {v e y : Nat} (hv : v < g.n) (hne : g.root v ≠ v) (he : g.fe v = e) (hj : g.joins e v y) (hy : y < g.n) (dv : ¬ done v) (dy : ¬ done y)
    (hd : ∀ x, done' x ↔ (done x ∨ x = v)) (hfl : fl' = upd fl e (if g.f e = v then left v else -left v))
    (hl1 : left' y = left y + left v) (hl2 : ∀ x, x < g.n → x ≠ y → x ≠ v → left' x = left x) : g.FInv sup done' fl' left' := by
  obtain ⟨i, _, e1, em, _⟩ := Gr.fe_some ok hv hne
  have : i = e := by omega
  subst this
  have o := ok i em
  have hfe : fl i = 0 := by
    by_cases h0 : fl i = 0
    · exact h0
    · obtain ⟨v', a1, a2, a3⟩ := h.supp i h0
      have := Gr.fe_inj ok hv a1 hne (by omega)
      subst this
      exact absurd a2 dv
  have hout : ∀ x, g.out fl' x = g.out fl x + ((if v = x then left v else 0) - (if y = x then left v else 0)) := by
    intro x
    rw [hfl, Gr.out_upd g fl em, hfe]
    rcases hj with ⟨p, q⟩ | ⟨p, q⟩
    · subst p; subst q; simp
    · have : g.f i ≠ v := by omega
      rw [if_neg this, p, q]
      by_cases a : y = x <;> by_cases b : v = x <;> simp [a, b] <;> omega
  have hvy : v ≠ y := by rcases hj with ⟨p, q⟩ | ⟨p, q⟩ <;> omega
  refine ⟨?_, ?_, ?_⟩
  · intro e' h'
    by_cases c : i = e'
    · subst c; exact ⟨v, hv, (hd v).2 (.inr rfl), he⟩
    · have : fl' e' = fl e' := by rw [hfl]; unfold upd; rw [if_neg c]
      rw [this] at h'
      obtain ⟨u, a1, a2, a3⟩ := h.supp e' h'
      exact ⟨u, a1, (hd u).2 (.inl a2), a3⟩
  · intro x hx dx
    rw [hout x]
    rcases (hd x).1 dx with dx | rfl
    · have h1 : v ≠ x := by rintro rfl; exact dv dx
      have h2 : y ≠ x := by rintro rfl; exact dy dx
      rw [if_neg h1, if_neg h2, h.yes x hx dx]; omega
    · rw [if_pos rfl, if_neg (Ne.symm hvy)]
      have := h.no x hx dv
      omega
  · intro x hx dx
    have h1 : x ≠ v := fun e => dx ((hd x).2 (.inr e))
    have h2 : ¬ done x := fun e => dx ((hd x).2 (.inl e))
    rw [hout x, if_neg (Ne.symm h1)]
    have := h.no x hx h2
    by_cases c : y = x
    · subst c; rw [if_pos rfl, hl1]; omega
    · rw [if_neg c, hl2 x hx (Ne.symm c) h1]; omega
theorem Gr.FInv.ff {g : Gr} {sup : Nat → Int} {done : Nat → Prop} {fl left : Nat → Int} (h : g.FInv sup done fl left) (hd : ∀ v, v < g.n → g.root v ≠ v → done v) : g.FF sup fl :=
  ⟨fun i _ hn => by
    by_cases h0 : fl i = 0
    · exact h0
    · obtain ⟨v, a1, _, a3⟩ := h.supp i h0
      exact absurd ⟨v, a1, a3⟩ hn, fun v hv hne => h.yes v hv (hd v hv hne)⟩

/-! ### supplies that are even over each component -/
def Gr.sums (g : Gr) (sup : Nat → Int) (c : Nat) : Int := sumTo (fun v => if g.root v = c then sup v else 0) g.n
def Gr.even (g : Gr) (sup : Nat → Int) : Prop := ∀ c, c < g.n → g.sums sup c = 0
theorem Gr.sums_out {g : Gr} (ok : g.ok) (h : Nat → Int) (c : Nat) : g.sums (g.out h) c = 0 := by
  have e : g.sums (g.out h) c = sumTo (fun v => sumTo (fun j => if g.root v = c then g.trm h v j else 0) g.m) g.n := by
    unfold Gr.sums
    refine sumTo_congr fun v _ => ?_
    by_cases a : g.root v = c
    · rw [if_pos a]; exact sumTo_congr fun j _ => by rw [if_pos a]
    · rw [if_neg a]; exact (sumTo_zero fun j _ => by rw [if_neg a]).symm
  rw [e, sumTo_swap]
  refine sumTo_zero fun j hj => ?_
  have o := ok j hj
  have hr := Gr.root_pipe ok hj
  have e2 : sumTo (fun v => if g.root v = c then g.trm h v j else 0) g.n = sumTo (fun v => (if v = g.f j then (if g.root (g.f j) = c then h j else 0) else 0) - (if v = g.t j then (if g.root (g.t j) = c then h j else 0) else 0)) g.n := by
    refine sumTo_congr fun v _ => ?_
    unfold Gr.trm
    by_cases a : g.f j = v
    · subst a
      have hne := Ne.symm o.2.2
      simp [hne, o.2.2]
    · by_cases b : g.t j = v
      · subst b
        have hne := Ne.symm a
        simp [a, hne]
        split <;> simp
      · have ha := Ne.symm a
        have hb := Ne.symm b
        simp [a, b, ha, hb]
  rw [e2, sumTo_sub, sumTo_one o.1 fun v _ hv => if_neg hv, sumTo_one o.2.1 fun v _ hv => if_neg hv, if_pos rfl, if_pos rfl, hr]
  omega
theorem Gr.sums_congr {g : Gr} {a b : Nat → Int} (h : ∀ v, v < g.n → a v = b v) (c : Nat) : g.sums a c = g.sums b c := sumTo_congr fun v hv => by rw [h v hv]
/-- even supplies are balanced at the roots, too -/
theorem Gr.FF.even {g : Gr} (ok : g.ok) {sup fl : Nat → Int} (h : g.FF sup fl) (he : g.even sup) : ∀ v, v < g.n → g.out fl v = sup v := by
  intro v hv
  by_cases hr : g.root v = v
  · have h1 := he v hv
    have h2 := Gr.sums_out ok fl v
    have h3 : g.sums (fun x => sup x - g.out fl x) v = sup v - g.out fl v := by
      unfold Gr.sums
      rw [sumTo_one hv fun u hu hne => ?_]
      · rw [if_pos hr]
      · by_cases a : g.root u = v
        · rw [if_pos a]; show sup u - g.out fl u = 0; rw [h.bal u hu (by omega)]; omega
        · rw [if_neg a]
    have h4 : g.sums (fun x => sup x - g.out fl x) v = g.sums sup v - g.sums (g.out fl) v := by
      unfold Gr.sums
      rw [← sumTo_sub]
      exact sumTo_congr fun u _ => by
        by_cases a : g.root u = v
        · simp [a]
        · simp [a]
    omega
  · exact h.bal v hv hr
theorem Gr.even_of_out {g : Gr} (ok : g.ok) {sup fl : Nat → Int} (h : ∀ v, v < g.n → g.out fl v = sup v) : g.even sup :=
  fun c _ => by rw [← Gr.sums_congr h c]; exact Gr.sums_out ok fl c

end Go.Proofs.Ytahmhmicegjdkaa
