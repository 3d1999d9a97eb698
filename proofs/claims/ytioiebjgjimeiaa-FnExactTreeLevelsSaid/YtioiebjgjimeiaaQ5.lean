/- plain graphs: levels -/
import Derived.Test.YtioiebjgjimeiaaH6
namespace Go.Proofs.Ytioiebjgjimeiaa

/-- the levels after j steps of the search from 0 -/
def Gr.levS (g : Gr) (dr : Nat → Int) : Nat → Nat → Int
  | 0 => fun _ => 0
  | j + 1 => match (g.ord 0)[j + 1]? with
    | some x => upd (g.levS dr j) x (if g.t (g.ent 0 x).toNat = x then g.levS dr j (g.f (g.ent 0 x).toNat) - dr (g.ent 0 x).toNat else g.levS dr j (g.t (g.ent 0 x).toNat) + dr (g.ent 0 x).toNat)
    | none => g.levS dr j
def Gr.base (g : Gr) (dr : Nat → Int) : Nat → Int := g.levS dr ((g.ord 0).length - 1)
def Gr.lev (g : Gr) (dr : Nat → Int) (root : Nat) (level : Int) (v : Nat) : Int := g.base dr v + (level - g.base dr root)

/-- levels that differ by the drops along the forest -/
def Gr.LV (g : Gr) (dr L : Nat → Int) : Prop := ∀ e, g.F e → L (g.f e) - L (g.t e) = dr e

theorem idxOf_at {l : List Nat} (hn : l.Nodup) {j x : Nat} (h : l[j]? = some x) : l.idxOf x = j := by
  obtain ⟨hj, e⟩ := List.getElem?_eq_some_iff.1 h
  rw [← e]; exact hn.idxOf_getElem j hj

theorem Gr.levS_inv {g : Gr} (ok : g.ok) (hn : 0 < g.n) (dr : Nat → Int) (j : Nat) : ∀ i, 1 ≤ i → i ≤ j → ∀ x, (g.ord 0)[i]? = some x → g.levS dr j (g.f (g.ent 0 x).toNat) - g.levS dr j (g.t (g.ent 0 x).toNat) = dr (g.ent 0 x).toNat := by
  have hi := Gr.ord_inv ok hn
  have hnd : (g.ord 0).Nodup := hi.nodup
  have hr0 : (g.ord 0).idxOf 0 = 0 := Gr.idxOf_r ok hn
  have key : ∀ k x, 1 ≤ k → (g.ord 0)[k]? = some x → ∃ e y : Nat, g.ent 0 x = e ∧ e < g.m ∧ g.joins e x y ∧ (g.ord 0).idxOf y < k ∧ x ≠ y := by
    intro k x hk hx
    have hxi := idxOf_at hnd hx
    have hx0 : x ≠ 0 := by rintro rfl; omega
    obtain ⟨e, h1, h2, y, hy, h3, h4⟩ := hi.ent x (List.mem_of_getElem? hx) hx0
    have h3' : (g.ord 0).idxOf y < (g.ord 0).idxOf x := h3
    exact ⟨e, y, h1, h2, h4, by omega, by rintro rfl; omega⟩
  induction j with
  | zero => intro i h1 h2; omega
  | succ j ih =>
    intro i h1 h2 x hx
    obtain ⟨e, y, he, hem, hj, hyi, hxy⟩ := key i x h1 hx
    have hxi := idxOf_at hnd hx
    rw [he, Int.toNat_natCast]
    rcases hz : (g.ord 0)[j + 1]? with _ | z
    · have e1 : g.levS dr (j + 1) = g.levS dr j := by simp [Gr.levS, hz]
      have : i ≠ j + 1 := by rintro rfl; rw [hz] at hx; cases hx
      rw [e1]
      have := ih i h1 (by omega) x hx
      rwa [he, Int.toNat_natCast] at this
    · obtain ⟨e', y', he', hem', hj', hyi', hxy'⟩ := key (j + 1) z (by omega) hz
      have e1 : g.levS dr (j + 1) = upd (g.levS dr j) z (if g.t e' = z then g.levS dr j (g.f e') - dr e' else g.levS dr j (g.t e') + dr e') := by simp [Gr.levS, hz, he']
      have hzi := idxOf_at hnd hz
      rw [e1]
      unfold upd
      by_cases hij : i = j + 1
      · subst hij
        rw [hz] at hx
        injection hx with hx
        subst hx
        have : e = e' := by omega
        subst this
        have o := ok e hem
        by_cases ht : g.t e = z
        · rw [if_pos ht, if_neg (by omega), if_pos ht.symm]; omega
        · have hf : g.f e = z := by rcases hj with ⟨a, b⟩ | ⟨a, b⟩ <;> omega
          rw [if_neg ht, if_pos hf.symm, if_neg (by omega)]; omega
      · have := ih i h1 (by omega) x hx
        rw [he, Int.toNat_natCast] at this
        have hzx : z ≠ x := by rintro rfl; omega
        have hzy : z ≠ y := by rintro rfl; omega
        rw [if_neg (by rcases hj with ⟨a, b⟩ | ⟨a, b⟩ <;> omega), if_neg (by rcases hj with ⟨a, b⟩ | ⟨a, b⟩ <;> omega)]
        exact this
theorem Gr.base_lv {g : Gr} (ok : g.ok) (hn : 0 < g.n) (hc : g.conn = true) (dr : Nat → Int) : g.LV dr (g.base dr) := by
  intro e hF
  obtain ⟨v, y, hv, hy, hvr, hfe, hem, hj, _⟩ := Gr.F_facts ok hF
  have hc' := (Gr.conn_iff ok hn).1 hc
  have hv0 := hc' v hv
  have hmem := (Gr.root_facts ok hv).2.2.2
  rw [hv0] at hmem
  unfold Gr.fe at hfe
  rw [hv0] at hfe
  obtain ⟨i, hi, hie⟩ := List.getElem_of_mem hmem
  have hget : (g.ord 0)[i]? = some v := by rw [List.getElem?_eq_getElem hi, hie]
  have hi0 : 1 ≤ i := by
    rcases Nat.eq_zero_or_pos i with h0 | h0
    · subst h0
      have h1 := idxOf_at (Gr.ord_inv ok hn).nodup hget
      have h2 := Gr.idxOf_pos ok hn (x := v) (by omega)
      have h1' : (g.ord 0).idxOf v = 0 := h1
      omega
    · exact h0
  have := Gr.levS_inv ok hn dr ((g.ord 0).length - 1) i hi0 (by omega) v hget
  rwa [hfe, Int.toNat_natCast] at this
theorem Gr.lev_lv {g : Gr} (ok : g.ok) (hn : 0 < g.n) (hc : g.conn = true) (dr : Nat → Int) (root : Nat) (level : Int) : g.LV dr (g.lev dr root level) := by
  intro e hF
  have := Gr.base_lv ok hn hc dr e hF
  unfold Gr.lev; omega
theorem Gr.lev_root (g : Gr) (dr : Nat → Int) (root : Nat) (level : Int) : g.lev dr root level root = level := by unfold Gr.lev; omega
theorem Gr.LV.uniq {g : Gr} (ok : g.ok) (hn : 0 < g.n) (hc : g.conn = true) {dr L L' : Nat → Int} (h : g.LV dr L) (h' : g.LV dr L') {r : Nat} (hr : r < g.n) (e : L r = L' r) : ∀ v, v < g.n → L v = L' v := by
  have hc' := (Gr.conn_iff ok hn).1 hc
  have key : ∀ v, v < g.n → (L v - L' v = L 0 - L' 0) := by
    intro v hv
    have := Gr.forest_all ok (C := fun x => L x - L' x = L 0 - L' 0) (fun e hF => by
      have a := h e hF
      have b := h' e hF
      constructor <;> intro hh <;> omega) hv
    rw [hc' v hv] at this
    exact this.2 rfl
  intro v hv
  have h1 := key v hv
  have h2 := key r hr
  omega
theorem Gr.levS_bnd {g : Gr} {dr : Nat → Int} {M : Int} (hM : 0 ≤ M) (hd : ∀ e, -M ≤ dr e ∧ dr e ≤ M) (j : Nat) : ∀ v, -(M * j) ≤ g.levS dr j v ∧ g.levS dr j v ≤ M * j := by
  induction j with
  | zero => intro v; simp [Gr.levS]
  | succ j ih =>
    intro v
    have e : M * ((j + 1 : Nat) : Int) = M * j + M := by rw [Int.natCast_add, Int.mul_add]; simp
    rw [e]
    have h0 := ih v
    rcases hz : (g.ord 0)[j + 1]? with _ | z
    · rw [show g.levS dr (j + 1) = g.levS dr j by simp [Gr.levS, hz]]; omega
    · rw [show g.levS dr (j + 1) = upd (g.levS dr j) z (if g.t (g.ent 0 z).toNat = z then g.levS dr j (g.f (g.ent 0 z).toNat) - dr (g.ent 0 z).toNat else g.levS dr j (g.t (g.ent 0 z).toNat) + dr (g.ent 0 z).toNat) by simp [Gr.levS, hz]]
      unfold upd
      have h1 := ih (g.f (g.ent 0 z).toNat)
      have h2 := ih (g.t (g.ent 0 z).toNat)
      have h3 := hd (g.ent 0 z).toNat
      split
      · split <;> omega
      · omega

end Go.Proofs.Ytioiebjgjimeiaa
