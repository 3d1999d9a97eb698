/- components -/
import Derived.Test.YtioiebjgjimeiaaH4
namespace Go.Proofs.Ytioiebjgjimeiaa
open Go.RowKit

def Gr.cmpJ (g : Gr) (k j : Nat) : Nat → Int := fun v => if v ∈ (g.ord k).take j then (k : Int) else g.cmp k v
theorem Gr.cmpJ_zero (g : Gr) (k : Nat) : g.cmpJ k 0 = g.cmp k := funext fun v => by simp [Gr.cmpJ]
theorem Gr.cmpJ_succ {g : Gr} {k j q : Nat} (h : (g.ord k)[j]? = some q) : g.cmpJ k (j + 1) = upd (g.cmpJ k j) q k := funext fun v => by
  unfold Gr.cmpJ upd
  rw [List.take_add_one, h]
  simp only [Option.toList_some, List.mem_append, List.mem_singleton]
  by_cases e : q = v
  · subst e; simp
  · have : ¬ v = q := fun h => e h.symm
    simp [e, this]
theorem Gr.cmpJ_end {g : Gr} {k j : Nat} (hc : g.cmp k k < 0) (h : (g.ord k).length ≤ j) : g.cmpJ k j = g.cmp (k + 1) := funext fun v => by
  show _ = (if g.cmp k k < 0 then fun v => if v ∈ g.ord k then (k : Int) else g.cmp k v else g.cmp k) v
  unfold Gr.cmpJ
  rw [if_pos hc, List.take_of_length_le h]
theorem Gr.cmp_skip {g : Gr} {k : Nat} (hc : ¬ g.cmp k k < 0) : g.cmp (k + 1) = g.cmp k := by
  show (if g.cmp k k < 0 then fun v => if v ∈ g.ord k then (k : Int) else g.cmp k v else g.cmp k) = _
  rw [if_neg hc]
theorem Gr.cmp_bnd {g : Gr} (k v : Nat) : -1 ≤ g.cmp k v ∧ g.cmp k v < k := by
  induction k with
  | zero => exact ⟨by simp [Gr.cmp], by simp [Gr.cmp]⟩
  | succ k ih =>
    show -1 ≤ (if g.cmp k k < 0 then fun v => if v ∈ g.ord k then (k : Int) else g.cmp k v else g.cmp k) v ∧ (if g.cmp k k < 0 then fun v => if v ∈ g.ord k then (k : Int) else g.cmp k v else g.cmp k) v < _
    by_cases hc : g.cmp k k < 0
    · rw [if_pos hc]
      by_cases hm : v ∈ g.ord k
      · simp only [if_pos hm]; omega
      · simp only [if_neg hm]; omega
    · rw [if_neg hc]; omega

theorem run_field_search0 (A1 A2 A3 : Option Addr) (a1 a2 a3 b1 b2 b3 : Nat) (w : World) :
    (Instr.field 118 (.agg #[.slice A1 a1 b1, .slice A2 a2 b2, .slice A3 a3 b3]) 0).run Try.prog w = .ok (.slice A1 a1 b1) w := by
  simp [go_sem, Instr.field, asAgg]
theorem run_field_search2 (A1 A2 A3 : Option Addr) (a1 a2 a3 b1 b2 b3 : Nat) (w : World) :
    (Instr.field 118 (.agg #[.slice A1 a1 b1, .slice A2 a2 b2, .slice A3 a3 b3]) 2).run Try.prog w = .ok (.slice A3 a3 b3) w := by
  simp [go_sem, Instr.field, asAgg]

set_option maxRecDepth 100000 in
set_option maxHeartbeats 4000000 in
theorem componentsOf_any (A : Option Addr) (n c : Nat) (B : Option Addr) (m d : Nat) (net : Net) (w : World) (h : NetAt w A n c B m d net) (ok : NetOK net) :
    Calls Try.prog 154 #[.agg #[.slice A n c, .slice B m d]] w fun e w' => ∃ Ac, e = .returned (.slice Ac n n) ∧ Own w' Ac n n (mapTo n (netG net).comp) ∧ Fresh w.heap.size Ac ∧ Below w.heap.size w w' := by
  have hn24 : n ≤ 24 := by have := ok.n24; have := h.nodes.len; omega
  have HNn : Hid ((netG net).n = n) := Lib.hid h.nodes.len
  have HB := Lib.hid (bel1 w (.cells #[.slice A n c, .slice B m d] 27))
  have bx0 : BX (w.alloc (.cells #[.slice A n c, .slice B m d] 27)) w.heap.size A n c B m d := ⟨heap_alloc_new w _⟩
  obtain ⟨W, hW⟩ : ∃ W, W = w.alloc (.cells #[.slice A n c, .slice B m d] 27) := ⟨_, rfl⟩
  have hWs : W.heap.size = w.heap.size + 1 := by rw [hW]; simp
  go_enter Try.func154, Try.ntmps154
  go_wp2_with (at_make; refine law_make _ rfl _ _ rfl n _ _ rfl rfl rfl rfl (by omega) ?_; intro w1 o1 b1 z1)
  rw [World.size_alloc] at o1
  rw [← hW] at b1 bx0 HB
  rw [ini_zero] at o1
  clear hW z1
  go_loopw [14] (fun i wr => ∃ k : Nat, k ≤ n ∧ i = .int .i64 k ∧ Own wr (some ⟨w.heap.size + 1, 0, none⟩) n n (mapTo n (ini k)) ∧ Below W.heap.size W wr) (fun i _ => n - (intOf i).toNat)
  case atStart => exact ⟨0, by omega, rfl, o1, b1⟩
  case round =>
    obtain ⟨k, hk, rfl, oe, hb⟩ := hrel
    clear o1 b1
    by_cases hlt : k < n
    · have c1 := oe.cell hlt
      have u1 := oe.unfrozen k
      have oe' := oe.store k (z := -1) ⟨by decide, by decide⟩
      rw [ini_set] at oe'
      have hb' := hb.setCell (p := ⟨w.heap.size + 1, k, none⟩) (by show W.heap.size ≤ w.heap.size + 1; omega) (.int .i64 (-1))
      have HE := Lib.hid oe'
      have HB' := Lib.hid hb'
      clear oe' hb' oe
      go_wp2_with fail
      go_roundw
      case rel => exact ⟨k + 1, by omega, by go_num, HE.out, HB'.out⟩
      case measure => simp [intOf]; omega
    · have hkn : n = k := by omega
      subst hkn
      rw [ini_end] at oe
      go_wp2_with fail
      go_loopw [23] (fun i wr => ∃ k : Nat, k ≤ n ∧ i = .int .i64 k ∧ Own wr (some ⟨w.heap.size + 1, 0, none⟩) n n (mapTo n ((netG net).cmp k)) ∧ Below W.heap.size W wr) (fun i _ => n - (intOf i).toNat)
      case atStart => exact ⟨0, by omega, rfl, oe, hb⟩
      case round =>
        obtain ⟨k, hk, rfl, oe, hb⟩ := hrel
        by_cases hlt : k < n
        · have c1 := oe.cell hlt
          rw [mapTo_ig hlt] at c1
          have hbn := Gr.cmp_bnd (g := netG net) k k
          by_cases hc : (netG net).cmp k k < 0
          · have kb := (bx0.step hb).c0
            have kb1 := (bx0.step hb).c1
            have HC := Lib.hid hc
            go_wp2_with fail
            refine (searchFrom_any _ _ _ _ _ _ net k _ (h.later (below_step HB.out hb)) ok hlt).mono ?_
            rintro e w4 ⟨Ao, lo, co, Ad, Ae, rfl, o4, _, f4, _, b4⟩
            have hlo := o4.len
            rw [nl_len] at hlo
            have hlo24 : lo ≤ n := by have := Gr.ord_len ok.g (r := k) (by rw [HNn.out]; exact hlt); rw [HNn.out] at this; omega
            have oe4 := oe.later b4
            have hb4 := below_step hb b4
            have hap : ∀ a, Ao = some a → a.block ≠ w.heap.size + 1 := fun a ha => by
              have h1 := f4 a ha
              have h2 := oe.lt _ rfl
              simp only at h2
              omega
            have HLO := Lib.hid hlo
            rw [← Gr.cmpJ_zero] at oe4
            clear kb kb1 c1 hlo hc hbn
            have hfl := run_field_search0 Ao Ad Ae lo n n co n n w4
            go_wp2_with fail
            clear hfl
            go_loopw [36] (fun i wr => ∃ j : Nat, j ≤ lo ∧ i = .int .i64 j ∧ Own wr (some ⟨w.heap.size + 1, 0, none⟩) n n (mapTo n ((netG net).cmpJ k j)) ∧ Own wr Ao lo co (nl ((netG net).ord k)) ∧ Below W.heap.size W wr) (fun i _ => lo - (intOf i).toNat)
            case atStart => exact ⟨0, by omega, rfl, oe4, o4, hb4⟩
            case round =>
              obtain ⟨j, hj, rfl, oe, oo, hb⟩ := hrel
              by_cases hjl : j < lo
              · obtain ⟨ga, rfl, hga⟩ := oo.pos (by omega)
                have hjl' : j < ((netG net).ord k).length := by rw [HLO.out]; exact hjl
                obtain ⟨q, hq⟩ : ∃ q, ((netG net).ord k)[j] = q := ⟨_, rfl⟩
                have cq := oo.cell hjl
                rw [nl_ig hjl', hq] at cq
                have hqn : q < n := by
                  have := Gr.ord_lt ok.g (r := k) (by rw [HNn.out]; exact hlt) q (hq ▸ List.getElem_mem hjl')
                  rw [HNn.out] at this; exact this
                have c2 := oe.cell hqn
                have u2 := oe.unfrozen q
                have oe' := oe.store q (z := k) ⟨by omega, by omega⟩
                rw [mapTo_upd, ← Gr.cmpJ_succ (by rw [List.getElem?_eq_getElem hjl', hq])] at oe'
                have hga2 := hap _ rfl
                have oo' := oo.far (p := ⟨w.heap.size + 1, q, none⟩) hap (.int .i64 k)
                have hb' := hb.setCell (p := ⟨w.heap.size + 1, q, none⟩) (by show W.heap.size ≤ w.heap.size + 1; omega) (.int .i64 k)
                have HE := Lib.hid oe'
                have HO := Lib.hid oo'
                have HB' := Lib.hid hb'
                clear oe' hb' oo' oe oo hq
                go_wp2_with fail
                go_roundw
                case rel => exact ⟨j + 1, by omega, by go_num, HE.out, HO.out, HB'.out⟩
                case measure => simp [intOf]; omega
              · rw [Gr.cmpJ_end HC.out (by rw [HLO.out]; omega)] at oe
                go_wp2_with fail
                go_roundw
                case rel => exact ⟨k + 1, by omega, by go_num, oe, hb⟩
                case measure => simp [intOf]; omega
          · rw [← Gr.cmp_skip hc] at oe
            go_wp2_with fail
            go_roundw
            case rel => exact ⟨k + 1, by omega, by go_num, oe, hb⟩
            case measure => simp [intOf]; omega
        · have hkn : n = k := by omega
          subst hkn
          go_wp2_with fail
          go_ret
          refine ⟨_, rfl, ?_, (fun a ha => by injection ha with ha; subst ha; show w.heap.size ≤ w.heap.size + 1; omega), below_step HB.out hb⟩
          unfold Gr.comp
          rw [HNn.out]; exact oe

end Go.Proofs.Ytioiebjgjimeiaa

/- components: the reference; connected networks -/
namespace Go.Proofs.Ytioiebjgjimeiaa
open Go.RowKit

set_option maxRecDepth 100000 in
set_option maxHeartbeats 4000000 in
theorem l04Components_any (A : Option Addr) (n c : Nat) (B : Option Addr) (m d : Nat) (net : Net) (w : World) (h : NetAt w A n c B m d net) (ok : NetOK net) :
    Calls Try.prog 150 #[.agg #[.slice A n c, .slice B m d]] w fun e w' => ∃ Ac, e = .returned (.slice Ac n n) ∧ Own w' Ac n n (mapTo n (netG net).comp) ∧ Fresh w.heap.size Ac ∧ Below w.heap.size w w' := by
  have hn24 : n ≤ 24 := by have := ok.n24; have := h.nodes.len; omega
  have HNn : Hid ((netG net).n = n) := Lib.hid h.nodes.len
  have HB := Lib.hid (bel1 w (.cells #[.slice A n c, .slice B m d] 27))
  have bx0 : BX (w.alloc (.cells #[.slice A n c, .slice B m d] 27)) w.heap.size A n c B m d := ⟨heap_alloc_new w _⟩
  obtain ⟨W, hW⟩ : ∃ W, W = w.alloc (.cells #[.slice A n c, .slice B m d] 27) := ⟨_, rfl⟩
  have hWs : W.heap.size = w.heap.size + 1 := by rw [hW]; simp
  go_enter Try.func150, Try.ntmps150
  go_wp2_with (at_make; refine law_make _ rfl _ _ rfl n _ _ rfl rfl rfl rfl (by omega) ?_; intro w1 o1 b1 z1)
  rw [World.size_alloc] at o1
  rw [← hW] at b1 bx0 HB
  rw [ini_zero] at o1
  clear hW z1
  go_loopw [4] (fun i wr => ∃ k : Nat, k ≤ n ∧ i = .int .i64 k ∧ Own wr (some ⟨w.heap.size + 1, 0, none⟩) n n (mapTo n (ini k)) ∧ Below W.heap.size W wr) (fun i _ => n - (intOf i).toNat)
  case atStart => exact ⟨0, by omega, rfl, o1, b1⟩
  case round =>
    obtain ⟨k, hk, rfl, oe, hb⟩ := hrel
    clear o1 b1
    by_cases hlt : k < n
    · have c1 := oe.cell hlt
      have u1 := oe.unfrozen k
      have oe' := oe.store k (z := -1) ⟨by decide, by decide⟩
      rw [ini_set] at oe'
      have hb' := hb.setCell (p := ⟨w.heap.size + 1, k, none⟩) (by show W.heap.size ≤ w.heap.size + 1; omega) (.int .i64 (-1))
      have HE := Lib.hid oe'
      have HB' := Lib.hid hb'
      clear oe' hb' oe
      go_wp2_with fail
      go_roundw
      case rel => exact ⟨k + 1, by omega, by go_num, HE.out, HB'.out⟩
      case measure => simp [intOf]; omega
    · have hkn : n = k := by omega
      subst hkn
      rw [ini_end] at oe
      go_wp2_with fail
      go_loopw [5] (fun i wr => ∃ k : Nat, k ≤ n ∧ i = .int .i64 k ∧ Own wr (some ⟨w.heap.size + 1, 0, none⟩) n n (mapTo n ((netG net).cmp k)) ∧ Below W.heap.size W wr) (fun i _ => n - (intOf i).toNat)
      case atStart => exact ⟨0, by omega, rfl, oe, hb⟩
      case round =>
        obtain ⟨k, hk, rfl, oe, hb⟩ := hrel
        by_cases hlt : k < n
        · have c1 := oe.cell hlt
          rw [mapTo_ig hlt] at c1
          have hbn := Gr.cmp_bnd (g := netG net) k k
          by_cases hc : (netG net).cmp k k < 0
          · have kb := (bx0.step hb).c0
            have kb1 := (bx0.step hb).c1
            have HC := Lib.hid hc
            go_wp2_with fail
            refine (l04Search_any _ _ _ _ _ _ net k _ (h.later (below_step HB.out hb)) ok hlt).mono ?_
            rintro e w4 ⟨Ao, lo, co, Ae, rfl, o4, _, f4, _, b4⟩
            have hlo := o4.len
            rw [nl_len] at hlo
            have hlo24 : lo ≤ n := by have := Gr.ord_len ok.g (r := k) (by rw [HNn.out]; exact hlt); rw [HNn.out] at this; omega
            have oe4 := oe.later b4
            have hb4 := below_step hb b4
            have hap : ∀ a, Ao = some a → a.block ≠ w.heap.size + 1 := fun a ha => by
              have h1 := f4 a ha
              have h2 := oe.lt _ rfl
              simp only at h2
              omega
            have HLO := Lib.hid hlo
            rw [← Gr.cmpJ_zero] at oe4
            clear kb kb1 c1 hlo hc hbn
            go_wp2_with fail
            go_loopw [8] (fun i wr => ∃ j : Nat, j ≤ lo ∧ i = .int .i64 j ∧ Own wr (some ⟨w.heap.size + 1, 0, none⟩) n n (mapTo n ((netG net).cmpJ k j)) ∧ Own wr Ao lo co (nl ((netG net).ord k)) ∧ Below W.heap.size W wr) (fun i _ => lo - (intOf i).toNat)
            case atStart => exact ⟨0, by omega, rfl, oe4, o4, hb4⟩
            case round =>
              obtain ⟨j, hj, rfl, oe, oo, hb⟩ := hrel
              by_cases hjl : j < lo
              · obtain ⟨ga, rfl, hga⟩ := oo.pos (by omega)
                have hjl' : j < ((netG net).ord k).length := by rw [HLO.out]; exact hjl
                obtain ⟨q, hq⟩ : ∃ q, ((netG net).ord k)[j] = q := ⟨_, rfl⟩
                have cq := oo.cell hjl
                rw [nl_ig hjl', hq] at cq
                have hqn : q < n := by
                  have := Gr.ord_lt ok.g (r := k) (by rw [HNn.out]; exact hlt) q (hq ▸ List.getElem_mem hjl')
                  rw [HNn.out] at this; exact this
                have c2 := oe.cell hqn
                have u2 := oe.unfrozen q
                have oe' := oe.store q (z := k) ⟨by omega, by omega⟩
                rw [mapTo_upd, ← Gr.cmpJ_succ (by rw [List.getElem?_eq_getElem hjl', hq])] at oe'
                have hga2 := hap _ rfl
                have oo' := oo.far (p := ⟨w.heap.size + 1, q, none⟩) hap (.int .i64 k)
                have hb' := hb.setCell (p := ⟨w.heap.size + 1, q, none⟩) (by show W.heap.size ≤ w.heap.size + 1; omega) (.int .i64 k)
                have HE := Lib.hid oe'
                have HO := Lib.hid oo'
                have HB' := Lib.hid hb'
                clear oe' hb' oo' oe oo hq
                go_wp2_with fail
                go_roundw
                case rel => exact ⟨j + 1, by omega, by go_num, HE.out, HO.out, HB'.out⟩
                case measure => simp [intOf]; omega
              · rw [Gr.cmpJ_end HC.out (by rw [HLO.out]; omega)] at oe
                go_wp2_with fail
                go_roundw
                case rel => exact ⟨k + 1, by omega, by go_num, oe, hb⟩
                case measure => simp [intOf]; omega
          · rw [← Gr.cmp_skip hc] at oe
            go_wp2_with fail
            go_roundw
            case rel => exact ⟨k + 1, by omega, by go_num, oe, hb⟩
            case measure => simp [intOf]; omega
        · have hkn : n = k := by omega
          subst hkn
          go_wp2_with fail
          go_ret
          refine ⟨_, rfl, ?_, (fun a ha => by injection ha with ha; subst ha; show w.heap.size ≤ w.heap.size + 1; omega), below_step HB.out hb⟩
          unfold Gr.comp
          rw [HNn.out]; exact oe

/-- the number of components among the first k nodes -/
def Gr.cnt (g : Gr) : Nat → Nat
  | 0 => 0
  | k + 1 => if g.comp k = k then g.cnt k + 1 else g.cnt k
theorem Gr.cnt_le (g : Gr) (k : Nat) : g.cnt k ≤ k := by
  induction k with
  | zero => exact Nat.le_refl _
  | succ k ih => unfold Gr.cnt; split <;> omega
def Gr.conn (g : Gr) : Bool := decide ((g.ord 0).length = g.n)
theorem Gr.conn_iff {g : Gr} (ok : g.ok) (hn : 0 < g.n) : g.conn = true ↔ ∀ v, v < g.n → g.root v = 0 := by
  have h0 := Gr.root_facts ok hn
  have h00 : g.root 0 = 0 := by omega
  have hiff : (∀ v, v < g.n → g.root v = 0) ↔ ∀ v, v < g.n → v ∈ g.ord 0 := by
    constructor
    · intro h v hv
      have := (Gr.root_facts ok hv).2.2.2
      rwa [h v hv] at this
    · exact fun h v hv => Gr.root_of_mem ok hn h00 (h v hv)
  rw [hiff]
  have hi := Gr.ord_inv ok hn
  have hnd : (g.ord 0).Nodup := hi.nodup
  have hlt := Gr.ord_lt ok hn
  unfold Gr.conn
  rw [decide_eq_true_eq]
  constructor
  · intro hl v hv
    refine Classical.byContradiction fun hm => ?_
    have : (v :: g.ord 0).length ≤ g.n := nodup_len (List.nodup_cons.2 ⟨hm, hnd⟩) (fun x hx => by
      rcases List.mem_cons.1 hx with rfl | hx
      · exact hv
      · exact hlt x hx)
    simp at this; omega
  · intro h
    have h1 := nodup_len hnd hlt
    have h2 : g.n ≤ (g.ord 0).length := by
      have hsub : ∀ (l l' : List Nat), l.Nodup → (∀ x ∈ l, x ∈ l') → l.length ≤ l'.length := by
        intro l
        induction l with
        | nil => intro l' _ _; simp
        | cons a l ih =>
          intro l' hn' hm
          obtain ⟨ha, hl⟩ := List.nodup_cons.1 hn'
          have := ih (l'.erase a) hl (fun x hx => (List.mem_erase_of_ne (by rintro rfl; exact ha hx)).2 (hm x (List.mem_cons_of_mem _ hx)))
          rw [List.length_erase_of_mem (hm a List.mem_cons_self)] at this
          have hpos : 0 < l'.length := List.length_pos_of_mem (hm a List.mem_cons_self)
          simp; omega
      have := hsub (List.range g.n) (g.ord 0) List.nodup_range (fun x hx => h x (List.mem_range.1 hx))
      simpa using this
    omega
theorem Gr.cnt_pos {g : Gr} (ok : g.ok) {k : Nat} (hk : 1 ≤ k) (hkn : k ≤ g.n) : 1 ≤ g.cnt k := by
  induction k with
  | zero => omega
  | succ k ih =>
    unfold Gr.cnt
    by_cases e : k = 0
    · subst e
      have h0 := Gr.root_facts ok (v := 0) (by omega)
      rw [if_pos (by rw [Gr.comp_root ok (by omega)]; omega)]
      omega
    · have := ih (by omega) (by omega)
      split <;> omega
theorem Gr.cnt_one {g : Gr} (ok : g.ok) {k : Nat} (hk : 1 ≤ k) (hkn : k ≤ g.n) : g.cnt k = 1 ↔ ∀ v, v < k → 0 < v → g.root v ≠ v := by
  induction k with
  | zero => omega
  | succ k ih =>
    have hc : g.comp k = (g.root k : Int) := Gr.comp_root ok (by omega)
    unfold Gr.cnt
    rw [hc]
    by_cases e : k = 0
    · subst e
      have h0 := Gr.root_facts ok (v := 0) (by omega)
      have h00 : g.root 0 = 0 := by omega
      rw [h00]
      constructor
      · intro _ v hv h0; omega
      · intro _; simp [Gr.cnt]
    · have hp := Gr.cnt_pos ok (k := k) (by omega) (by omega)
      have := ih (by omega) (by omega)
      by_cases hr : (g.root k : Int) = k
      · rw [if_pos hr]
        constructor
        · intro h; omega
        · intro h; exact absurd (by omega) (h k (by omega) (by omega))
      · rw [if_neg hr, this]
        constructor
        · intro h v hv h0
          by_cases hvk : v = k
          · subst hvk; omega
          · exact h v (by omega) h0
        · exact fun h v hv h0 => h v (by omega) h0
theorem Gr.cnt_conn {g : Gr} (ok : g.ok) (hn : 0 < g.n) : g.cnt g.n = 1 ↔ g.conn = true := by
  rw [Gr.conn_iff ok hn, Gr.cnt_one ok hn (Nat.le_refl _)]
  constructor
  · intro h v hv
    have hf := Gr.root_facts ok hv
    by_cases e : g.root v = 0
    · exact e
    · exact absurd hf.2.2.1 (h _ hf.1 (by omega))
  · intro h v hv h0 e
    have := h v hv
    omega

set_option maxRecDepth 100000 in
set_option maxHeartbeats 4000000 in
theorem l04Count_any (A : Option Addr) (n c : Nat) (B : Option Addr) (m d : Nat) (net : Net) (w : World) (h : NetAt w A n c B m d net) (ok : NetOK net) :
    Calls Try.prog 121 #[.agg #[.slice A n c, .slice B m d]] w fun e w' => e = .returned (.int .i64 ((netG net).cnt n : Nat)) ∧ Below w.heap.size w w' := by
  have hn24 : n ≤ 24 := by have := ok.n24; have := h.nodes.len; omega
  have HNn : Hid ((netG net).n = n) := Lib.hid h.nodes.len
  have HB := Lib.hid (bel1 w (.cells #[.slice A n c, .slice B m d] 27))
  go_enter Try.func121, Try.ntmps121
  go_wp2_with fail
  refine (l04Components_any _ _ _ _ _ _ net _ (h.later HB.out) ok).mono ?_
  rintro e w1 ⟨Ac, rfl, o1, f1, b1⟩
  have t1 := below_step HB.out b1
  go_wp2_with fail
  go_loop [4, 5] (fun q i => ∃ k : Nat, k ≤ n ∧ q = .int .i64 ((netG net).cnt k : Nat) ∧ i = .int .i64 k) (fun _ i => n - (intOf i).toNat)
  case atStart => exact ⟨0, by omega, rfl, rfl⟩
  case round =>
    obtain ⟨k, hk, rfl, rfl⟩ := hrel
    have hle := Gr.cnt_le (netG net) k
    by_cases hlt : k < n
    · obtain ⟨ga, rfl, hga⟩ := o1.pos (by omega)
      have c1 := o1.cell hlt
      rw [mapTo_ig hlt] at c1
      have hle := Gr.cnt_le (netG net) k
      by_cases e : (netG net).comp k = k
      · have g : (((netG net).comp k) == (k : Int)) = true := by simp [e]
        have HC : Hid ((netG net).cnt (k + 1) = (netG net).cnt k + 1) := Lib.hid (by conv => lhs; unfold Gr.cnt
                                                                                     rw [if_pos e])
        clear e
        generalize (netG net).comp k = x at *
        go_wp2_with fail
        go_round
        case rel => exact ⟨k + 1, by omega, by rw [HC.out]; go_num, by go_num⟩
        case measure => simp [intOf]; omega
      · have g : (((netG net).comp k) == (k : Int)) = false := by simp [e]
        have HC : Hid ((netG net).cnt (k + 1) = (netG net).cnt k) := Lib.hid (by conv => lhs; unfold Gr.cnt
                                                                                 rw [if_neg e])
        clear e
        generalize (netG net).comp k = x at *
        go_wp2_with fail
        go_round
        case rel => exact ⟨k + 1, by omega, by rw [HC.out], by go_num⟩
        case measure => simp [intOf]; omega
    · have hkn : n = k := by omega
      subst hkn
      go_wp2_with fail
      go_ret
      exact ⟨rfl, t1⟩

set_option maxRecDepth 100000 in
set_option maxHeartbeats 4000000 in
theorem isConnected_is (A : Option Addr) (n c : Nat) (B : Option Addr) (m d : Nat) (net : Net) (b : Bool) (w : World) (h : NetAt w A n c B m d net) (ok : NetOK net) (hb : (netG net).conn = b) :
    Calls Try.prog 161 #[.agg #[.slice A n c, .slice B m d]] w fun e w' => e = .returned (.bool b) ∧ Below w.heap.size w w' := by
  have hn24 : n ≤ 24 := by have := ok.n24; have := h.nodes.len; omega
  have hn1 : 1 ≤ n := by have := ok.n1; have := h.nodes.len; omega
  have HNn : Hid ((netG net).n = n) := Lib.hid h.nodes.len
  have HB := Lib.hid (bel1 w (.cells #[.slice A n c, .slice B m d] 27))
  have bx0 : BX (w.alloc (.cells #[.slice A n c, .slice B m d] 27)) w.heap.size A n c B m d := ⟨heap_alloc_new w _⟩
  obtain ⟨lo, hlo⟩ : ∃ lo, ((netG net).ord 0).length = lo := ⟨_, rfl⟩
  have hb' : ((lo : Int) == (n : Int)) = b := by
    rw [← hb]; unfold Gr.conn; rw [hlo, HNn.out]
    by_cases e : lo = n
    · simp [e]
    · have : ¬ (lo : Int) = n := by omega
      simp [e, this]
  obtain ⟨W, hW⟩ : ∃ W, W = w.alloc (.cells #[.slice A n c, .slice B m d] 27) := ⟨_, rfl⟩
  go_enter Try.func161, Try.ntmps161
  go_wp2_with fail
  rw [← hW] at HB bx0 ⊢
  apply wp_region_track [3, 4, 5, 6, 7, 8, 9, 10, 2] [eqv _, fun v _ => ∃ Ao co Ad Ae, v = .agg #[.slice Ao lo co, .slice Ad n n, .slice Ae n n], fun v _ => ∃ Ao co, v = .slice Ao lo co, eqv _, eqv _, eqv _, eqv _, eqv _, eqv _]
    (fun w' => Below W.heap.size W w') Grw (by kernel_rfl) (by kernel_rfl) rfl (by kernel_rfl)
  case hs =>
    refine ⟨?_, ?_, ?_, ?_, ?_, ?_, ?_, ?_, ?_, trivial⟩
    · intro ev w1 ht hc hg hf hI hd
      have e1 : ev (.tmp 1) = .pointer (some ⟨w.heap.size, 0, none⟩) := ht 1 (by decide)
      have k0 := (bx0.step hI).c0
      have k1 := (bx0.step hI).c1
      refine opok_gen fun N hN => ?_
      clear hd ht
      go_simp
      exact hN.out _ _ ⟨hI, Below.refl _ _, rfl⟩
    · intro ev w1 ht hc hg hf hI hd
      have e3 : ev (.tmp 3) = _ := hd 0 3 rfl rfl
      refine opok_gen fun N hN => ?_
      clear hd ht
      go_simp
      refine opok_call ?_
      refine (searchFrom_any _ _ _ _ _ _ net 0 _ (h.later (below_step HB.out hI)) ok (by omega)).mono ?_
      rintro e w4 ⟨Ao, lo', co, Ad, Ae, rfl, o4, _, f4, _, b4⟩
      have hl : lo' = lo := by rw [← hlo, ← nl_len, o4.len]
      subst hl
      exact ⟨_, rfl, hN.out _ _ ⟨below_step hI b4, b4, ⟨_, _, _, _, rfl⟩⟩⟩
    · intro ev w1 ht hc hg hf hI hd
      obtain ⟨Ao, co, Ad, Ae, e4⟩ : ∃ Ao co Ad Ae, ev (.tmp 4) = .agg #[.slice Ao lo co, .slice Ad n n, .slice Ae n n] := hd 1 4 rfl rfl
      have hfl := run_field_search0 Ao Ad Ae lo n n co n n w1
      refine opok_gen fun N hN => ?_
      clear hd ht
      go_simp
      exact hN.out _ _ ⟨hI, Below.refl _ _, ⟨_, _, rfl⟩⟩
    · intro ev w1 ht hc hg hf hI hd
      obtain ⟨Ao, co, e5⟩ : ∃ Ao co, ev (.tmp 5) = .slice Ao lo co := hd 2 5 rfl rfl
      refine opok_gen fun N hN => ?_
      clear hd ht
      go_simp
      exact hN.out _ _ ⟨hI, Below.refl _ _, rfl⟩
    · intro ev w1 ht hc hg hf hI hd
      have e1 : ev (.tmp 1) = .pointer (some ⟨w.heap.size, 0, none⟩) := ht 1 (by decide)
      refine opok_gen fun N hN => ?_
      clear hd ht
      go_simp
      exact hN.out _ _ ⟨hI, Below.refl _ _, rfl⟩
    · intro ev w1 ht hc hg hf hI hd
      have e7 : ev (.tmp 7) = _ := hd 4 7 rfl rfl
      have k0 := (bx0.step hI).c0
      refine opok_gen fun N hN => ?_
      clear hd ht
      go_simp
      exact hN.out _ _ ⟨hI, Below.refl _ _, rfl⟩
    · intro ev w1 ht hc hg hf hI hd
      have e8 : ev (.tmp 8) = _ := hd 5 8 rfl rfl
      refine opok_gen fun N hN => ?_
      clear hd ht
      go_simp
      exact hN.out _ _ ⟨hI, Below.refl _ _, rfl⟩
    · intro ev w1 ht hc hg hf hI hd
      have e6 : ev (.tmp 6) = _ := hd 3 6 rfl rfl
      have e9 : ev (.tmp 9) = _ := hd 6 9 rfl rfl
      refine opok_gen fun N hN => ?_
      clear hd ht
      go_simp
      exact hN.out _ _ ⟨hI, Below.refl _ _, rfl⟩
    · intro ev w1 ht hc hg hf hI hd
      have e10 : ev (.tmp 10) = _ := hd 7 10 rfl rfl
      exact opok_assign _ rfl ⟨hI, Below.refl _ _, e10⟩
  case hst =>
    refine fun j v w w' _ h1 h2 => StbL.nth (S := Grw) ?_ j v w w' h1 h2
    exact ⟨stb_eqv _, fun _ _ _ _ h => h, fun _ _ _ _ h => h, stb_eqv _, stb_eqv _, stb_eqv _, stb_eqv _, stb_eqv _, stb_eqv _, trivial⟩
  case hI => exact (Below.refl _ _).drew
  case hl =>
    rintro w1 hI _ rfl _ ⟨Ao, co, Ad, Ae, rfl⟩ _ ⟨Ao', co', rfl⟩ _ rfl _ rfl _ rfl _ rfl _ rfl _ rfl
    simp only [Lasts, List.length_cons, List.length_nil, Nat.reduceAdd, List.drop_succ_cons, List.drop_zero, Act.put, List.setIfInBounds_toArray, List.set_cons_succ, List.set_cons_zero]
    rw [wpList_none]
    go_wp2_with fail
    go_ret
    exact ⟨ret_bool (by first | exact hb' | exact rfl), below_step HB.out hI⟩

end Go.Proofs.Ytioiebjgjimeiaa
