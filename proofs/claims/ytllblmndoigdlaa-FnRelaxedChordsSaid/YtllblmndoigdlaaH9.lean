/- components -/
import Derived.Test.YtllblmndoigdlaaH4
namespace Go.Proofs.Ytllblmndoigdlaa
open Go.RowKit

def Gr.cmpJ (g : Gr) (k j : Nat) : Nat → Int := fun v => if v ∈ (g.ord k).take j then (k : Int) else g.cmp k v
theorem Gr.cmpJ_zero (g : Gr) (k : Nat) : g.cmpJ k 0 = g.cmp k := funext fun v => by simp [Gr.cmpJ]
theorem Gr.cmpJ_succ {g : Gr} {k j q : Nat} (h : (g.ord k)[j]? = some q) : g.cmpJ k (j + 1) = upd (g.cmpJ k j) q k := funext fun v => by
  unfold Gr.cmpJ upd
  rw [List.take_add_one, h]
  simp only [Option.toList_some, List.mem_append, List.mem_singleton]
  by_cases e : q = v
  · subst e; simp
  · have : ¬ v = q := fun h => e h.symm
    simp [e, this]
theorem Gr.cmpJ_end {g : Gr} {k j : Nat} (hc : g.cmp k k < 0) (h : (g.ord k).length ≤ j) : g.cmpJ k j = g.cmp (k + 1) := funext fun v => by
  show _ = (if g.cmp k k < 0 then fun v => if v ∈ g.ord k then (k : Int) else g.cmp k v else g.cmp k) v
  unfold Gr.cmpJ
  rw [if_pos hc, List.take_of_length_le h]
theorem Gr.cmp_skip {g : Gr} {k : Nat} (hc : ¬ g.cmp k k < 0) : g.cmp (k + 1) = g.cmp k := by
  show (if g.cmp k k < 0 then fun v => if v ∈ g.ord k then (k : Int) else g.cmp k v else g.cmp k) = _
  rw [if_neg hc]
theorem Gr.cmp_bnd {g : Gr} (k v : Nat) : -1 ≤ g.cmp k v ∧ g.cmp k v < k := by
  induction k with
  | zero => exact ⟨by simp [Gr.cmp], by simp [Gr.cmp]⟩
  | succ k ih =>
    show -1 ≤ (if g.cmp k k < 0 then fun v => if v ∈ g.ord k then (k : Int) else g.cmp k v else g.cmp k) v ∧ (if g.cmp k k < 0 then fun v => if v ∈ g.ord k then (k : Int) else g.cmp k v else g.cmp k) v < _
    by_cases hc : g.cmp k k < 0
    · rw [if_pos hc]
      by_cases hm : v ∈ g.ord k
      · simp only [if_pos hm]; omega
      · simp only [if_neg hm]; omega
    · rw [if_neg hc]; omega

theorem run_field_search0 (A1 A2 A3 : Option Addr) (a1 a2 a3 b1 b2 b3 : Nat) (w : World) :
    (Instr.field 101 (.agg #[.slice A1 a1 b1, .slice A2 a2 b2, .slice A3 a3 b3]) 0).run Try.prog w = .ok (.slice A1 a1 b1) w := by
  simp [go_sem, Instr.field, asAgg]
theorem run_field_search2 (A1 A2 A3 : Option Addr) (a1 a2 a3 b1 b2 b3 : Nat) (w : World) :
    (Instr.field 101 (.agg #[.slice A1 a1 b1, .slice A2 a2 b2, .slice A3 a3 b3]) 2).run Try.prog w = .ok (.slice A3 a3 b3) w := by
  simp [go_sem, Instr.field, asAgg]

set_option maxRecDepth 100000 in
set_option maxHeartbeats 4000000 in
theorem componentsOf_any (A : Option Addr) (n c : Nat) (B : Option Addr) (m d : Nat) (net : Net) (w : World) (h : NetAt w A n c B m d net) (ok : NetOK net) :
    Calls Try.prog 111 #[.agg #[.slice A n c, .slice B m d]] w fun e w' => ∃ Ac, e = .returned (.slice Ac n n) ∧ Own w' Ac n n (mapTo n (netG net).comp) ∧ Fresh w.heap.size Ac ∧ Below w.heap.size w w' := by
  have hn24 : n ≤ 24 := by have := ok.n24; have := h.nodes.len; omega
  have HNn : Hid ((netG net).n = n) := Lib.hid h.nodes.len
  have HB := Lib.hid (bel1 w (.cells #[.slice A n c, .slice B m d] 27))
  have bx0 : BX (w.alloc (.cells #[.slice A n c, .slice B m d] 27)) w.heap.size A n c B m d := ⟨heap_alloc_new w _⟩
  obtain ⟨W, hW⟩ : ∃ W, W = w.alloc (.cells #[.slice A n c, .slice B m d] 27) := ⟨_, rfl⟩
  have hWs : W.heap.size = w.heap.size + 1 := by rw [hW]; simp
  go_enter Try.func111, Try.ntmps111
  go_wp2_with (at_make; refine law_make _ rfl _ _ rfl n _ _ rfl rfl rfl rfl (by omega) ?_; intro w1 o1 b1 z1)
  rw [World.size_alloc] at o1
  rw [← hW] at b1 bx0 HB
  rw [ini_zero] at o1
  clear hW z1
  go_loopw [14] (fun i wr => ∃ k : Nat, k ≤ n ∧ i = .int .i64 k ∧ Own wr (some ⟨w.heap.size + 1, 0, none⟩) n n (mapTo n (ini k)) ∧ Below W.heap.size W wr) (fun i _ => n - (intOf i).toNat)
  case atStart => exact ⟨0, by omega, rfl, o1, b1⟩
  case round =>
    obtain ⟨k, hk, rfl, oe, hb⟩ := hrel
    clear o1 b1
    by_cases hlt : k < n
    · have c1 := oe.cell hlt
      have u1 := oe.unfrozen k
      have oe' := oe.store k (z := -1) ⟨by decide, by decide⟩
      rw [ini_set] at oe'
      have hb' := hb.setCell (p := ⟨w.heap.size + 1, k, none⟩) (by show W.heap.size ≤ w.heap.size + 1; omega) (.int .i64 (-1))
      have HE := Lib.hid oe'
      have HB' := Lib.hid hb'
      clear oe' hb' oe
      go_wp2_with fail
      go_roundw
      case rel => exact ⟨k + 1, by omega, by go_num, HE.out, HB'.out⟩
      case measure => simp [intOf]; omega
    · have hkn : n = k := by omega
      subst hkn
      rw [ini_end] at oe
      go_wp2_with fail
      go_loopw [23] (fun i wr => ∃ k : Nat, k ≤ n ∧ i = .int .i64 k ∧ Own wr (some ⟨w.heap.size + 1, 0, none⟩) n n (mapTo n ((netG net).cmp k)) ∧ Below W.heap.size W wr) (fun i _ => n - (intOf i).toNat)
      case atStart => exact ⟨0, by omega, rfl, oe, hb⟩
      case round =>
        obtain ⟨k, hk, rfl, oe, hb⟩ := hrel
        by_cases hlt : k < n
        · have c1 := oe.cell hlt
          rw [mapTo_ig hlt] at c1
          have hbn := Gr.cmp_bnd (g := netG net) k k
          by_cases hc : (netG net).cmp k k < 0
          · have kb := (bx0.step hb).c0
            have kb1 := (bx0.step hb).c1
            have HC := Lib.hid hc
            go_wp2_with fail
            refine (searchFrom_any _ _ _ _ _ _ net k _ (h.later (below_step HB.out hb)) ok hlt).mono ?_
            rintro e w4 ⟨Ao, lo, co, Ad, Ae, rfl, o4, _, f4, _, b4⟩
            have hlo := o4.len
            rw [nl_len] at hlo
            have hlo24 : lo ≤ n := by have := Gr.ord_len ok.g (r := k) (by rw [HNn.out]; exact hlt); rw [HNn.out] at this; omega
            have oe4 := oe.later b4
            have hb4 := below_step hb b4
            have hap : ∀ a, Ao = some a → a.block ≠ w.heap.size + 1 := fun a ha => by
              have h1 := f4 a ha
              have h2 := oe.lt _ rfl
              simp only at h2
              omega
            have HLO := Lib.hid hlo
            rw [← Gr.cmpJ_zero] at oe4
            clear kb kb1 c1 hlo hc hbn
            have hfl := run_field_search0 Ao Ad Ae lo n n co n n w4
            go_wp2_with fail
            clear hfl
            go_loopw [36] (fun i wr => ∃ j : Nat, j ≤ lo ∧ i = .int .i64 j ∧ Own wr (some ⟨w.heap.size + 1, 0, none⟩) n n (mapTo n ((netG net).cmpJ k j)) ∧ Own wr Ao lo co (nl ((netG net).ord k)) ∧ Below W.heap.size W wr) (fun i _ => lo - (intOf i).toNat)
            case atStart => exact ⟨0, by omega, rfl, oe4, o4, hb4⟩
            case round =>
              obtain ⟨j, hj, rfl, oe, oo, hb⟩ := hrel
              by_cases hjl : j < lo
              · obtain ⟨ga, rfl, hga⟩ := oo.pos (by omega)
                have hjl' : j < ((netG net).ord k).length := by rw [HLO.out]; exact hjl
                obtain ⟨q, hq⟩ : ∃ q, ((netG net).ord k)[j] = q := ⟨_, rfl⟩
                have cq := oo.cell hjl
                rw [nl_ig hjl', hq] at cq
                have hqn : q < n := by
                  have := Gr.ord_lt ok.g (r := k) (by rw [HNn.out]; exact hlt) q (hq ▸ List.getElem_mem hjl')
                  rw [HNn.out] at this; exact this
                have c2 := oe.cell hqn
                have u2 := oe.unfrozen q
                have oe' := oe.store q (z := k) ⟨by omega, by omega⟩
                rw [mapTo_upd, ← Gr.cmpJ_succ (by rw [List.getElem?_eq_getElem hjl', hq])] at oe'
                have hga2 := hap _ rfl
                have oo' := oo.far (p := ⟨w.heap.size + 1, q, none⟩) hap (.int .i64 k)
                have hb' := hb.setCell (p := ⟨w.heap.size + 1, q, none⟩) (by show W.heap.size ≤ w.heap.size + 1; omega) (.int .i64 k)
                have HE := Lib.hid oe'
                have HO := Lib.hid oo'
                have HB' := Lib.hid hb'
                clear oe' hb' oo' oe oo hq
                go_wp2_with fail
                go_roundw
                case rel => exact ⟨j + 1, by omega, by go_num, HE.out, HO.out, HB'.out⟩
                case measure => simp [intOf]; omega
              · rw [Gr.cmpJ_end HC.out (by rw [HLO.out]; omega)] at oe
                go_wp2_with fail
                go_roundw
                case rel => exact ⟨k + 1, by omega, by go_num, oe, hb⟩
                case measure => simp [intOf]; omega
          · rw [← Gr.cmp_skip hc] at oe
            go_wp2_with fail
            go_roundw
            case rel => exact ⟨k + 1, by omega, by go_num, oe, hb⟩
            case measure => simp [intOf]; omega
        · have hkn : n = k := by omega
          subst hkn
          go_wp2_with fail
          go_ret
          refine ⟨_, rfl, ?_, (fun a ha => by injection ha with ha; subst ha; show w.heap.size ≤ w.heap.size + 1; omega), below_step HB.out hb⟩
          unfold Gr.comp
          rw [HNn.out]; exact oe

end Go.Proofs.Ytllblmndoigdlaa

/- components: the reference; connected networks -/
namespace Go.Proofs.Ytllblmndoigdlaa
open Go.RowKit

set_option maxRecDepth 100000 in
set_option maxHeartbeats 4000000 in
theorem l04Components_any (A : Option Addr) (n c : Nat) (B : Option Addr) (m d : Nat) (net : Net) (w : World) (h : NetAt w A n c B m d net) (ok : NetOK net) :
    Calls Try.prog 115 #[.agg #[.slice A n c, .slice B m d]] w fun e w' => ∃ Ac, e = .returned (.slice Ac n n) ∧ Own w' Ac n n (mapTo n (netG net).comp) ∧ Fresh w.heap.size Ac ∧ Below w.heap.size w w' := by
  have hn24 : n ≤ 24 := by have := ok.n24; have := h.nodes.len; omega
  have HNn : Hid ((netG net).n = n) := Lib.hid h.nodes.len
  have HB := Lib.hid (bel1 w (.cells #[.slice A n c, .slice B m d] 27))
  have bx0 : BX (w.alloc (.cells #[.slice A n c, .slice B m d] 27)) w.heap.size A n c B m d := ⟨heap_alloc_new w _⟩
  obtain ⟨W, hW⟩ : ∃ W, W = w.alloc (.cells #[.slice A n c, .slice B m d] 27) := ⟨_, rfl⟩
  have hWs : W.heap.size = w.heap.size + 1 := by rw [hW]; simp
  go_enter Try.func115, Try.ntmps115
  go_wp2_with (at_make; refine law_make _ rfl _ _ rfl n _ _ rfl rfl rfl rfl (by omega) ?_; intro w1 o1 b1 z1)
  rw [World.size_alloc] at o1
  rw [← hW] at b1 bx0 HB
  rw [ini_zero] at o1
  clear hW z1
  go_loopw [4] (fun i wr => ∃ k : Nat, k ≤ n ∧ i = .int .i64 k ∧ Own wr (some ⟨w.heap.size + 1, 0, none⟩) n n (mapTo n (ini k)) ∧ Below W.heap.size W wr) (fun i _ => n - (intOf i).toNat)
  case atStart => exact ⟨0, by omega, rfl, o1, b1⟩
  case round =>
    obtain ⟨k, hk, rfl, oe, hb⟩ := hrel
    clear o1 b1
    by_cases hlt : k < n
    · have c1 := oe.cell hlt
      have u1 := oe.unfrozen k
      have oe' := oe.store k (z := -1) ⟨by decide, by decide⟩
      rw [ini_set] at oe'
      have hb' := hb.setCell (p := ⟨w.heap.size + 1, k, none⟩) (by show W.heap.size ≤ w.heap.size + 1; omega) (.int .i64 (-1))
      have HE := Lib.hid oe'
      have HB' := Lib.hid hb'
      clear oe' hb' oe
      go_wp2_with fail
      go_roundw
      case rel => exact ⟨k + 1, by omega, by go_num, HE.out, HB'.out⟩
      case measure => simp [intOf]; omega
    · have hkn : n = k := by omega
      subst hkn
      rw [ini_end] at oe
      go_wp2_with fail
      go_loopw [5] (fun i wr => ∃ k : Nat, k ≤ n ∧ i = .int .i64 k ∧ Own wr (some ⟨w.heap.size + 1, 0, none⟩) n n (mapTo n ((netG net).cmp k)) ∧ Below W.heap.size W wr) (fun i _ => n - (intOf i).toNat)
      case atStart => exact ⟨0, by omega, rfl, oe, hb⟩
      case round =>
        obtain ⟨k, hk, rfl, oe, hb⟩ := hrel
        by_cases hlt : k < n
        · have c1 := oe.cell hlt
          rw [mapTo_ig hlt] at c1
          have hbn := Gr.cmp_bnd (g := netG net) k k
          by_cases hc : (netG net).cmp k k < 0
          · have kb := (bx0.step hb).c0
            have kb1 := (bx0.step hb).c1
            have HC := Lib.hid hc
            go_wp2_with fail
            refine (l04Search_any _ _ _ _ _ _ net k _ (h.later (below_step HB.out hb)) ok hlt).mono ?_
            rintro e w4 ⟨Ao, lo, co, Ae, rfl, o4, _, f4, _, b4⟩
            have hlo := o4.len
            rw [nl_len] at hlo
            have hlo24 : lo ≤ n := by have := Gr.ord_len ok.g (r := k) (by rw [HNn.out]; exact hlt); rw [HNn.out] at this; omega
            have oe4 := oe.later b4
            have hb4 := below_step hb b4
            have hap : ∀ a, Ao = some a → a.block ≠ w.heap.size + 1 := fun a ha => by
              have h1 := f4 a ha
              have h2 := oe.lt _ rfl
              simp only at h2
              omega
            have HLO := Lib.hid hlo
            rw [← Gr.cmpJ_zero] at oe4
            clear kb kb1 c1 hlo hc hbn
            go_wp2_with fail
            go_loopw [8] (fun i wr => ∃ j : Nat, j ≤ lo ∧ i = .int .i64 j ∧ Own wr (some ⟨w.heap.size + 1, 0, none⟩) n n (mapTo n ((netG net).cmpJ k j)) ∧ Own wr Ao lo co (nl ((netG net).ord k)) ∧ Below W.heap.size W wr) (fun i _ => lo - (intOf i).toNat)
            case atStart => exact ⟨0, by omega, rfl, oe4, o4, hb4⟩
            case round =>
              obtain ⟨j, hj, rfl, oe, oo, hb⟩ := hrel
              by_cases hjl : j < lo
              · obtain ⟨ga, rfl, hga⟩ := oo.pos (by omega)
                have hjl' : j < ((netG net).ord k).length := by rw [HLO.out]; exact hjl
                obtain ⟨q, hq⟩ : ∃ q, ((netG net).ord k)[j] = q := ⟨_, rfl⟩
                have cq := oo.cell hjl
                rw [nl_ig hjl', hq] at cq
                have hqn : q < n := by
                  have := Gr.ord_lt ok.g (r := k) (by rw [HNn.out]; exact hlt) q (hq ▸ List.getElem_mem hjl')
                  rw [HNn.out] at this; exact this
                have c2 := oe.cell hqn
                have u2 := oe.unfrozen q
                have oe' := oe.store q (z := k) ⟨by omega, by omega⟩
                rw [mapTo_upd, ← Gr.cmpJ_succ (by rw [List.getElem?_eq_getElem hjl', hq])] at oe'
                have hga2 := hap _ rfl
                have oo' := oo.far (p := ⟨w.heap.size + 1, q, none⟩) hap (.int .i64 k)
                have hb' := hb.setCell (p := ⟨w.heap.size + 1, q, none⟩) (by show W.heap.size ≤ w.heap.size + 1; omega) (.int .i64 k)
                have HE := Lib.hid oe'
                have HO := Lib.hid oo'
                have HB' := Lib.hid hb'
                clear oe' hb' oo' oe oo hq
                go_wp2_with fail
                go_roundw
                case rel => exact ⟨j + 1, by omega, by go_num, HE.out, HO.out, HB'.out⟩
                case measure => simp [intOf]; omega
              · rw [Gr.cmpJ_end HC.out (by rw [HLO.out]; omega)] at oe
                go_wp2_with fail
                go_roundw
                case rel => exact ⟨k + 1, by omega, by go_num, oe, hb⟩
                case measure => simp [intOf]; omega
          · rw [← Gr.cmp_skip hc] at oe
            go_wp2_with fail
            go_roundw
            case rel => exact ⟨k + 1, by omega, by go_num, oe, hb⟩
            case measure => simp [intOf]; omega
        · have hkn : n = k := by omega
          subst hkn
          go_wp2_with fail
          go_ret
          refine ⟨_, rfl, ?_, (fun a ha => by injection ha with ha; subst ha; show w.heap.size ≤ w.heap.size + 1; omega), below_step HB.out hb⟩
          unfold Gr.comp
          rw [HNn.out]; exact oe

/-- the number of components among the first k nodes -/
def Gr.cnt (g : Gr) : Nat → Nat
  | 0 => 0
  | k + 1 => if g.comp k = k then g.cnt k + 1 else g.cnt k
theorem Gr.cnt_le (g : Gr) (k : Nat) : g.cnt k ≤ k := by
  induction k with
  | zero => exact Nat.le_refl _
  | succ k ih => unfold Gr.cnt; split <;> omega
def Gr.conn (g : Gr) : Bool := decide ((g.ord 0).length = g.n)
theorem Gr.conn_iff {g : Gr} (ok : g.ok) (hn : 0 < g.n) : g.conn = true ↔ ∀ v, v < g.n → g.root v = 0 := by
  have h0 := Gr.root_facts ok hn
  have h00 : g.root 0 = 0 := by omega
  have hiff : (∀ v, v < g.n → g.root v = 0) ↔ ∀ v, v < g.n → v ∈ g.ord 0 := by
    constructor
    · intro h v hv
      have := (Gr.root_facts ok hv).2.2.2
      rwa [h v hv] at this
    · exact fun h v hv => Gr.root_of_mem ok hn h00 (h v hv)
  rw [hiff]
  have hi := Gr.ord_inv ok hn
  have hnd : (g.ord 0).Nodup := hi.nodup
  have hlt := Gr.ord_lt ok hn
  unfold Gr.conn
  rw [decide_eq_true_eq]
  constructor
  · intro hl v hv
    refine Classical.byContradiction fun hm => ?_
    have : (v :: g.ord 0).length ≤ g.n := nodup_len (List.nodup_cons.2 ⟨hm, hnd⟩) (fun x hx => by
      rcases List.mem_cons.1 hx with rfl | hx
      · exact hv
      · exact hlt x hx)
    simp at this; omega
  · intro h
    have h1 := nodup_len hnd hlt
    have h2 : g.n ≤ (g.ord 0).length := by
      have hsub : ∀ (l l' : List Nat), l.Nodup → (∀ x ∈ l, x ∈ l') → l.length ≤ l'.length := by
        intro l
        induction l with
        | nil => intro l' _ _; simp
        | cons a l ih =>
          intro l' hn' hm
          obtain ⟨ha, hl⟩ := List.nodup_cons.1 hn'
          have := ih (l'.erase a) hl (fun x hx => (List.mem_erase_of_ne (by rintro rfl; exact ha hx)).2 (hm x (List.mem_cons_of_mem _ hx)))
          rw [List.length_erase_of_mem (hm a List.mem_cons_self)] at this
          have hpos : 0 < l'.length := List.length_pos_of_mem (hm a List.mem_cons_self)
          simp; omega
      have := hsub (List.range g.n) (g.ord 0) List.nodup_range (fun x hx => h x (List.mem_range.1 hx))
      simpa using this
    omega
theorem Gr.cnt_pos {g : Gr} (ok : g.ok) {k : Nat} (hk : 1 ≤ k) (hkn : k ≤ g.n) : 1 ≤ g.cnt k := by
  induction k with
  | zero => omega
  | succ k ih =>
    unfold Gr.cnt
    by_cases e : k = 0
    · subst e
      have h0 := Gr.root_facts ok (v := 0) (by omega)
      rw [if_pos (by rw [Gr.comp_root ok (by omega)]; omega)]
      omega
    · have := ih (by omega) (by omega)
      split <;> omega
theorem Gr.cnt_one {g : Gr} (ok : g.ok) {k : Nat} (hk : 1 ≤ k) (hkn : k ≤ g.n) : g.cnt k = 1 ↔ ∀ v, v < k → 0 < v → g.root v ≠ v := by
  induction k with
  | zero => omega
  | succ k ih =>
    have hc : g.comp k = (g.root k : Int) := Gr.comp_root ok (by omega)
    unfold Gr.cnt
    rw [hc]
    by_cases e : k = 0
    · subst e
      have h0 := Gr.root_facts ok (v := 0) (by omega)
      have h00 : g.root 0 = 0 := by omega
      rw [h00]
      constructor
      · intro _ v hv h0; omega
      · intro _; simp [Gr.cnt]
    · have hp := Gr.cnt_pos ok (k := k) (by omega) (by omega)
      have := ih (by omega) (by omega)
      by_cases hr : (g.root k : Int) = k
      · rw [if_pos hr]
        constructor
        · intro h; omega
        · intro h; exact absurd (by omega) (h k (by omega) (by omega))
      · rw [if_neg hr, this]
        constructor
        · intro h v hv h0
          by_cases hvk : v = k
          · subst hvk; omega
          · exact h v (by omega) h0
        · exact fun h v hv h0 => h v (by omega) h0
theorem Gr.cnt_conn {g : Gr} (ok : g.ok) (hn : 0 < g.n) : g.cnt g.n = 1 ↔ g.conn = true := by
  rw [Gr.conn_iff ok hn, Gr.cnt_one ok hn (Nat.le_refl _)]
  constructor
  · intro h v hv
    have hf := Gr.root_facts ok hv
    by_cases e : g.root v = 0
    · exact e
    · exact absurd hf.2.2.1 (h _ hf.1 (by omega))
  · intro h v hv h0 e
    have := h v hv
    omega

end Go.Proofs.Ytllblmndoigdlaa

/- even supplies -/
namespace Go.Proofs.Ytllblmndoigdlaa
open Go.RowKit

def Gr.sumsK (g : Gr) (sup : Nat → Int) (k c : Nat) : Int := sumTo (fun v => if g.root v = c then sup v else 0) k
theorem Gr.sumsK_succ {g : Gr} {sup : Nat → Int} {n k : Nat} : (mapTo n (g.sumsK sup k)).set (g.root k) (g.sumsK sup k (g.root k) + sup k) = mapTo n (g.sumsK sup (k + 1)) := mapTo_set fun v _ => by
  show sumTo _ k + (if g.root k = v then sup k else 0) = _
  by_cases e : g.root k = v
  · subst e; rw [if_pos rfl, if_pos rfl]; rfl
  · rw [if_neg e, if_neg e, Int.add_zero]; rfl
def evB (net : Net) (zs : List Int) : Bool := allB (mapTo net.nodes.length ((netG net).sums (ig zs))) 0 0
theorem evB_iff {net : Net} {zs : List Int} : evB net zs = true ↔ (netG net).even (ig zs) := by
  unfold evB allB Gr.even
  rw [List.all_eq_true]
  constructor
  · intro h c hc
    have := h ((netG net).sums (ig zs) c) (List.mem_map.2 ⟨c, List.mem_range.2 hc, rfl⟩)
    unfold inB at this
    simp at this
    omega
  · intro h z hz
    obtain ⟨c, hc, rfl⟩ := List.mem_map.1 hz
    rw [h c (List.mem_range.1 hc)]
    rfl
theorem sumsK_bnd {net : Net} {zs : List Int} (h : supB net zs = true) (c : Nat) (k : Nat) (hk : k ≤ 24) : -720000 ≤ (netG net).sumsK (ig zs) k c ∧ (netG net).sumsK (ig zs) k c ≤ 720000 := by
  have := sumTo_le (f := fun v => if (netG net).root v = c then ig zs v else 0) (k := k) (N := 24) (M := 30000) (by omega) (by omega) fun j hj => by
    have h1 := supB_all h j
    by_cases e : (netG net).root j = c
    · simp only [if_pos e]; exact h1
    · simp only [if_neg e]; omega
  exact this

set_option maxHeartbeats 1000000 in
theorem l05Zero_any (A : Option Addr) (n c : Nat) (zs : List Int) (w : World) (h : Ints w A n c zs) :
    Calls Try.prog 57 #[.slice A n c] w fun e w' => e = .returned (.bool (allB zs 0 0)) ∧ w = w' := by
  have hlen := Lib.hid h.len
  have hle := h.le
  have hcap := h.cap
  go_enter Try.func57, Try.ntmps57
  go_wp2_with fail
  go_loop [3] (fun i => ∃ k : Nat, k ≤ n ∧ i = .int .i64 k ∧ Hid (∀ j, j < k → inB (ig zs j) 0 0 = true)) (fun i => n - (intOf i).toNat)
  case atStart => exact ⟨0, by omega, rfl, Lib.hid (fun j hj => absurd hj (by omega))⟩
  case round =>
    obtain ⟨k, hk, rfl, hall⟩ := hrel
    by_cases hlt : k < n
    · obtain ⟨b, off, rfl, hb, hc⟩ := h.cells (by omega)
      have hck := hc k hlt
      clear hc
      by_cases e : ig zs k = 0
      · have g : (ig zs k != 0) = false := by simp [e]
        have H2 : Hid (∀ j, j < k + 1 → inB (ig zs j) 0 0 = true) := Lib.hid (fun j hj => by
          by_cases h' : j = k
          · subst h'; rw [e]; rfl
          · exact hall.out j (by omega))
        clear e
        generalize ig zs k = x at *
        go_wp2_with fail
        go_round
        case rel => exact ⟨k + 1, by omega, by go_num, H2⟩
        case measure => simp [intOf]; omega
      · have g : (ig zs k != 0) = true := by simp [e]
        have H2 : Hid (allB zs 0 0 = false) := Lib.hid (allB_no (k := k) (by rw [hlen.out]; exact hlt) (by unfold inB; simp; omega))
        clear e
        generalize ig zs k = x at *
        go_wp2_with fail
        go_ret
        exact ⟨ret_bool H2.out.symm, rfl⟩
    · have hkn : n = k := by omega
      subst hkn
      have H2 : Hid (allB zs 0 0 = true) := Lib.hid (allB_yes (k := n) (by rw [hlen.out]; omega) hall.out)
      go_wp2_with fail
      go_ret
      exact ⟨ret_bool H2.out.symm, rfl⟩

set_option maxRecDepth 100000 in
set_option maxHeartbeats 4000000 in
theorem isEven_is (A : Option Addr) (n c : Nat) (B : Option Addr) (m d : Nat) (net : Net) (C : Option Addr) (l e : Nat) (zs : List Int) (b : Bool) (w : World) (h : NetAt w A n c B m d net) (hz : Ints w C l e zs) (ok : NetOK net) (hs : supB net zs = true) (hb : evB net zs = b) :
    Calls Try.prog 65 #[.agg #[.slice A n c, .slice B m d], .slice C l e] w fun e w' => e = .returned (.bool b) ∧ Below w.heap.size w w' := by
  have hn24 : n ≤ 24 := by have := ok.n24; have := h.nodes.len; omega
  have HNn : Hid ((netG net).n = n) := Lib.hid h.nodes.len
  have hl : n = l := by have := supB_len hs; have := h.nodes.len; have := hz.len; omega
  subst hl
  have HS := Lib.hid hs
  have HE : Hid (allB (mapTo n ((netG net).sumsK (ig zs) n)) 0 0 = b) := Lib.hid (by rw [← hb]; unfold evB Gr.sums Gr.sumsK; rw [HNn.out, h.nodes.len])
  have HB := Lib.hid (bel1 w (.cells #[.slice A n c, .slice B m d] 27))
  have bx0 : BX (w.alloc (.cells #[.slice A n c, .slice B m d] 27)) w.heap.size A n c B m d := ⟨heap_alloc_new w _⟩
  obtain ⟨W, hW⟩ : ∃ W, W = w.alloc (.cells #[.slice A n c, .slice B m d] 27) := ⟨_, rfl⟩
  have hWs : W.heap.size = w.heap.size + 1 := by rw [hW]; simp
  clear hs hb
  go_enter Try.func65, Try.ntmps65
  go_wp2_with (at_make; refine law_make _ rfl _ _ rfl n _ _ rfl rfl rfl rfl (by omega) ?_; intro w1 o1 b1 z1; have kx := bx0.step b1; have k0 := kx.c0; have k1 := kx.c1)
  rw [World.size_alloc] at o1
  rw [← hW] at b1 HB
  have t1 := below_step HB.out b1
  refine (componentsOf_any _ _ _ _ _ _ net _ (h.later t1) ok).mono ?_
  rintro e w2 ⟨Ac, rfl, o2, f2, b2⟩
  have t2 := below_step t1 b2
  have o12 := o1.later b2
  have hac : ∀ a, Ac = some a → a.block ≠ w.heap.size + 1 := fun a ha => by
    have h1 := f2 a ha
    have h2 := o1.lt _ rfl
    simp only at h2
    omega
  rw [show List.replicate n (0 : Int) = mapTo n ((netG net).sumsK (ig zs) 0) from (mapTo_const n 0).symm] at o12
  clear k0 k1 kx hW z1 o1
  go_wp2_with fail
  go_loopw [15] (fun i wr => ∃ k : Nat, k ≤ n ∧ i = .int .i64 k ∧ Own wr (some ⟨w.heap.size + 1, 0, none⟩) n n (mapTo n ((netG net).sumsK (ig zs) k)) ∧ Own wr Ac n n (mapTo n (netG net).comp) ∧ Below w.heap.size w wr) (fun i _ => n - (intOf i).toNat)
  case atStart => exact ⟨0, by omega, rfl, o12, o2, t2⟩
  case round =>
    obtain ⟨k, hk, rfl, os, oc, hb⟩ := hrel
    clear o12 o2
    by_cases hlt : k < n
    · obtain ⟨ga, rfl, hga⟩ := oc.pos (by omega)
      have c1 := oc.cell hlt
      rw [mapTo_ig hlt, Gr.comp_root ok.g (by rw [HNn.out]; exact hlt)] at c1
      have hrn : (netG net).root k < n := by have := (Gr.root_facts ok.g (v := k) (by rw [HNn.out]; exact hlt)).1; rw [HNn.out] at this; exact this
      have c2 := os.cell hrn
      rw [mapTo_ig hrn] at c2
      have u2 := os.unfrozen ((netG net).root k)
      obtain ⟨bb, off, rfl, hbl, hc⟩ := (hz.later hb).cells (by omega)
      have hck := hc k hlt
      have hbs := hb.size
      have hbbne : bb ≠ w.heap.size + 1 := by
        obtain ⟨bb', off', hbb, hlt', _⟩ := hz.cells (by omega)
        injection hbb with hbb
        injection hbb with hbb1 _
        omega
      have hgane := hac _ rfl
      have hbn := sumsK_bnd HS.out ((netG net).root k) k (by omega)
      have hzk := supB_all HS.out k
      have os' := os.store ((netG net).root k) (z := (netG net).sumsK (ig zs) k ((netG net).root k) + ig zs k) ⟨by omega, by omega⟩
      rw [Gr.sumsK_succ] at os'
      have oc' := oc.far (p := ⟨w.heap.size + 1, (netG net).root k, none⟩) hac (.int .i64 ((netG net).sumsK (ig zs) k ((netG net).root k) + ig zs k))
      have hb' := hb.setCell (p := ⟨w.heap.size + 1, (netG net).root k, none⟩) (by show w.heap.size ≤ w.heap.size + 1; omega) (.int .i64 ((netG net).sumsK (ig zs) k ((netG net).root k) + ig zs k))
      have OS := Lib.hid os'
      have OC := Lib.hid oc'
      have HB' := Lib.hid hb'
      clear os' oc' hb' hc oc os
      generalize (netG net).root k = R at *
      generalize (netG net).sumsK (ig zs) k R = X at *
      go_wp2_with fail
      go_region
      go_wp2_with fail
      go_roundw
      case rel => exact ⟨k + 1, by omega, by go_num, OS.out.later (Below.refl _ _).drew, OC.out.later (Below.refl _ _).drew, HB'.out.drew⟩
      case measure => simp [intOf]; omega
    · have hkn : n = k := by omega
      subst hkn
      go_wp2_with fail
      refine (allWithin_any _ _ _ _ _ _ _ os.ints).mono ?_
      rintro e w' ⟨rfl, rfl⟩
      rw [HE.out]
      go_wp2_with fail
      go_ret
      exact ⟨rfl, hb⟩
set_option maxRecDepth 100000 in
set_option maxHeartbeats 4000000 in
theorem l06Even_is (A : Option Addr) (n c : Nat) (B : Option Addr) (m d : Nat) (net : Net) (C : Option Addr) (l e : Nat) (zs : List Int) (b : Bool) (w : World) (h : NetAt w A n c B m d net) (hz : Ints w C l e zs) (ok : NetOK net) (hs : supB net zs = true) (hb : evB net zs = b) :
    Calls Try.prog 68 #[.agg #[.slice A n c, .slice B m d], .slice C l e] w fun e w' => e = .returned (.bool b) ∧ Below w.heap.size w w' := by
  have hn24 : n ≤ 24 := by have := ok.n24; have := h.nodes.len; omega
  have HNn : Hid ((netG net).n = n) := Lib.hid h.nodes.len
  have hl : n = l := by have := supB_len hs; have := h.nodes.len; have := hz.len; omega
  subst hl
  have HS := Lib.hid hs
  have HE : Hid (allB (mapTo n ((netG net).sumsK (ig zs) n)) 0 0 = b) := Lib.hid (by rw [← hb]; unfold evB Gr.sums Gr.sumsK; rw [HNn.out, h.nodes.len])
  have HB := Lib.hid (bel1 w (.cells #[.slice A n c, .slice B m d] 27))
  obtain ⟨W, hW⟩ : ∃ W, W = w.alloc (.cells #[.slice A n c, .slice B m d] 27) := ⟨_, rfl⟩
  have hWs : W.heap.size = w.heap.size + 1 := by rw [hW]; simp
  clear hs hb
  go_enter Try.func68, Try.ntmps68
  go_wp2_with fail
  refine (l04Components_any _ _ _ _ _ _ net _ (h.later HB.out) ok).mono ?_
  rintro e w1 ⟨Ac, rfl, o2', f2, b1⟩
  rw [← hW] at b1 f2 HB
  have t1 := below_step HB.out b1
  go_wp2_with (at_make; refine law_make _ rfl _ _ rfl n _ _ rfl rfl rfl rfl (by omega) ?_; intro w2 o12 b2 z1)
  have t2 := below_step t1 b2
  have o2 := o2'.later b2
  obtain ⟨gs, hgs⟩ : ∃ gs, w1.heap.size = gs := ⟨_, rfl⟩
  have hgs2 : w.heap.size ≤ gs := by have := t1.size; omega
  rw [hgs] at o12 ⊢
  have hac : ∀ a, Ac = some a → a.block ≠ gs := fun a ha => by
    have h2 := o2'.lt a ha
    omega
  rw [show List.replicate n (0 : Int) = mapTo n ((netG net).sumsK (ig zs) 0) from (mapTo_const n 0).symm] at o12
  clear hW z1 o2'
  go_loopw [7] (fun i wr => ∃ k : Nat, k ≤ n ∧ i = .int .i64 k ∧ Own wr (some ⟨gs, 0, none⟩) n n (mapTo n ((netG net).sumsK (ig zs) k)) ∧ Own wr Ac n n (mapTo n (netG net).comp) ∧ Below w.heap.size w wr) (fun i _ => n - (intOf i).toNat)
  case atStart => exact ⟨0, by omega, rfl, o12, o2, t2⟩
  case round =>
    obtain ⟨k, hk, rfl, os, oc, hb⟩ := hrel
    clear o12 o2
    by_cases hlt : k < n
    · obtain ⟨ga, rfl, hga⟩ := oc.pos (by omega)
      have c1 := oc.cell hlt
      rw [mapTo_ig hlt, Gr.comp_root ok.g (by rw [HNn.out]; exact hlt)] at c1
      have hrn : (netG net).root k < n := by have := (Gr.root_facts ok.g (v := k) (by rw [HNn.out]; exact hlt)).1; rw [HNn.out] at this; exact this
      have c2 := os.cell hrn
      rw [mapTo_ig hrn] at c2
      have u2 := os.unfrozen ((netG net).root k)
      obtain ⟨bb, off, rfl, hbl, hc⟩ := (hz.later hb).cells (by omega)
      have hck := hc k hlt
      have hzle := hz.le
      have hzcap := hz.cap
      have hbs := hb.size
      have hbbne : bb ≠ gs := by
        obtain ⟨bb', off', hbb, hlt', _⟩ := hz.cells (by omega)
        injection hbb with hbb
        injection hbb with hbb1 _
        omega
      have hgane := hac _ rfl
      have hbn := sumsK_bnd HS.out ((netG net).root k) k (by omega)
      have hzk := supB_all HS.out k
      have os' := os.store ((netG net).root k) (z := (netG net).sumsK (ig zs) k ((netG net).root k) + ig zs k) ⟨by omega, by omega⟩
      rw [Gr.sumsK_succ] at os'
      have oc' := oc.far (p := ⟨gs, (netG net).root k, none⟩) hac (.int .i64 ((netG net).sumsK (ig zs) k ((netG net).root k) + ig zs k))
      have hb' := hb.setCell (p := ⟨gs, (netG net).root k, none⟩) (by exact hgs2) (.int .i64 ((netG net).sumsK (ig zs) k ((netG net).root k) + ig zs k))
      have OS := Lib.hid os'
      have OC := Lib.hid oc'
      have HB' := Lib.hid hb'
      clear os' oc' hb' hc oc os
      generalize (netG net).root k = R at *
      generalize (netG net).sumsK (ig zs) k R = X at *
      go_wp2_with fail
      go_region
      go_wp2_with fail
      go_roundw
      case rel => exact ⟨k + 1, by omega, by go_num, OS.out.later (Below.refl _ _).drew, OC.out.later (Below.refl _ _).drew, HB'.out.drew⟩
      case measure => simp [intOf]; omega
    · have hkn : n = k := by omega
      subst hkn
      go_wp2_with fail
      refine (l05Zero_any _ _ _ _ _ os.ints).mono ?_
      rintro e w' ⟨rfl, rfl⟩
      rw [HE.out]
      go_wp2_with fail
      go_ret
      exact ⟨rfl, hb⟩

end Go.Proofs.Ytllblmndoigdlaa

/- plain graphs: levels -/
namespace Go.Proofs.Ytllblmndoigdlaa

/-- the levels after j steps of the search from 0 -/
def Gr.levS (g : Gr) (dr : Nat → Int) : Nat → Nat → Int
  | 0 => fun _ => 0
  | j + 1 => match (g.ord 0)[j + 1]? with
    | some x => upd (g.levS dr j) x (if g.t (g.ent 0 x).toNat = x then g.levS dr j (g.f (g.ent 0 x).toNat) - dr (g.ent 0 x).toNat else g.levS dr j (g.t (g.ent 0 x).toNat) + dr (g.ent 0 x).toNat)
    | none => g.levS dr j
def Gr.base (g : Gr) (dr : Nat → Int) : Nat → Int := g.levS dr ((g.ord 0).length - 1)
def Gr.lev (g : Gr) (dr : Nat → Int) (root : Nat) (level : Int) (v : Nat) : Int := g.base dr v + (level - g.base dr root)

/-- levels that differ by the drops along the forest -/
def Gr.LV (g : Gr) (dr L : Nat → Int) : Prop := ∀ e, g.F e → L (g.f e) - L (g.t e) = dr e

theorem idxOf_at {l : List Nat} (hn : l.Nodup) {j x : Nat} (h : l[j]? = some x) : l.idxOf x = j := by
  obtain ⟨hj, e⟩ := List.getElem?_eq_some_iff.1 h
  rw [← e]; exact hn.idxOf_getElem j hj

theorem Gr.levS_inv {g : Gr} (ok : g.ok) (hn : 0 < g.n) (dr : Nat → Int) (j : Nat) : ∀ i, 1 ≤ i → i ≤ j → ∀ x, (g.ord 0)[i]? = some x → g.levS dr j (g.f (g.ent 0 x).toNat) - g.levS dr j (g.t (g.ent 0 x).toNat) = dr (g.ent 0 x).toNat := by
  have hi := Gr.ord_inv ok hn
  have hnd : (g.ord 0).Nodup := hi.nodup
  have hr0 : (g.ord 0).idxOf 0 = 0 := Gr.idxOf_r ok hn
  have key : ∀ k x, 1 ≤ k → (g.ord 0)[k]? = some x → ∃ e y : Nat, g.ent 0 x = e ∧ e < g.m ∧ g.joins e x y ∧ (g.ord 0).idxOf y < k ∧ x ≠ y := by
    intro k x hk hx
    have hxi := idxOf_at hnd hx
    have hx0 : x ≠ 0 := by rintro rfl; omega
    obtain ⟨e, h1, h2, y, hy, h3, h4⟩ := hi.ent x (List.mem_of_getElem? hx) hx0
    have h3' : (g.ord 0).idxOf y < (g.ord 0).idxOf x := h3
    exact ⟨e, y, h1, h2, h4, by omega, by rintro rfl; omega⟩
  induction j with
  | zero => intro i h1 h2; omega
  | succ j ih =>
    intro i h1 h2 x hx
    obtain ⟨e, y, he, hem, hj, hyi, hxy⟩ := key i x h1 hx
    have hxi := idxOf_at hnd hx
    rw [he, Int.toNat_natCast]
    rcases hz : (g.ord 0)[j + 1]? with _ | z
    · have e1 : g.levS dr (j + 1) = g.levS dr j := by simp [Gr.levS, hz]
      have : i ≠ j + 1 := by rintro rfl; rw [hz] at hx; cases hx
      rw [e1]
      have := ih i h1 (by omega) x hx
      rwa [he, Int.toNat_natCast] at this
    · obtain ⟨e', y', he', hem', hj', hyi', hxy'⟩ := key (j + 1) z (by omega) hz
      have e1 : g.levS dr (j + 1) = upd (g.levS dr j) z (if g.t e' = z then g.levS dr j (g.f e') - dr e' else g.levS dr j (g.t e') + dr e') := by simp [Gr.levS, hz, he']
      have hzi := idxOf_at hnd hz
      rw [e1]
      unfold upd
      by_cases hij : i = j + 1
      · subst hij
        rw [hz] at hx
        injection hx with hx
        subst hx
        have : e = e' := by omega
        subst this
        have o := ok e hem
        by_cases ht : g.t e = z
        · rw [if_pos ht, if_neg (by omega), if_pos ht.symm]; omega
        · have hf : g.f e = z := by rcases hj with ⟨a, b⟩ | ⟨a, b⟩ <;> omega
          rw [if_neg ht, if_pos hf.symm, if_neg (by omega)]; omega
      · have := ih i h1 (by omega) x hx
        rw [he, Int.toNat_natCast] at this
        have hzx : z ≠ x := by rintro rfl; omega
        have hzy : z ≠ y := by rintro rfl; omega
        rw [if_neg (by rcases hj with ⟨a, b⟩ | ⟨a, b⟩ <;> omega), if_neg (by rcases hj with ⟨a, b⟩ | ⟨a, b⟩ <;> omega)]
        exact this
theorem Gr.base_lv {g : Gr} (ok : g.ok) (hn : 0 < g.n) (hc : g.conn = true) (dr : Nat → Int) : g.LV dr (g.base dr) := by
  intro e hF
  obtain ⟨v, y, hv, hy, hvr, hfe, hem, hj, _⟩ := Gr.F_facts ok hF
  have hc' := (Gr.conn_iff ok hn).1 hc
  have hv0 := hc' v hv
  have hmem := (Gr.root_facts ok hv).2.2.2
  rw [hv0] at hmem
  unfold Gr.fe at hfe
  rw [hv0] at hfe
  obtain ⟨i, hi, hie⟩ := List.getElem_of_mem hmem
  have hget : (g.ord 0)[i]? = some v := by rw [List.getElem?_eq_getElem hi, hie]
  have hi0 : 1 ≤ i := by
    rcases Nat.eq_zero_or_pos i with h0 | h0
    · subst h0
      have h1 := idxOf_at (Gr.ord_inv ok hn).nodup hget
      have h2 := Gr.idxOf_pos ok hn (x := v) (by omega)
      have h1' : (g.ord 0).idxOf v = 0 := h1
      omega
    · exact h0
  have := Gr.levS_inv ok hn dr ((g.ord 0).length - 1) i hi0 (by omega) v hget
  rwa [hfe, Int.toNat_natCast] at this
theorem Gr.lev_lv {g : Gr} (ok : g.ok) (hn : 0 < g.n) (hc : g.conn = true) (dr : Nat → Int) (root : Nat) (level : Int) : g.LV dr (g.lev dr root level) := by
  intro e hF
  have := Gr.base_lv ok hn hc dr e hF
  unfold Gr.lev; omega
theorem Gr.lev_root (g : Gr) (dr : Nat → Int) (root : Nat) (level : Int) : g.lev dr root level root = level := by unfold Gr.lev; omega
theorem Gr.LV.uniq {g : Gr} (ok : g.ok) (hn : 0 < g.n) (hc : g.conn = true) {dr L L' : Nat → Int} (h : g.LV dr L) (h' : g.LV dr L') {r : Nat} (hr : r < g.n) (e : L r = L' r) : ∀ v, v < g.n → L v = L' v := by
  have hc' := (Gr.conn_iff ok hn).1 hc
  have key : ∀ v, v < g.n → (L v - L' v = L 0 - L' 0) := by
    intro v hv
    have := Gr.forest_all ok (C := fun x => L x - L' x = L 0 - L' 0) (fun e hF => by
      have a := h e hF
      have b := h' e hF
      constructor <;> intro hh <;> omega) hv
    rw [hc' v hv] at this
    exact this.2 rfl
  intro v hv
  have h1 := key v hv
  have h2 := key r hr
  omega
theorem Gr.levS_bnd {g : Gr} {dr : Nat → Int} {M : Int} (hM : 0 ≤ M) (hd : ∀ e, -M ≤ dr e ∧ dr e ≤ M) (j : Nat) : ∀ v, -(M * j) ≤ g.levS dr j v ∧ g.levS dr j v ≤ M * j := by
  induction j with
  | zero => intro v; simp [Gr.levS]
  | succ j ih =>
    intro v
    have e : M * ((j + 1 : Nat) : Int) = M * j + M := by rw [Int.natCast_add, Int.mul_add]; simp
    rw [e]
    have h0 := ih v
    rcases hz : (g.ord 0)[j + 1]? with _ | z
    · rw [show g.levS dr (j + 1) = g.levS dr j by simp [Gr.levS, hz]]; omega
    · rw [show g.levS dr (j + 1) = upd (g.levS dr j) z (if g.t (g.ent 0 z).toNat = z then g.levS dr j (g.f (g.ent 0 z).toNat) - dr (g.ent 0 z).toNat else g.levS dr j (g.t (g.ent 0 z).toNat) + dr (g.ent 0 z).toNat) by simp [Gr.levS, hz]]
      unfold upd
      have h1 := ih (g.f (g.ent 0 z).toNat)
      have h2 := ih (g.t (g.ent 0 z).toNat)
      have h3 := hd (g.ent 0 z).toNat
      split
      · split <;> omega
      · omega

end Go.Proofs.Ytllblmndoigdlaa

/- the forest: the reference -/
namespace Go.Proofs.Ytllblmndoigdlaa
open Go.RowKit

/-- the pipes that are entries of the searches from the roots below k, and of the first j nodes in the search from k -/
def Gr.FS (g : Gr) (k j : Nat) (p : Nat) : Prop := (∃ r v, r < k ∧ v < g.n ∧ g.root r = r ∧ g.ent r v = p) ∨ ∃ v, v < j ∧ g.ent k v = p
def Mks (m : Nat) (bs : List Bool) (S : Nat → Prop) : Prop := ∀ p, p < m → (bg bs p = true ↔ S p)
theorem bg_set (xs : List Bool) (i j : Nat) (x : Bool) : bg (xs.set i x) j = if i = j ∧ i < xs.length then x else bg xs j := by
  unfold bg
  rw [List.getD_eq_getElem?_getD, List.getD_eq_getElem?_getD, List.getElem?_set]
  by_cases h : i = j
  · subst h
    by_cases h' : i < xs.length
    · simp [h']
    · simp [h']
  · simp [h]
theorem Mks.put {m : Nat} {bs : List Bool} {S S' : Nat → Prop} (h : Mks m bs S) (hl : bs.length = m) {q : Nat} (hS : ∀ p, p < m → (S' p ↔ S p ∨ p = q)) : Mks m (bs.set q true) S' := by
  intro p hp
  rw [bg_set, hl, hS p hp, ← h p hp]
  by_cases e : q = p
  · subst e; simp [hp]
  · have : ¬ p = q := fun h => e h.symm
    simp [e, this]
theorem Mks.congr {m : Nat} {bs : List Bool} {S S' : Nat → Prop} (h : Mks m bs S) (hS : ∀ p, p < m → (S' p ↔ S p)) : Mks m bs S' := fun p hp => (h p hp).trans (hS p hp).symm
theorem Gr.FS_start {g : Gr} (m : Nat) : Mks m (List.replicate m false) (g.FS 0 0) := by
  intro p hp
  have : bg (List.replicate m false) p = false := by unfold bg; simp [hp]
  rw [this]
  constructor
  · intro h; cases h
  · rintro (⟨r, v, h, _⟩ | ⟨v, h, _⟩) <;> omega
theorem Gr.FS_step {g : Gr} {k j p : Nat} : g.FS k (j + 1) p ↔ g.FS k j p ∨ g.ent k j = p := by
  unfold Gr.FS
  constructor
  · rintro (h | ⟨v, hv, e⟩)
    · exact .inl (.inl h)
    · by_cases hvj : v = j
      · subst hvj; exact .inr e
      · exact .inl (.inr ⟨v, by omega, e⟩)
  · rintro ((h | ⟨v, hv, e⟩) | e)
    · exact .inl h
    · exact .inr ⟨v, by omega, e⟩
    · exact .inr ⟨j, by omega, e⟩
theorem Gr.FS_next {g : Gr} {k p : Nat} (hk : g.root k = k) : g.FS (k + 1) 0 p ↔ g.FS k g.n p := by
  unfold Gr.FS
  constructor
  · rintro (⟨r, v, hr, hv, h1, h2⟩ | ⟨v, hv, e⟩)
    · by_cases e : r = k
      · subst e; exact .inr ⟨v, hv, h2⟩
      · exact .inl ⟨r, v, by omega, hv, h1, h2⟩
    · omega
  · rintro (⟨r, v, hr, hv, h1, h2⟩ | ⟨v, hv, e⟩)
    · exact .inl ⟨r, v, by omega, hv, h1, h2⟩
    · exact .inl ⟨k, v, by omega, hv, hk, e⟩
theorem Gr.FS_skip {g : Gr} {k p : Nat} (hk : g.root k ≠ k) : g.FS (k + 1) 0 p ↔ g.FS k 0 p := by
  unfold Gr.FS
  constructor
  · rintro (⟨r, v, hr, hv, h1, h2⟩ | ⟨v, hv, e⟩)
    · exact .inl ⟨r, v, by have : r ≠ k := (by rintro rfl; exact hk h1); omega, hv, h1, h2⟩
    · omega
  · rintro (⟨r, v, hr, hv, h1, h2⟩ | ⟨v, hv, e⟩)
    · exact .inl ⟨r, v, by omega, hv, h1, h2⟩
    · omega
theorem Gr.ent_mem {g : Gr} (ok : g.ok) {r v : Nat} (hr : r < g.n) {p : Nat} (h : g.ent r v = p) : v ∈ g.ord r := by
  refine Classical.byContradiction fun hm => ?_
  have := (Gr.ord_inv ok hr).none v (.inl hm)
  have h' : (g.bfs r).2 v = p := h
  omega
theorem Gr.ent_lt {g : Gr} (ok : g.ok) {r v : Nat} (hr : r < g.n) {p : Nat} (h : g.ent r v = p) : p < g.m := by
  have hm := Gr.ent_mem ok hr h
  have hne : v ≠ r := by
    rintro rfl
    have := (Gr.ord_inv ok hr).none v (.inr rfl)
    have h' : (g.bfs v).2 v = p := h
    omega
  obtain ⟨i, h1, h2, _⟩ := (Gr.ord_inv ok hr).ent v hm hne
  have h' : (g.bfs r).2 v = p := h
  omega
theorem Gr.ent_cases {g : Gr} (ok : g.ok) {r v : Nat} (hr : r < g.n) : g.ent r v = -1 ∨ ∃ p : Nat, g.ent r v = p ∧ p < g.m := by
  by_cases hm : v ∈ g.ord r
  · by_cases hne : v = r
    · exact .inl ((Gr.ord_inv ok hr).none v (.inr hne))
    · obtain ⟨i, h1, h2, _⟩ := (Gr.ord_inv ok hr).ent v hm hne
      exact .inr ⟨i, h1, h2⟩
  · exact .inl ((Gr.ord_inv ok hr).none v (.inl hm))
theorem Gr.FS_end {g : Gr} (ok : g.ok) {p : Nat} : g.FS g.n 0 p ↔ g.F p := by
  unfold Gr.FS
  constructor
  · rintro (⟨r, v, hr, hv, h1, h2⟩ | ⟨v, hv, e⟩)
    · have := Gr.root_of_mem ok hr h1 (Gr.ent_mem ok hr h2)
      exact ⟨v, hv, by unfold Gr.fe; rw [this]; exact h2⟩
    · omega
  · rintro ⟨v, hv, e⟩
    have hf := Gr.root_facts ok hv
    exact .inl ⟨g.root v, v, hf.1, hv, hf.2.2.1, e⟩
theorem Gr.forK_succ (g : Gr) (k : Nat) : g.forK (k + 1) = if g.Fb k then g.forK k ++ [k] else g.forK k := by
  unfold Gr.forK
  rw [List.range_succ, List.filter_append]
  by_cases h : g.Fb k = true
  · simp [h]
  · simp [h]
theorem Gr.forK_len (g : Gr) (k : Nat) : (g.forK k).length ≤ k := by
  have := List.length_filter_le g.Fb (List.range k)
  simpa [Gr.forK] using this

set_option maxRecDepth 100000 in
set_option maxHeartbeats 4000000 in
theorem l04Forest_any (A : Option Addr) (n c : Nat) (B : Option Addr) (m d : Nat) (net : Net) (w : World) (h : NetAt w A n c B m d net) (ok : NetOK net) :
    Calls Try.prog 103 #[.agg #[.slice A n c, .slice B m d]] w fun e w' => ∃ Af cf, e = .returned (.slice Af (netG net).forest.length cf) ∧ Own w' Af (netG net).forest.length cf (nl (netG net).forest) ∧ Fresh w.heap.size Af ∧ Below w.heap.size w w' := by
  have hn24 : n ≤ 24 := by have := ok.n24; have := h.nodes.len; omega
  have hm40 : m ≤ 40 := by have := ok.m40; have := h.pipes.len; omega
  have HNn : Hid ((netG net).n = n) := Lib.hid h.nodes.len
  have HMm : Hid ((netG net).m = m) := Lib.hid h.pipes.len
  have HB := Lib.hid (bel1 w (.cells #[.slice A n c, .slice B m d] 27))
  have bx0 : BX (w.alloc (.cells #[.slice A n c, .slice B m d] 27)) w.heap.size A n c B m d := ⟨heap_alloc_new w _⟩
  obtain ⟨W, hW⟩ : ∃ W, W = w.alloc (.cells #[.slice A n c, .slice B m d] 27) := ⟨_, rfl⟩
  have hWs : W.heap.size = w.heap.size + 1 := by rw [hW]; simp
  go_enter Try.func103, Try.ntmps103
  go_wp2_with (at_make; refine law_makeB _ rfl _ _ rfl m _ _ rfl rfl rfl rfl (by omega) ?_; intro w1 o1 b1 z1; have kx := bx0.step b1; have k0 := kx.c0; have k1 := kx.c1)
  rw [World.size_alloc] at o1
  rw [← hW] at b1 HB bx0
  have t1 := below_step HB.out b1
  refine (l04Components_any _ _ _ _ _ _ net _ (h.later t1) ok).mono ?_
  rintro e w2 ⟨Ac, rfl, o2, f2, b2⟩
  have o12 := o1.later b2
  have t2 := below_step b1 b2
  have hac : ∀ a, Ac = some a → a.block ≠ w.heap.size + 1 := fun a ha => by
    have h1 := f2 a ha
    have h2 := o1.lt _ rfl
    simp only at h2
    omega
  clear k0 k1 kx hW z1 o1 t1
  go_wp2_with fail
  go_loopw [5] (fun i wr => ∃ (k : Nat) (bs : List Bool), k ≤ n ∧ i = .int .i64 k ∧ OwnB wr (some ⟨w.heap.size + 1, 0, none⟩) m m bs ∧ Hid (Mks m bs ((netG net).FS k 0)) ∧ Own wr Ac n n (mapTo n (netG net).comp) ∧ Below W.heap.size W wr) (fun i _ => n - (intOf i).toNat)
  case atStart => exact ⟨0, _, by omega, rfl, o12, Lib.hid (Gr.FS_start m), o2, t2⟩
  case round =>
    obtain ⟨k, bs, hk, rfl, ob, hM, oc, hb⟩ := hrel
    clear o12 o2 t2
    by_cases hlt : k < n
    · obtain ⟨ga, rfl, hga⟩ := oc.pos (by omega)
      have c1 := oc.cell hlt
      rw [mapTo_ig hlt, Gr.comp_root ok.g (by rw [HNn.out]; exact hlt)] at c1
      by_cases hrk : (netG net).root k = k
      · have g1 : ((((netG net).root k : Nat) : Int) != (k : Int)) = false := by simp [hrk]
        have HRK := Lib.hid hrk
        clear hrk
        generalize hRR : (netG net).root k = R at *
        have kb := (bx0.step hb).c0
        have kb1 := (bx0.step hb).c1
        go_wp2_with fail
        refine (l04Search_any _ _ _ _ _ _ net k _ (h.later (below_step HB.out hb)) ok hlt).mono ?_
        rintro e w4 ⟨Ao, lo, co, Ae, rfl, _, oe, _, fe, b4⟩
        have ob4 := ob.later b4
        have oc4 := oc.later b4
        have hb4 := below_step hb b4
        have hap : ∀ a, Ae = some a → a.block ≠ w.heap.size + 1 := fun a ha => by
          have h1 := fe a ha
          have h2 := ob.lt _ rfl
          simp only at h2
          omega
        clear kb kb1 c1 g1
        go_wp2_with fail
        go_loopw [8] (fun i wr => ∃ (j : Nat) (bs : List Bool), j ≤ n ∧ i = .int .i64 j ∧ OwnB wr (some ⟨w.heap.size + 1, 0, none⟩) m m bs ∧ Hid (Mks m bs ((netG net).FS k j)) ∧ Own wr Ae n n (mapTo n ((netG net).ent k)) ∧ Own wr (some ⟨ga, 0, none⟩) n n (mapTo n (netG net).comp) ∧ Below W.heap.size W wr) (fun i _ => n - (intOf i).toNat)
        case atStart => exact ⟨0, bs, by omega, rfl, ob4, hM, oe, oc4, hb4⟩
        case round =>
          obtain ⟨j, bs, hj, rfl, ob, hM, oe, oc, hb⟩ := hrel
          by_cases hjl : j < n
          · obtain ⟨ge, rfl, hge⟩ := oe.pos (by omega)
            have c1 := oe.cell hjl
            rw [mapTo_ig hjl] at c1
            have hge2 := hap _ rfl
            have hga2 := hac _ rfl
            rcases Gr.ent_cases ok.g (r := k) (v := j) (by rw [HNn.out]; exact hlt) with hent | ⟨p, hent, hpm⟩
            · rw [hent] at c1
              have HM2 : Hid (Mks m bs ((netG net).FS k (j + 1))) := Lib.hid (hM.out.congr fun p hp => by
                rw [Gr.FS_step, hent]
                constructor
                · rintro (h | h)
                  · exact h
                  · omega
                · exact .inl)
              go_wp2_with fail
              go_roundw
              case rel => exact ⟨j + 1, bs, by omega, by go_num, ob, HM2, oe, oc, hb⟩
              case measure => simp [intOf]; omega
            · rw [hent] at c1
              rw [HMm.out] at hpm
              have HM2 : Hid (Mks m (bs.set p true) ((netG net).FS k (j + 1))) := Lib.hid (hM.out.put ob.len fun q hq => by
                rw [Gr.FS_step, hent]
                constructor
                · rintro (h | h)
                  · exact .inl h
                  · exact .inr (by omega)
                · rintro (h | h)
                  · exact .inl h
                  · exact .inr (by omega))
              have cb := ob.cell hpm
              have ub := ob.unfrozen p
              have ob' := ob.store p true
              have oe' := oe.far (p := ⟨w.heap.size + 1, p, none⟩) hap (.bool true)
              have oc' := oc.far (p := ⟨w.heap.size + 1, p, none⟩) hac (.bool true)
              have hb' := hb.setCell (p := ⟨w.heap.size + 1, p, none⟩) (by show W.heap.size ≤ w.heap.size + 1; omega) (.bool true)
              have OB := Lib.hid ob'
              have OE := Lib.hid oe'
              have OC := Lib.hid oc'
              have HB' := Lib.hid hb'
              clear ob' oe' oc' hb' ob oe oc hent
              go_wp2_with fail
              go_roundw
              case rel => exact ⟨j + 1, _, by omega, by go_num, OB.out, HM2, OE.out, OC.out, HB'.out⟩
              case measure => simp [intOf]; omega
          · have hjn : n = j := by omega
            subst hjn
            have HM2 : Hid (Mks m bs ((netG net).FS (k + 1) 0)) := Lib.hid (hM.out.congr fun p hp => by
              rw [Gr.FS_next (by rw [hRR]; exact HRK.out), HNn.out])
            go_wp2_with fail
            go_roundw
            case rel => exact ⟨k + 1, bs, by omega, by go_num, ob, HM2, oc, hb⟩
            case measure => simp [intOf]; omega
      · have g1 : ((((netG net).root k : Nat) : Int) != (k : Int)) = true := by simp; omega
        have HM2 : Hid (Mks m bs ((netG net).FS (k + 1) 0)) := Lib.hid (hM.out.congr fun p hp => Gr.FS_skip hrk)
        clear hrk
        generalize (netG net).root k = R at *
        go_wp2_with fail
        go_roundw
        case rel => exact ⟨k + 1, bs, by omega, by go_num, ob, HM2, oc, hb⟩
        case measure => simp [intOf]; omega
    · have hkn : n = k := by omega
      subst hkn
      have HF : Hid (∀ p, p < m → bg bs p = (netG net).Fb p) := Lib.hid (fun p hp => by
        have h1 := hM.out p hp
        rw [← HNn.out, Gr.FS_end ok.g, ← Gr.Fb_iff] at h1
        cases hx : bg bs p <;> cases hy : (netG net).Fb p <;> simp_all)
      obtain ⟨wb, rfl⟩ : ∃ wb, wb = wr := ⟨_, rfl⟩
      have hbs := hb.size
      have o0 := own_lit0 wb
      clear hM
      go_wp2_with fail
      go_loopw [9, 10] (fun o i wr => ∃ (k : Nat) (Ao : Option Addr) (co : Nat), k ≤ m ∧ o = .slice Ao ((netG net).forK k).length co ∧ i = .int .i64 k ∧ Own wr Ao ((netG net).forK k).length co (nl ((netG net).forK k)) ∧ Fresh wb.heap.size Ao ∧ Below wb.heap.size wb wr) (fun _ i _ => m - (intOf i).toNat)
      case atStart => exact ⟨0, some ⟨wb.heap.size, 0, none⟩, 0, by omega, rfl, rfl, o0, (fun a ha => by injection ha with ha; subst ha; exact Nat.le_refl _), bel1 _ _⟩
      case round =>
        obtain ⟨k, Ao, co, hk, rfl, rfl, oo, fo, hb2⟩ := hrel
        have hlen := Gr.forK_len (netG net) k
        by_cases hlt : k < m
        · have cb := (ob.later hb2).cell hlt
          rw [HF.out k hlt] at cb
          have HS := Lib.hid (Gr.forK_succ (netG net) k)
          rcases hfb : (netG net).Fb k with _ | _
          · rw [hfb] at cb HS
            go_wp2_with fail
            go_roundw
            case rel => exact ⟨k + 1, Ao, co, by omega, by rw [HS.out]; rfl, by go_num, by rw [HS.out]; exact oo, fo, hb2⟩
            case measure => simp [intOf]; omega
          · rw [hfb] at cb HS
            have step : ∀ (o : Obj) (A3 : Option Addr) (c3 : Nat) (w3 : World), (wr.alloc o).grownBy w3 (Ao.map (·.block)) → (A3.map (·.block) = Ao.map (·.block) ∨ A3.map (·.block) = some (wr.alloc o).heap.size) → Own w3 A3 (((netG net).forK k).length + 1) c3 (nl ((netG net).forK k) ++ [(k : Int)]) →
                Own w3 A3 ((netG net).forK (k + 1)).length c3 (nl ((netG net).forK (k + 1))) ∧ Fresh wb.heap.size A3 ∧ Below wb.heap.size wb w3 ∧ ((netG net).forK (k + 1)).length = ((netG net).forK k).length + 1 := by
              intro o A3 c3 w3 hg3 hb3 ho3
              have t2 := below_step hb2 (bel1 _ o)
              have hl : ((netG net).forK (k + 1)).length = ((netG net).forK k).length + 1 := by rw [HS.out]; simp
              refine ⟨?_, fresh_app' fo t2.size hb3, below_app t2 fo hg3, hl⟩
              rw [hl, HS.out]; simp only [if_true]; rw [nl_snoc]; exact ho3
            have ST := Lib.hid step
            clear step
            go_wp2_with (at_builtin; refine law_append _ rfl _ _ rfl Ao _ co _ rfl (oo.later (bel1 _ _)) _ _ k ⟨by omega, by omega⟩ rfl (cell_new1 _ _ _) (by omega) ?_; intro A3 c3 w3 ho3 hg3 hb3; obtain ⟨r1, r2, r3, r4⟩ := ST.out _ _ _ _ hg3 hb3 ho3)
            go_roundw
            case rel => exact ⟨k + 1, A3, c3, by omega, by rw [r4], by go_num, r1, r2, r3⟩
            case measure => simp [intOf]; omega
        · have hkm : m = k := by omega
          subst hkm
          have e : (netG net).forest = (netG net).forK m := by unfold Gr.forest; rw [HMm.out]
          go_wp2_with fail
          go_ret
          rw [e]
          exact ⟨_, _, rfl, oo, fresh_up fo (by omega), below_step (below_step HB.out hb) hb2⟩

end Go.Proofs.Ytllblmndoigdlaa

/- the network of the forest: the reference -/
namespace Go.Proofs.Ytllblmndoigdlaa
open Go.RowKit

theorem pcells_app (ps qs : List Pipe) : pcells (ps ++ qs) = pcells ps ++ pcells qs := by simp [pcells]
/-- append(s, x), s a slice of pipes of the call's own -/
theorem law_appendP (w : World) {ops : Array Oper} {rest : List Oper} {o : Oper} {a : Act} {Q : Exit → Act → World → Prop}
    (hg : o.guard = none) (s x : Operand) (hop : o.op = Op.call { callee := Callee.builtin Builtin.append, args := #[s, x], argTypes := #[25, 25] })
    (A : Option Addr) (n c : Nat) (ps : List Pipe) (hs : a.eval s = .slice A n c) (hown : OwnP 76 w A n c ps)
    (g m' : Nat) (p : Pipe) (hp : p.ok) (hx : a.eval x = .slice (some ⟨g, 0, none⟩) 1 m') (hc : PipeAt w g 0 p) (hn : n ≤ 1000000)
    (hK : ∀ A' c' w', OwnP 76 w' A' (n + 1) c' (ps ++ [p]) → w.grownBy w' (A.map (·.block)) → (A'.map (·.block) = A.map (·.block) ∨ A'.map (·.block) = some w.heap.size) → wpList Try.prog ops Q rest (a.put o.dst (.slice A' (n + 1) c')) w') :
    wpList Try.prog ops Q (o :: rest) a w := by
  obtain ⟨i, hi, h1, h2, h3⟩ := info_parts info_pipe
  have hcells : ∀ j u, (pcells [p])[j]? = some u → w.cell? ((⟨g, 0, none⟩ : Addr).add j) = some u := by
    intro j u hu
    obtain ⟨c0, c1, c2, c3, c4⟩ := hc
    match j with
    | 0 => simp [pcells] at hu; subst hu; exact c0
    | 1 => simp [pcells] at hu; subst hu; exact c1
    | 2 => simp [pcells] at hu; subst hu; exact c2
    | 3 => simp [pcells] at hu; subst hu; exact c3
    | 4 => simp [pcells] at hu; subst hu; exact c4
    | j + 5 => simp [pcells] at hu
  obtain ⟨v', w', hrun, k2, k3, _, k5⟩ := run_append_own_at (P := Try.prog) w 0 25 o.type 76 i _ 5 40 Try.underlying25 hi h1 h2 h3 rfl (by omega) _ n _ hown.row ⟨g, 0, none⟩ 1 m' (pcells [p]) rfl hcells (by simp [pcells, Value.oneCell']) (by unfold maxLen; omega) (by omega) (Nat.zero_le _)
  have hv' : ∃ A' c', v' = .slice A' (n + 1) c' := by
    rcases k2.2 with ⟨h, h'⟩ | ⟨g', cap, cur, h, _⟩
    · omega
    · exact ⟨_, _, h⟩
  obtain ⟨A', c', rfl⟩ := hv'
  have hb : ∀ (X : Option Addr) (p q : Nat), (Value.slice X p q).ownBlock = X.map (·.block) := by intro X p q; cases X <;> rfl
  rw [hb] at k3
  rw [hb, hb] at k5
  refine wpList_plain hg fun K hK' => ?_
  unfold Oper.wp
  simp only [execOp, hop, resolve, invoke, builtin, Sem.run_bind, Sem.run_pure, Result.andThen_ok, List.map_toArray, List.map_cons, List.map_nil, hs, hx, hrun]
  refine hK' _ _ (hK A' c' w' ⟨by rw [pcells_app]; exact k2, fun y hy => ?_⟩ k3 k5)
  rcases List.mem_append.1 hy with hy | hy
  · exact hown.ok y hy
  · rw [List.mem_singleton.1 hy]; exact hp
theorem ownP_lit0 (w : World) : OwnP 76 (w.alloc (.cells #[] 76)) (some ⟨w.heap.size, 0, none⟩) 0 0 [] :=
  ⟨⟨by simp [pcells], .inr ⟨w.heap.size, 0, #[], rfl, Nat.zero_le _, heap_alloc_new w _, Nat.le_refl _, Nat.zero_le _, rfl, rfl⟩⟩, by simp⟩

/-- the network with the pipes of the forest alone -/
def treeK (net : Net) (k : Nat) : List Pipe := ((netG net).forest.take k).map (pp net.pipes)
def treeN (net : Net) : Net := ⟨net.nodes, (netG net).forest.map (pp net.pipes)⟩
theorem treeK_end (net : Net) {k : Nat} (h : (netG net).forest.length ≤ k) : treeK net k = (treeN net).pipes := by unfold treeK treeN; rw [List.take_of_length_le h]
theorem treeK_succ {net : Net} {k q : Nat} (h : (netG net).forest[k]? = some q) : treeK net (k + 1) = treeK net k ++ [pp net.pipes q] := by
  unfold treeK; rw [List.take_add_one, h]; simp
theorem treeK_len {net : Net} {k : Nat} (h : k ≤ (netG net).forest.length) : (treeK net k).length = k := by unfold treeK; simp; omega
theorem treeN_pp (net : Net) (k : Nat) : pp (treeN net).pipes k = pp net.pipes ((netG net).idx k) := by
  show pp ((netG net).forest.map (pp net.pipes)) k = _
  unfold Gr.idx
  rcases Nat.lt_or_ge k (netG net).forest.length with hk | hk
  · rw [pp_lt (by simpa using hk), List.getElem_map, List.getD_eq_getElem?_getD, List.getElem?_eq_getElem hk]; rfl
  · rw [List.getD_eq_getElem?_getD, List.getElem?_eq_none hk]
    show ((netG net).forest.map (pp net.pipes)).getD k pipe0 = net.pipes.getD net.pipes.length pipe0
    rw [List.getD_eq_getElem?_getD, List.getElem?_eq_none (by simpa using hk), List.getD_eq_getElem?_getD, List.getElem?_eq_none (Nat.le_refl _)]
theorem treeN_g (net : Net) : netG (treeN net) = (netG net).tree := by
  unfold netG Gr.tree
  simp only [treeN_pp]
  congr 1
  show ((netG net).forest.map (pp net.pipes)).length = _
  simp; rfl
theorem treeN_ok {net : Net} (ok : NetOK net) : NetOK (treeN net) := by
  have hlen : (treeN net).pipes.length = (netG net).forest.length := by show (List.map _ _).length = _; simp
  refine ⟨ok.n1, ok.n24, ?_, fun j hj => ?_⟩
  · rw [hlen]
    have h1 := Gr.forK_len (netG net) (netG net).m
    have h2 : (netG net).m = net.pipes.length := rfl
    have h3 := ok.m40
    unfold Gr.forest; omega
  · rw [treeN_pp]
    rw [hlen] at hj
    exact ok.pipe _ (Gr.idx_mem hj).1

/-- a row of one pipe -/
def isPRow (p : Pipe) : VP := fun v w => ∃ b, v = .slice (some ⟨b, 0, none⟩) 1 1 ∧ PipeAt w b 0 p ∧ b < w.heap.size
theorem stb_prow {p : Pipe} : Stb Grw (isPRow p) := by
  rintro v w w' h ⟨b, rfl, hp, hb⟩
  have := h.size
  exact ⟨b, rfl, hp.keep (h.block b hb), by omega⟩
theorem pipeAt_new (w : World) (p : Pipe) (T : TypeId) : PipeAt (w.alloc (.cells #[.int .i64 p.fr, .int .i64 p.to, .int .i64 p.k, .int .i64 p.vol, .int .i64 p.lim] T)) w.heap.size 0 p := by
  have g := heap_alloc_new w (.cells #[.int .i64 p.fr, .int .i64 p.to, .int .i64 p.k, .int .i64 p.vol, .int .i64 p.lim] T)
  exact ⟨by rw [cell_blk g]; rfl, by rw [cell_blk g]; rfl, by rw [cell_blk g]; rfl, by rw [cell_blk g]; rfl, by rw [cell_blk g]; rfl⟩

set_option maxRecDepth 100000 in
set_option maxHeartbeats 4000000 in
theorem l05Tree_any (A : Option Addr) (n c : Nat) (B : Option Addr) (m d : Nat) (net : Net) (w : World) (h : NetAt w A n c B m d net) (ok : NetOK net) :
    Calls Try.prog 120 #[.agg #[.slice A n c, .slice B m d]] w fun e w' => ∃ Ap cp Af cf, e = .returned (.tuple #[.agg #[.slice A n c, .slice Ap (netG net).forest.length cp], .slice Af (netG net).forest.length cf]) ∧ OwnP 76 w' Ap (netG net).forest.length cp (treeN net).pipes ∧ Own w' Af (netG net).forest.length cf (nl (netG net).forest) ∧ Fresh w.heap.size Ap ∧ Fresh w.heap.size Af ∧ Below w.heap.size w w' := by
  have hm40 : m ≤ 40 := by have := ok.m40; have := h.pipes.len; omega
  have HMm : Hid ((netG net).m = m) := Lib.hid h.pipes.len
  have hpl := h.pipes.len
  have hple := h.pipes.le
  have hpcap := h.pipes.cap
  have HPO := Lib.hid h.pipes.ok
  have HB := Lib.hid (bel2 w (.cells #[.slice A n c, .slice B m d] 27) (.cells #[.slice none 0 0, .slice none 0 0] 27))
  obtain ⟨W, hW⟩ : ∃ W, W = ((w.alloc (.cells #[.slice A n c, .slice B m d] 27)).alloc (.cells #[.slice none 0 0, .slice none 0 0] 27)) := ⟨_, rfl⟩
  have hWs : W.heap.size = w.heap.size + 2 := by rw [hW]; simp
  have bxW : BX W w.heap.size A n c B m d := ⟨by rw [hW]; exact (Below.heap_alloc _ _ _ (by simp)).trans (heap_alloc_new w _)⟩
  have box2 : W.heap[w.heap.size + 1]? = some (.cells #[.slice none 0 0, .slice none 0 0] 27 (0, 0)) := by
    rw [hW, ← size_alloc1 w (.cells #[.slice A n c, .slice B m d] 27)]; exact heap_alloc_new _ _
  go_enter Try.func120, Try.ntmps120
  go_wp2_with fail
  rw [← hW] at HB ⊢
  clear hW
  refine (l04Forest_any _ _ _ _ _ _ net _ (h.later HB.out) ok).mono ?_
  rintro e w1 ⟨Af, cf, rfl, of, ff, b1⟩
  obtain ⟨M, hMl⟩ : ∃ M, (netG net).forest.length = M := ⟨_, rfl⟩
  have hM40 : M ≤ 40 := by have := Gr.forK_len (netG net) (netG net).m; unfold Gr.forest at hMl; have := HMm.out; omega
  rw [hMl] at of ⊢
  have HML := Lib.hid hMl
  clear hMl
  have o0 := ownP_lit0 w1
  go_wp2_with fail
  go_loopw [5, 6] (fun o i wr => ∃ (k : Nat) (Ap : Option Addr) (cp : Nat), k ≤ M ∧ o = .slice Ap k cp ∧ i = .int .i64 k ∧ OwnP 76 wr Ap k cp (treeK net k) ∧ Fresh w1.heap.size Ap ∧ Below w1.heap.size w1 wr) (fun _ i _ => M - (intOf i).toNat)
  case atStart => exact ⟨0, some ⟨w1.heap.size, 0, none⟩, 0, by omega, rfl, rfl, o0, (fun a ha => by injection ha with ha; subst ha; exact Nat.le_refl _), bel1 _ _⟩
  case round =>
    obtain ⟨k, Ap, cp, hk, rfl, rfl, op, fp, hb⟩ := hrel
    clear o0
    by_cases hlt : k < M
    · have hlt' : k < (netG net).forest.length := by rw [HML.out]; exact hlt
      obtain ⟨q, hq⟩ : ∃ q, (netG net).forest[k]? = some q := ⟨_, List.getElem?_eq_getElem hlt'⟩
      have hqm : q < m := by
        have := (Gr.mem_forest.1 (List.mem_of_getElem? hq)).1
        rw [HMm.out] at this; exact this
      have HK := Lib.hid (treeK_succ hq)
      have hbW := below_step b1 hb
      have ofr := of.later hb
      obtain ⟨gf, rfl, hgf⟩ := ofr.pos (by omega)
      have cq := ofr.cell hlt
      rw [nl_ig hlt', show (netG net).forest[k] = q from (List.getElem?_eq_some_iff.1 hq).2] at cq
      have hbw := below_step HB.out hbW
      obtain ⟨bp, offp, rfl, hblp, hcp⟩ := (h.pipes.later hbw).cells (by omega)
      obtain ⟨c0, c1, c2, c3, c4⟩ := hcp q hqm
      have x0 := (bxW.step hbW).c1
      have hpk := pp_ok HPO.out q
      clear hcp hq
      go_wp2_with fail
      apply wp_region_track [16, 17, 18, 19, 20, 21, 22, 23, 24, 25] [eqv _, eqv _, eqv _, eqv _, eqv _, eqv _, eqv _, eqv _, eqv _, isPRow (pp net.pipes q)]
        (fun w' => Below wr.heap.size wr w') Grw (by kernel_rfl) (by kernel_rfl) rfl (by kernel_rfl)
      case hs =>
        refine ⟨?_, ?_, ?_, ?_, ?_, ?_, ?_, ?_, ?_, ?_, trivial⟩
        · intro ev wt ht hc hg hf hI hd
          have e5 : ev (.tmp 5) = .slice Ap k cp := ht 5 (by decide)
          exact opok_move _ rfl ⟨hI, Below.refl _ _, e5⟩
        · intro ev wt ht hc hg hf hI hd
          have e1 : ev (.tmp 1) = .pointer (some ⟨w.heap.size, 0, none⟩) := ht 1 (by decide)
          refine opok_gen fun N hN => ?_
          clear hd ht
          go_simp
          exact hN.out _ _ ⟨hI, Below.refl _ _, rfl⟩
        · intro ev wt ht hc hg hf hI hd
          have e17 : ev (.tmp 17) = _ := hd 1 17 rfl rfl
          have y0 := ((bxW.step hbW).step hI).c1
          have y1 := (hI.cell (p := ⟨gf, k, none⟩) hgf).trans cq
          have y2 := PipeAt.keep ⟨c0, c1, c2, c3, c4⟩ (hI.block bp hblp)
          obtain ⟨z0, z1, z2, z3, z4⟩ := y2
          refine opok_gen fun N hN => ?_
          clear hd ht
          go_simp
          exact hN.out _ _ ⟨hI, Below.refl _ _, rfl⟩
        · intro ev wt ht hc hg hf hI hd
          have e4 : ev (.tmp 4) = .slice (some ⟨gf, 0, none⟩) M cf := ht 4 (by decide)
          exact opok_move _ rfl ⟨hI, Below.refl _ _, e4⟩
        · intro ev wt ht hc hg hf hI hd
          have e6 : ev (.tmp 6) = .int .i64 k := ht 6 (by decide)
          exact opok_move _ rfl ⟨hI, Below.refl _ _, e6⟩
        · intro ev wt ht hc hg hf hI hd
          have e19 : ev (.tmp 19) = _ := hd 3 19 rfl rfl
          have e20 : ev (.tmp 20) = _ := hd 4 20 rfl rfl
          refine opok_gen fun N hN => ?_
          clear hd ht
          go_simp
          exact hN.out _ _ ⟨hI, Below.refl _ _, rfl⟩
        · intro ev wt ht hc hg hf hI hd
          have e21 : ev (.tmp 21) = _ := hd 5 21 rfl rfl
          have y0 := ((bxW.step hbW).step hI).c1
          have y1 := (hI.cell (p := ⟨gf, k, none⟩) hgf).trans cq
          have y2 := PipeAt.keep ⟨c0, c1, c2, c3, c4⟩ (hI.block bp hblp)
          obtain ⟨z0, z1, z2, z3, z4⟩ := y2
          refine opok_gen fun N hN => ?_
          clear hd ht
          go_simp
          exact hN.out _ _ ⟨hI, Below.refl _ _, rfl⟩
        · intro ev wt ht hc hg hf hI hd
          have e18 : ev (.tmp 18) = _ := hd 2 18 rfl rfl
          have e22 : ev (.tmp 22) = _ := hd 6 22 rfl rfl
          refine opok_gen fun N hN => ?_
          clear hd ht
          go_simp
          exact hN.out _ _ ⟨hI, Below.refl _ _, rfl⟩
        · intro ev wt ht hc hg hf hI hd
          have e23 : ev (.tmp 23) = _ := hd 7 23 rfl rfl
          have y0 := ((bxW.step hbW).step hI).c1
          have y1 := (hI.cell (p := ⟨gf, k, none⟩) hgf).trans cq
          have y2 := PipeAt.keep ⟨c0, c1, c2, c3, c4⟩ (hI.block bp hblp)
          obtain ⟨z0, z1, z2, z3, z4⟩ := y2
          refine opok_gen fun N hN => ?_
          clear hd ht
          go_simp
          exact hN.out _ _ ⟨hI, Below.refl _ _, rfl⟩
        · intro ev wt ht hc hg hf hI hd
          have e24 : ev (.tmp 24) = _ := hd 8 24 rfl rfl
          refine opok_gen fun N hN => ?_
          clear hd ht
          go_simp
          exact hN.out _ _ ⟨below_step hI (bel1 _ _), bel1 _ _, ⟨_, rfl, pipeAt_new _ _ _, by simp⟩⟩
      case hst =>
        refine fun j v w w' _ h1 h2 => StbL.nth (S := Grw) ?_ j v w w' h1 h2
        exact ⟨stb_eqv _, stb_eqv _, stb_eqv _, stb_eqv _, stb_eqv _, stb_eqv _, stb_eqv _, stb_eqv _, stb_eqv _, stb_prow, trivial⟩
      case hI => exact (Below.refl _ _).drew
      case hl =>
        rintro wt hI _ rfl _ rfl _ rfl _ rfl _ rfl _ rfl _ rfl _ rfl _ rfl _ ⟨bq, rfl, hbq, hbl⟩
        simp only [Lasts, List.length_cons, List.length_nil, Nat.reduceAdd, List.drop_succ_cons, List.drop_zero, Act.put, List.setIfInBounds_toArray, List.set_cons_succ, List.set_cons_zero]
        have opt := op.later hI
        have hbt := below_step hb hI
        go_wp2_with (at_builtin; refine law_appendP _ rfl _ _ rfl Ap _ cp _ rfl opt _ _ _ hpk rfl hbq (by omega) ?_; intro A3 c3 w3 ho3 hg3 hb3)
        go_roundw
        case rel => exact ⟨k + 1, A3, c3, by omega, rfl, by go_num, by rw [HK.out]; exact ho3, fresh_app' fp hbt.size hb3, below_app hbt fp hg3⟩
        case measure => simp [intOf]; omega
    · have hkM : M = k := by omega
      subst hkM
      have hbW := below_step b1 hb
      have x0 := (bxW.step hbW).c0
      have h4 := (hbW.block (w.heap.size + 1) (by omega)).trans box2
      have u0 := frozen_blk h4 0
      have u1 := frozen_blk h4 1
      have j0 : wr.cell? ⟨w.heap.size + 1, 0, none⟩ = some (.slice none 0 0) := by rw [cell_blk h4]; rfl
      have j1 : wr.cell? ⟨w.heap.size + 1, 1, none⟩ = some (.slice none 0 0) := by rw [cell_blk h4]; rfl
      rw [treeK_end net (by rw [HML.out]; omega)] at op
      have b1s := b1.size
      go_wp2_with fail
      have h5 := heap_set (heap_set h4 0 (.slice A n c)) 1 (.slice Ap M cp)
      have r0 := cell_blk h5 0
      have r1 := cell_blk h5 1
      have hne : ∀ (X : Option Addr), Fresh W.heap.size X → ∀ a : Addr, X = some a → a.block ≠ w.heap.size + 1 := fun X hX a ha => by have := hX a ha; omega
      have hbw := below_step HB.out hbW
      rw [HML.out]
      refine bodyPost_ret (v := .tuple #[.agg #[.slice A n c, .slice Ap M cp], .slice Af M cf]) (by simp at r0 r1; simp [results, Try.results120, go_sem, r0, r1]) rfl ⟨Ap, cp, Af, cf, rfl, ?_, ?_, fresh_up fp (by omega), fresh_up ff (by omega), ?_⟩
      · exact (op.keep fun a ha => (Below.heap_setCell _ _ _ _ (hne Ap (fresh_up fp b1s) a ha)).trans (Below.heap_setCell _ _ _ _ (hne Ap (fresh_up fp b1s) a ha)))
      · exact ((of.later hb).far (hne Af ff) _).far (hne Af ff) _
      · exact (hbw.setCell (by show w.heap.size ≤ w.heap.size + 1; omega) _).setCell (by show w.heap.size ≤ w.heap.size + 1; omega) _

end Go.Proofs.Ytllblmndoigdlaa
