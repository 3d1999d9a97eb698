/- the forest: the reference -/
import Derived.Test.YtioiebjgjimeiaaH7
import Derived.Test.YtioiebjgjimeiaaQ5
namespace Go.Proofs.Ytioiebjgjimeiaa
open Go.RowKit

/-- the pipes that are entries of the searches from the roots below k, and of the first j nodes in the search from k -/
def Gr.FS (g : Gr) (k j : Nat) (p : Nat) : Prop := (∃ r v, r < k ∧ v < g.n ∧ g.root r = r ∧ g.ent r v = p) ∨ ∃ v, v < j ∧ g.ent k v = p
def Mks (m : Nat) (bs : List Bool) (S : Nat → Prop) : Prop := ∀ p, p < m → (bg bs p = true ↔ S p)
theorem bg_set (xs : List Bool) (i j : Nat) (x : Bool) : bg (xs.set i x) j = if i = j ∧ i < xs.length then x else bg xs j := by
  unfold bg
  rw [List.getD_eq_getElem?_getD, List.getD_eq_getElem?_getD, List.getElem?_set]
  by_cases h : i = j
  · subst h
    by_cases h' : i < xs.length
    · simp [h']
    · simp [h']
  · simp [h]
theorem Mks.put {m : Nat} {bs : List Bool} {S S' : Nat → Prop} (h : Mks m bs S) (hl : bs.length = m) {q : Nat} (hS : ∀ p, p < m → (S' p ↔ S p ∨ p = q)) : Mks m (bs.set q true) S' := by
  intro p hp
  rw [bg_set, hl, hS p hp, ← h p hp]
  by_cases e : q = p
  · subst e; simp [hp]
  · have : ¬ p = q := fun h => e h.symm
    simp [e, this]
theorem Mks.congr {m : Nat} {bs : List Bool} {S S' : Nat → Prop} (h : Mks m bs S) (hS : ∀ p, p < m → (S' p ↔ S p)) : Mks m bs S' := fun p hp => (h p hp).trans (hS p hp).symm
theorem Gr.FS_start {g : Gr} (m : Nat) : Mks m (List.replicate m false) (g.FS 0 0) := by
  intro p hp
  have : bg (List.replicate m false) p = false := by unfold bg; simp [hp]
  rw [this]
  constructor
  · intro h; cases h
  · rintro (⟨r, v, h, _⟩ | ⟨v, h, _⟩) <;> omega
theorem Gr.FS_step {g : Gr} {k j p : Nat} : g.FS k (j + 1) p ↔ g.FS k j p ∨ g.ent k j = p := by
  unfold Gr.FS
  constructor
  · rintro (h | ⟨v, hv, e⟩)
    · exact .inl (.inl h)
    · by_cases hvj : v = j
      · subst hvj; exact .inr e
      · exact .inl (.inr ⟨v, by omega, e⟩)
  · rintro ((h | ⟨v, hv, e⟩) | e)
    · exact .inl h
    · exact .inr ⟨v, by omega, e⟩
    · exact .inr ⟨j, by omega, e⟩
theorem Gr.FS_next {g : Gr} {k p : Nat} (hk : g.root k = k) : g.FS (k + 1) 0 p ↔ g.FS k g.n p := by
  unfold Gr.FS
  constructor
  · rintro (⟨r, v, hr, hv, h1, h2⟩ | ⟨v, hv, e⟩)
    · by_cases e : r = k
      · subst e; exact .inr ⟨v, hv, h2⟩
      · exact .inl ⟨r, v, by omega, hv, h1, h2⟩
    · omega
  · rintro (⟨r, v, hr, hv, h1, h2⟩ | ⟨v, hv, e⟩)
    · exact .inl ⟨r, v, by omega, hv, h1, h2⟩
    · exact .inl ⟨k, v, by omega, hv, hk, e⟩
theorem Gr.FS_skip {g : Gr} {k p : Nat} (hk : g.root k ≠ k) : g.FS (k + 1) 0 p ↔ g.FS k 0 p := by
  unfold Gr.FS
  constructor
  · rintro (⟨r, v, hr, hv, h1, h2⟩ | ⟨v, hv, e⟩)
    · exact .inl ⟨r, v, by have : r ≠ k := (by rintro rfl; exact hk h1); omega, hv, h1, h2⟩
    · omega
  · rintro (⟨r, v, hr, hv, h1, h2⟩ | ⟨v, hv, e⟩)
    · exact .inl ⟨r, v, by omega, hv, h1, h2⟩
    · omega
theorem Gr.ent_mem {g : Gr} (ok : g.ok) {r v : Nat} (hr : r < g.n) {p : Nat} (h : g.ent r v = p) : v ∈ g.ord r := by
  refine Classical.byContradiction fun hm => ?_
  have := (Gr.ord_inv ok hr).none v (.inl hm)
  have h' : (g.bfs r).2 v = p := h
  omega
theorem Gr.ent_lt {g : Gr} (ok : g.ok) {r v : Nat} (hr : r < g.n) {p : Nat} (h : g.ent r v = p) : p < g.m := by
  have hm := Gr.ent_mem ok hr h
  have hne : v ≠ r := by
    rintro rfl
    have := (Gr.ord_inv ok hr).none v (.inr rfl)
    have h' : (g.bfs v).2 v = p := h
    omega
  obtain ⟨i, h1, h2, _⟩ := (Gr.ord_inv ok hr).ent v hm hne
  have h' : (g.bfs r).2 v = p := h
  omega
theorem Gr.ent_cases {g : Gr} (ok : g.ok) {r v : Nat} (hr : r < g.n) : g.ent r v = -1 ∨ ∃ p : Nat, g.ent r v = p ∧ p < g.m := by
  by_cases hm : v ∈ g.ord r
  · by_cases hne : v = r
    · exact .inl ((Gr.ord_inv ok hr).none v (.inr hne))
    · obtain ⟨i, h1, h2, _⟩ := (Gr.ord_inv ok hr).ent v hm hne
      exact .inr ⟨i, h1, h2⟩
  · exact .inl ((Gr.ord_inv ok hr).none v (.inl hm))
theorem Gr.FS_end {g : Gr} (ok : g.ok) {p : Nat} : g.FS g.n 0 p ↔ g.F p := by
  unfold Gr.FS
  constructor
  · rintro (⟨r, v, hr, hv, h1, h2⟩ | ⟨v, hv, e⟩)
    · have := Gr.root_of_mem ok hr h1 (Gr.ent_mem ok hr h2)
      exact ⟨v, hv, by unfold Gr.fe; rw [this]; exact h2⟩
    · omega
  · rintro ⟨v, hv, e⟩
    have hf := Gr.root_facts ok hv
    exact .inl ⟨g.root v, v, hf.1, hv, hf.2.2.1, e⟩
theorem Gr.forK_succ (g : Gr) (k : Nat) : g.forK (k + 1) = if g.Fb k then g.forK k ++ [k] else g.forK k := by
  unfold Gr.forK
  rw [List.range_succ, List.filter_append]
  by_cases h : g.Fb k = true
  · simp [h]
  · simp [h]
theorem Gr.forK_len (g : Gr) (k : Nat) : (g.forK k).length ≤ k := by
  have := List.length_filter_le g.Fb (List.range k)
  simpa [Gr.forK] using this

set_option maxRecDepth 100000 in
set_option maxHeartbeats 4000000 in
theorem l04Forest_any (A : Option Addr) (n c : Nat) (B : Option Addr) (m d : Nat) (net : Net) (w : World) (h : NetAt w A n c B m d net) (ok : NetOK net) :
    Calls Try.prog 183 #[.agg #[.slice A n c, .slice B m d]] w fun e w' => ∃ Af cf, e = .returned (.slice Af (netG net).forest.length cf) ∧ Own w' Af (netG net).forest.length cf (nl (netG net).forest) ∧ Fresh w.heap.size Af ∧ Below w.heap.size w w' := by
  have hn24 : n ≤ 24 := by have := ok.n24; have := h.nodes.len; omega
  have hm40 : m ≤ 40 := by have := ok.m40; have := h.pipes.len; omega
  have HNn : Hid ((netG net).n = n) := Lib.hid h.nodes.len
  have HMm : Hid ((netG net).m = m) := Lib.hid h.pipes.len
  have HB := Lib.hid (bel1 w (.cells #[.slice A n c, .slice B m d] 27))
  have bx0 : BX (w.alloc (.cells #[.slice A n c, .slice B m d] 27)) w.heap.size A n c B m d := ⟨heap_alloc_new w _⟩
  obtain ⟨W, hW⟩ : ∃ W, W = w.alloc (.cells #[.slice A n c, .slice B m d] 27) := ⟨_, rfl⟩
  have hWs : W.heap.size = w.heap.size + 1 := by rw [hW]; simp
  go_enter Try.func183, Try.ntmps183
  go_wp2_with (at_make; refine law_makeB _ rfl _ _ rfl m _ _ rfl rfl rfl rfl (by omega) ?_; intro w1 o1 b1 z1; have kx := bx0.step b1; have k0 := kx.c0; have k1 := kx.c1)
  rw [World.size_alloc] at o1
  rw [← hW] at b1 HB bx0
  have t1 := below_step HB.out b1
  refine (l04Components_any _ _ _ _ _ _ net _ (h.later t1) ok).mono ?_
  rintro e w2 ⟨Ac, rfl, o2, f2, b2⟩
  have o12 := o1.later b2
  have t2 := below_step b1 b2
  have hac : ∀ a, Ac = some a → a.block ≠ w.heap.size + 1 := fun a ha => by
    have h1 := f2 a ha
    have h2 := o1.lt _ rfl
    simp only at h2
    omega
  clear k0 k1 kx hW z1 o1 t1
  go_wp2_with fail
  go_loopw [5] (fun i wr => ∃ (k : Nat) (bs : List Bool), k ≤ n ∧ i = .int .i64 k ∧ OwnB wr (some ⟨w.heap.size + 1, 0, none⟩) m m bs ∧ Hid (Mks m bs ((netG net).FS k 0)) ∧ Own wr Ac n n (mapTo n (netG net).comp) ∧ Below W.heap.size W wr) (fun i _ => n - (intOf i).toNat)
  case atStart => exact ⟨0, _, by omega, rfl, o12, Lib.hid (Gr.FS_start m), o2, t2⟩
  case round =>
    obtain ⟨k, bs, hk, rfl, ob, hM, oc, hb⟩ := hrel
    clear o12 o2 t2
    by_cases hlt : k < n
    · obtain ⟨ga, rfl, hga⟩ := oc.pos (by omega)
      have c1 := oc.cell hlt
      rw [mapTo_ig hlt, Gr.comp_root ok.g (by rw [HNn.out]; exact hlt)] at c1
      by_cases hrk : (netG net).root k = k
      · have g1 : ((((netG net).root k : Nat) : Int) != (k : Int)) = false := by simp [hrk]
        have HRK := Lib.hid hrk
        clear hrk
        generalize hRR : (netG net).root k = R at *
        have kb := (bx0.step hb).c0
        have kb1 := (bx0.step hb).c1
        go_wp2_with fail
        refine (l04Search_any _ _ _ _ _ _ net k _ (h.later (below_step HB.out hb)) ok hlt).mono ?_
        rintro e w4 ⟨Ao, lo, co, Ae, rfl, _, oe, _, fe, b4⟩
        have ob4 := ob.later b4
        have oc4 := oc.later b4
        have hb4 := below_step hb b4
        have hap : ∀ a, Ae = some a → a.block ≠ w.heap.size + 1 := fun a ha => by
          have h1 := fe a ha
          have h2 := ob.lt _ rfl
          simp only at h2
          omega
        clear kb kb1 c1 g1
        go_wp2_with fail
        go_loopw [8] (fun i wr => ∃ (j : Nat) (bs : List Bool), j ≤ n ∧ i = .int .i64 j ∧ OwnB wr (some ⟨w.heap.size + 1, 0, none⟩) m m bs ∧ Hid (Mks m bs ((netG net).FS k j)) ∧ Own wr Ae n n (mapTo n ((netG net).ent k)) ∧ Own wr (some ⟨ga, 0, none⟩) n n (mapTo n (netG net).comp) ∧ Below W.heap.size W wr) (fun i _ => n - (intOf i).toNat)
        case atStart => exact ⟨0, bs, by omega, rfl, ob4, hM, oe, oc4, hb4⟩
        case round =>
          obtain ⟨j, bs, hj, rfl, ob, hM, oe, oc, hb⟩ := hrel
          by_cases hjl : j < n
          · obtain ⟨ge, rfl, hge⟩ := oe.pos (by omega)
            have c1 := oe.cell hjl
            rw [mapTo_ig hjl] at c1
            have hge2 := hap _ rfl
            have hga2 := hac _ rfl
            rcases Gr.ent_cases ok.g (r := k) (v := j) (by rw [HNn.out]; exact hlt) with hent | ⟨p, hent, hpm⟩
            · rw [hent] at c1
              have HM2 : Hid (Mks m bs ((netG net).FS k (j + 1))) := Lib.hid (hM.out.congr fun p hp => by
                rw [Gr.FS_step, hent]
                constructor
                · rintro (h | h)
                  · exact h
                  · omega
                · exact .inl)
              go_wp2_with fail
              go_roundw
              case rel => exact ⟨j + 1, bs, by omega, by go_num, ob, HM2, oe, oc, hb⟩
              case measure => simp [intOf]; omega
            · rw [hent] at c1
              rw [HMm.out] at hpm
              have HM2 : Hid (Mks m (bs.set p true) ((netG net).FS k (j + 1))) := Lib.hid (hM.out.put ob.len fun q hq => by
                rw [Gr.FS_step, hent]
                constructor
                · rintro (h | h)
                  · exact .inl h
                  · exact .inr (by omega)
                · rintro (h | h)
                  · exact .inl h
                  · exact .inr (by omega))
              have cb := ob.cell hpm
              have ub := ob.unfrozen p
              have ob' := ob.store p true
              have oe' := oe.far (p := ⟨w.heap.size + 1, p, none⟩) hap (.bool true)
              have oc' := oc.far (p := ⟨w.heap.size + 1, p, none⟩) hac (.bool true)
              have hb' := hb.setCell (p := ⟨w.heap.size + 1, p, none⟩) (by show W.heap.size ≤ w.heap.size + 1; omega) (.bool true)
              have OB := Lib.hid ob'
              have OE := Lib.hid oe'
              have OC := Lib.hid oc'
              have HB' := Lib.hid hb'
              clear ob' oe' oc' hb' ob oe oc hent
              go_wp2_with fail
              go_roundw
              case rel => exact ⟨j + 1, _, by omega, by go_num, OB.out, HM2, OE.out, OC.out, HB'.out⟩
              case measure => simp [intOf]; omega
          · have hjn : n = j := by omega
            subst hjn
            have HM2 : Hid (Mks m bs ((netG net).FS (k + 1) 0)) := Lib.hid (hM.out.congr fun p hp => by
              rw [Gr.FS_next (by rw [hRR]; exact HRK.out), HNn.out])
            go_wp2_with fail
            go_roundw
            case rel => exact ⟨k + 1, bs, by omega, by go_num, ob, HM2, oc, hb⟩
            case measure => simp [intOf]; omega
      · have g1 : ((((netG net).root k : Nat) : Int) != (k : Int)) = true := by simp; omega
        have HM2 : Hid (Mks m bs ((netG net).FS (k + 1) 0)) := Lib.hid (hM.out.congr fun p hp => Gr.FS_skip hrk)
        clear hrk
        generalize (netG net).root k = R at *
        go_wp2_with fail
        go_roundw
        case rel => exact ⟨k + 1, bs, by omega, by go_num, ob, HM2, oc, hb⟩
        case measure => simp [intOf]; omega
    · have hkn : n = k := by omega
      subst hkn
      have HF : Hid (∀ p, p < m → bg bs p = (netG net).Fb p) := Lib.hid (fun p hp => by
        have h1 := hM.out p hp
        rw [← HNn.out, Gr.FS_end ok.g, ← Gr.Fb_iff] at h1
        cases hx : bg bs p <;> cases hy : (netG net).Fb p <;> simp_all)
      obtain ⟨wb, rfl⟩ : ∃ wb, wb = wr := ⟨_, rfl⟩
      have hbs := hb.size
      have o0 := own_lit0 wb
      clear hM
      go_wp2_with fail
      go_loopw [9, 10] (fun o i wr => ∃ (k : Nat) (Ao : Option Addr) (co : Nat), k ≤ m ∧ o = .slice Ao ((netG net).forK k).length co ∧ i = .int .i64 k ∧ Own wr Ao ((netG net).forK k).length co (nl ((netG net).forK k)) ∧ Fresh wb.heap.size Ao ∧ Below wb.heap.size wb wr) (fun _ i _ => m - (intOf i).toNat)
      case atStart => exact ⟨0, some ⟨wb.heap.size, 0, none⟩, 0, by omega, rfl, rfl, o0, (fun a ha => by injection ha with ha; subst ha; exact Nat.le_refl _), bel1 _ _⟩
      case round =>
        obtain ⟨k, Ao, co, hk, rfl, rfl, oo, fo, hb2⟩ := hrel
        have hlen := Gr.forK_len (netG net) k
        by_cases hlt : k < m
        · have cb := (ob.later hb2).cell hlt
          rw [HF.out k hlt] at cb
          have HS := Lib.hid (Gr.forK_succ (netG net) k)
          rcases hfb : (netG net).Fb k with _ | _
          · rw [hfb] at cb HS
            go_wp2_with fail
            go_roundw
            case rel => exact ⟨k + 1, Ao, co, by omega, by rw [HS.out]; rfl, by go_num, by rw [HS.out]; exact oo, fo, hb2⟩
            case measure => simp [intOf]; omega
          · rw [hfb] at cb HS
            have step : ∀ (o : Obj) (A3 : Option Addr) (c3 : Nat) (w3 : World), (wr.alloc o).grownBy w3 (Ao.map (·.block)) → (A3.map (·.block) = Ao.map (·.block) ∨ A3.map (·.block) = some (wr.alloc o).heap.size) → Own w3 A3 (((netG net).forK k).length + 1) c3 (nl ((netG net).forK k) ++ [(k : Int)]) →
                Own w3 A3 ((netG net).forK (k + 1)).length c3 (nl ((netG net).forK (k + 1))) ∧ Fresh wb.heap.size A3 ∧ Below wb.heap.size wb w3 ∧ ((netG net).forK (k + 1)).length = ((netG net).forK k).length + 1 := by
              intro o A3 c3 w3 hg3 hb3 ho3
              have t2 := below_step hb2 (bel1 _ o)
              have hl : ((netG net).forK (k + 1)).length = ((netG net).forK k).length + 1 := by rw [HS.out]; simp
              refine ⟨?_, fresh_app' fo t2.size hb3, below_app t2 fo hg3, hl⟩
              rw [hl, HS.out]; simp only [if_true]; rw [nl_snoc]; exact ho3
            have ST := Lib.hid step
            clear step
            go_wp2_with (at_builtin; refine law_append _ rfl _ _ rfl Ao _ co _ rfl (oo.later (bel1 _ _)) _ _ k ⟨by omega, by omega⟩ rfl (cell_new1 _ _ _) (by omega) ?_; intro A3 c3 w3 ho3 hg3 hb3; obtain ⟨r1, r2, r3, r4⟩ := ST.out _ _ _ _ hg3 hb3 ho3)
            go_roundw
            case rel => exact ⟨k + 1, A3, c3, by omega, by rw [r4], by go_num, r1, r2, r3⟩
            case measure => simp [intOf]; omega
        · have hkm : m = k := by omega
          subst hkm
          have e : (netG net).forest = (netG net).forK m := by unfold Gr.forest; rw [HMm.out]
          go_wp2_with fail
          go_ret
          rw [e]
          exact ⟨_, _, rfl, oo, fresh_up fo (by omega), below_step (below_step HB.out hb) hb2⟩

end Go.Proofs.Ytioiebjgjimeiaa
