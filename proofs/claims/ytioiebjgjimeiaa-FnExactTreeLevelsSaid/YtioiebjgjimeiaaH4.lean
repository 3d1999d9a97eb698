/- the search from a node: the reference -/
import Derived.Test.YtioiebjgjimeiaaH3
import Derived.Test.YtioiebjgjimeiaaBo
namespace Go.Proofs.Ytioiebjgjimeiaa
open Go.RowKit

/-- what the reference's search has in memory -/
structure SSp (B : Nat) (w : World) (Ao : Option Addr) (lo co be bs n : Nat) (os es : List Int) (ss : List Bool) : Prop where
  o : Own w Ao lo co os
  e : Own w (some ⟨be, 0, none⟩) n n es
  s : OwnB w (some ⟨bs, 0, none⟩) n n ss
  n1 : be ≠ bs
  n4 : ∀ a, Ao = some a → a.block ≠ be ∧ a.block ≠ bs
  fe : B ≤ be
  fs : B ≤ bs
  fo : Fresh B Ao

section
variable {B lo co be bs n : Nat} {w w' : World} {Ao : Option Addr} {os es : List Int} {ss : List Bool}
theorem SSp.later (h : SSp B w Ao lo co be bs n os es ss) (hb : Below w.heap.size w w') : SSp B w' Ao lo co be bs n os es ss :=
  ⟨h.o.later hb, h.e.later hb, h.s.later hb, h.n1, h.n4, h.fe, h.fs, h.fo⟩
theorem SSp.putE (h : SSp B w Ao lo co be bs n os es ss) (j : Nat) {z : Int} (hz : I64 z) : SSp B (w.setCell ⟨be, j, none⟩ (.int .i64 z)) Ao lo co be bs n os (es.set j z) ss :=
  ⟨h.o.far (fun a ha => (h.n4 a ha).1) _, h.e.store j hz, h.s.far (fun a ha => by injection ha with ha; subst ha; exact Ne.symm h.n1) _, h.n1, h.n4, h.fe, h.fs, h.fo⟩
theorem SSp.putS (h : SSp B w Ao lo co be bs n os es ss) (j : Nat) (z : Bool) : SSp B (w.setCell ⟨bs, j, none⟩ (.bool z)) Ao lo co be bs n os es (ss.set j z) :=
  ⟨h.o.far (fun a ha => (h.n4 a ha).2) _, h.e.far (fun a ha => by injection ha with ha; subst ha; exact h.n1) _, h.s.store j z, h.n1, h.n4, h.fe, h.fs, h.fo⟩
theorem SSp.push {A3 : Option Addr} {c3 : Nat} {os' : List Int} (h : SSp B w Ao lo co be bs n os es ss) (hg : w.grownBy w' (Ao.map (·.block))) (hb : A3.map (·.block) = Ao.map (·.block) ∨ A3.map (·.block) = some w.heap.size) (ho : Own w' A3 (lo + 1) c3 os') (hB : B ≤ w.heap.size) :
    SSp B w' A3 (lo + 1) c3 be bs n os' es ss := by
  have n4 : ∀ a, A3 = some a → a.block ≠ be ∧ a.block ≠ bs := by
    intro a ha
    subst ha
    rcases hb with hb | hb
    · cases Ao with
      | none => simp at hb
      | some x => simp at hb; rw [hb]; exact h.n4 x rfl
    · simp at hb
      have h2 := h.e.lt _ rfl
      have h3 := h.s.lt _ rfl
      simp at h2 h3
      omega
  refine ⟨ho, ?_, ?_, h.n1, n4, h.fe, h.fs, fresh_app h.fo hB hb⟩
  · exact h.e.aside (A := Ao) (fun a a' h1 h2 => by injection h2 with h2; subst h2; exact (h.n4 a h1).1) hg
  · exact h.s.aside (A := Ao) (fun a a' h1 h2 => by injection h2 with h2; subst h2; exact (h.n4 a h1).2) hg

end

set_option maxRecDepth 100000 in
set_option maxHeartbeats 4000000 in
theorem l04Search_any (A : Option Addr) (n c : Nat) (B : Option Addr) (m d : Nat) (net : Net) (r : Nat) (w : World) (h : NetAt w A n c B m d net) (ok : NetOK net) (hr : r < n) :
    Calls Try.prog 158 #[.agg #[.slice A n c, .slice B m d], .int .i64 r] w fun e w' => ∃ Ao lo co Ae, e = .returned (.tuple #[.slice Ae n n, .slice Ao lo co]) ∧ Own w' Ao lo co (nl ((netG net).ord r)) ∧ Own w' Ae n n (mapTo n ((netG net).ent r)) ∧ Fresh w.heap.size Ao ∧ Fresh w.heap.size Ae ∧ Below w.heap.size w w' := by
  have hn24 : n ≤ 24 := by have := ok.n24; have := h.nodes.len; omega
  have HB := Lib.hid (bel1 w (.cells #[.slice A n c, .slice B m d] 27))
  have bx0 : BX (w.alloc (.cells #[.slice A n c, .slice B m d] 27)) w.heap.size A n c B m d := ⟨heap_alloc_new w _⟩
  obtain ⟨W, hW⟩ : ∃ W, W = w.alloc (.cells #[.slice A n c, .slice B m d] 27) := ⟨_, rfl⟩
  have hWs : W.heap.size = w.heap.size + 1 := by rw [hW]; simp
  go_enter Try.func158, Try.ntmps158
  go_wp2_with (first | (at_make; refine law_make _ rfl _ _ rfl n _ _ rfl rfl rfl rfl (by omega) ?_; intro w1 o1 b1 z1; have bx1 := bx0.step b1; have y0 := bx1.c0) | (at_make; refine law_makeB _ rfl _ _ rfl n _ _ rfl rfl rfl rfl (by omega) ?_; intro w2 o2 b2 z2))
  rw [World.size_alloc] at o1
  rw [← hW] at b1 bx0 HB
  have hz1 : W.heap.size < w1.heap.size := by rw [hW]; exact z1
  obtain ⟨bs, hbs⟩ : ∃ bs, w1.heap.size = bs := ⟨_, rfl⟩
  have o12 := o1.later b2
  have b12 := below_step b1 b2
  rw [ini_zero] at o12
  rw [hbs] at o2 hz1 z2 b2 ⊢
  clear y0 bx1 hW z1 o1
  go_loopw [8] (fun i wr => ∃ k : Nat, k ≤ n ∧ i = .int .i64 k ∧ Own wr (some ⟨w.heap.size + 1, 0, none⟩) n n (mapTo n (ini k)) ∧ OwnB wr (some ⟨bs, 0, none⟩) n n (List.replicate n false) ∧ Below W.heap.size W wr) (fun i _ => n - (intOf i).toNat)
  case atStart => exact ⟨0, by omega, rfl, o12, o2, b12⟩
  case round =>
    obtain ⟨k, hk, rfl, oe, os, hb⟩ := hrel
    clear o12 o2 b12
    by_cases hlt : k < n
    · have c1 := oe.cell hlt
      have u1 := oe.unfrozen k
      have oe' := oe.store k (z := -1) ⟨by decide, by decide⟩
      rw [ini_set] at oe'
      have os' := os.far (p := ⟨w.heap.size + 1, k, none⟩) (fun a ha => by injection ha with ha; subst ha; show bs ≠ w.heap.size + 1; omega) (.int .i64 (-1))
      have hb' := hb.setCell (p := ⟨w.heap.size + 1, k, none⟩) (by show W.heap.size ≤ w.heap.size + 1; omega) (.int .i64 (-1))
      have HE := Lib.hid oe'
      have HS := Lib.hid os'
      have HB' := Lib.hid hb'
      clear oe' os' hb' oe os
      go_wp2_with fail
      go_roundw
      case rel => exact ⟨k + 1, by omega, by go_num, HE.out, HS.out, HB'.out⟩
      case measure => simp [intOf]; omega
    · have hkn : n = k := by omega
      subst hkn
      have c1 := os.cell hr
      have u1 := os.unfrozen r
      have os' := os.store r true
      rw [memL_nil, memL_set] at os'
      have oe' := oe.far (p := ⟨bs, r, none⟩) (fun a ha => by injection ha with ha; subst ha; show w.heap.size + 1 ≠ bs; omega) (.bool true)
      have hb' := hb.setCell (p := ⟨bs, r, none⟩) (by show W.heap.size ≤ bs; omega) (.bool true)
      rw [ini_end] at oe'
      have hsz : bs < (wr.setCell ⟨bs, r, none⟩ (.bool true)).heap.size := os'.lt _ rfl
      obtain ⟨w3, hw3⟩ : ∃ w3, w3 = wr.setCell ⟨bs, r, none⟩ (.bool true) := ⟨_, rfl⟩
      rw [← hw3] at os' oe' hb' hsz
      have st : SSp W.heap.size (w3.alloc (.cells #[.int .i64 r] 2)) (some ⟨w3.heap.size, 0, none⟩) 1 1 (w.heap.size + 1) bs n [(r : Int)] (mapTo n fun _ => -1) (memL n [r]) := by
        have hb3 := hb'.size
        refine ⟨own_lit w3 r ⟨by omega, by omega⟩, oe'.later (bel1 _ _), os'.later (bel1 _ _), by omega, ?_, by omega, by omega, ?_⟩
        · intro a ha; injection ha with ha; subst ha; show w3.heap.size ≠ _ ∧ w3.heap.size ≠ _; omega
        · intro a ha; injection ha with ha; subst ha; exact hb3
      have hb4 := below_step hb' (bel1 w3 (.cells #[.int .i64 r] 2))
      have HST := Lib.hid st
      have HB4 := Lib.hid hb4
      have HW3 := Lib.hid hw3
      clear hw3 st hb4 oe' os' hb' oe os
      go_wp2_with fail
      rw [← HW3.out]
      clear c1 u1
      have HNn : Hid ((netG net).n = n) := Lib.hid h.nodes.len
      go_loopw [9, 10] (fun o i wr => ∃ (k : Nat) (Ao : Option Addr) (co lo : Nat), o = .slice Ao lo co ∧ i = .int .i64 k ∧ Hid (((netG net).run r k).1.length = lo) ∧ k ≤ lo ∧ lo ≤ n ∧ SSp W.heap.size wr Ao lo co (w.heap.size + 1) bs n (nl ((netG net).run r k).1) (mapTo n ((netG net).run r k).2) (memL n ((netG net).run r k).1) ∧ Below W.heap.size W wr) (fun _ i _ => n - (intOf i).toNat)
      case atStart => exact ⟨0, some ⟨w3.heap.size, 0, none⟩, 1, 1, by rw [HW3.out]; simp [World.setCell], rfl, Lib.hid rfl, by omega, by omega, HST.out, HB4.out⟩
      case round =>
        obtain ⟨k, Ao, co, lo, rfl, rfl, hlo, hk1, hk2, st, hb⟩ := hrel
        clear HST HB4 HW3
        by_cases hlt : k < lo
        · have hinv := (Gr.run_inv ok.g (r := r) (by rw [HNn.out]; exact hr) k).1
          have hlt' : k < ((netG net).run r k).1.length := by rw [hlo.out]; exact hlt
          obtain ⟨v, hv⟩ : ∃ v, ((netG net).run r k).1[k]? = some v := ⟨_, List.getElem?_eq_getElem hlt'⟩
          have hvm : v ∈ ((netG net).run r k).1 := List.mem_of_getElem? hv
          have hvn : v < n := by have := hinv.lt v hvm; rw [HNn.out] at this; exact this
          have HR : Hid ((netG net).run r (k + 1) = (netG net).visL v ((netG net).run r k) ((netG net).at v)) := Lib.hid (by show (netG net).rnd _ k = _; unfold Gr.rnd; rw [hv])
          have ho := st.o
          obtain ⟨ga, rfl, hga⟩ := ho.pos (by omega)
          have c1 := ho.cell (j := k) hlt
          rw [nl_ig hlt', show ((netG net).run r k).1[k] = v from (List.getElem?_eq_some_iff.1 hv).2] at c1
          obtain ⟨s0, hs0⟩ : ∃ s0, (netG net).run r k = s0 := ⟨_, rfl⟩
          rw [hs0] at HR hinv hvm st hlo hv
          have HV0 := Lib.hid hv
          have HI := Lib.hid hinv
          have HVM := Lib.hid hvm
          have ST := Lib.hid st
          clear ho hv hs0 hinv hvm hlt' st
          have kb := (bx0.step hb).c0
          have kb1 := (bx0.step hb).c1
          go_wp2_with fail
          go_still_tail 5, (by kernel_rfl)
          change wpList _ _ _ _ _ wr.drew
          go_wp2_with fail
          refine (l02At_any _ _ _ _ _ _ net v _ (h.later (below_step HB.out hb.drew)) ok).mono ?_
          rintro e w4 ⟨AP, cp, rfl, oP, fP, b4'⟩
          have b4 : Below wr.heap.size wr w4 := (Below.refl _ _).drew.trans b4'
          have st4 := ST.out.later b4
          have hb4 := below_step hb b4
          have hPne : ∀ a, AP = some a → a.block ≠ w.heap.size + 1 ∧ a.block ≠ bs ∧ a.block ≠ ga := fun a ha => by
            have h1 := fP a ha
            have h3 := ST.out.e.lt _ rfl
            have h4 := ST.out.s.lt _ rfl
            replace h1 : wr.heap.size ≤ a.block := h1
            simp only at h3 h4
            omega
          have HP := Lib.hid hPne
          clear kb kb1 c1 hPne ST b4'
          obtain ⟨M, hMl⟩ : ∃ M, ((netG net).at v).length = M := ⟨_, rfl⟩
          rw [hMl] at oP ⊢
          have HML := Lib.hid hMl
          clear hMl
          have hM40 : M ≤ 40 := by have := Gr.atK_len (netG net) v (netG net).m; have e : (netG net).m = net.pipes.length := rfl; have := ok.m40; have := HML.out; unfold Gr.at at this; omega
          go_wp2_with fail
          go_loopw [9, 12] (fun o i wr => ∃ (j : Nat) (Ao : Option Addr) (co l : Nat), o = .slice Ao l co ∧ i = .int .i64 j ∧ j ≤ M ∧ lo ≤ l ∧ l ≤ n ∧ Hid (((netG net).visL v s0 (((netG net).at v).take j)).1.length = l) ∧ SSp W.heap.size wr Ao l co (w.heap.size + 1) bs n (nl ((netG net).visL v s0 (((netG net).at v).take j)).1) (mapTo n ((netG net).visL v s0 (((netG net).at v).take j)).2) (memL n ((netG net).visL v s0 (((netG net).at v).take j)).1) ∧ Below W.heap.size W wr ∧ Own wr AP M cp (nl ((netG net).at v)) ∧ Apart Ao AP) (fun _ i _ => M - (intOf i).toNat)
          case atStart => exact ⟨0, some ⟨ga, 0, none⟩, co, lo, rfl, rfl, by omega, by omega, hk2, hlo, st4, hb4, oP, fun a a' h1 h2 => by injection h1 with h1; subst h1; exact Ne.symm (HP.out a' h2).2.2⟩
          case round =>
            obtain ⟨j, Ao, co, l, rfl, rfl, hj, hl1, hl2, hlen, st, hb, oP, hap⟩ := hrel
            by_cases hjl : j < M
            · obtain ⟨gp, rfl, hgp⟩ := oP.pos (by omega)
              have hjl' : j < ((netG net).at v).length := by rw [HML.out]; exact hjl
              obtain ⟨p, hp⟩ : ∃ p, ((netG net).at v)[j] = p := ⟨_, rfl⟩
              have cP := oP.cell (j := j) hjl
              rw [nl_ig hjl', hp] at cP
              have hpm := Gr.mem_at.1 (hp ▸ List.getElem_mem hjl' : p ∈ (netG net).at v)
              have HV : Hid ((netG net).visL v s0 (((netG net).at v).take (j + 1)) = (netG net).vis v ((netG net).visL v s0 (((netG net).at v).take j)) p) := Lib.hid (by
                rw [← Gr.visL_snoc, List.take_add_one, List.getElem?_eq_getElem hjl', hp]; rfl)
              have hiv := HI.out.visL ok.g (((netG net).at v).take j) HVM.out (fun i hi => List.mem_of_mem_take hi)
              obtain ⟨ga2, rfl, hga2⟩ := st.o.pos (by omega)
              have c1 := st.o.cell (j := k) (by omega)
              have hvk : ig (nl ((netG net).visL v s0 (((netG net).at v).take j)).1) k = v := by
                obtain ⟨l', e⟩ := Gr.visL_mono (g := netG net) (v := v) (((netG net).at v).take j) s0
                have h1 := HV0.out
                have h2 : k < s0.1.length := (List.getElem?_eq_some_iff.1 h1).1
                have h3 : k < ((netG net).visL v s0 (((netG net).at v).take j)).1.length := by rw [e, List.length_append]; omega
                rw [nl_ig h3]
                have h4 : ((netG net).visL v s0 (((netG net).at v).take j)).1[k]? = some v := by rw [e, List.getElem?_append_left h2]; exact h1
                rw [(List.getElem?_eq_some_iff.1 h4).2]
              rw [hvk] at c1
              obtain ⟨s1, hs1⟩ : ∃ s1, (netG net).visL v s0 (((netG net).at v).take j) = s1 := ⟨_, rfl⟩
              rw [hs1] at HV hiv hlen st
              obtain ⟨q, hq⟩ : ∃ q, (netG net).oth p v = q := ⟨_, rfl⟩
              have hqn : q < n := by
                have h1 := ok.g p hpm.1
                have h2 := HNn.out
                rw [← hq]; unfold Gr.oth; split <;> omega
              have hpl : p < net.pipes.length := hpm.1
              have hmm : p < m := by rw [← h.pipes.len]; exact hpl
              have hm40 : m ≤ 40 := by rw [← h.pipes.len]; exact ok.m40
              have kb := (bx0.step hb).c0
              have kb1 := (bx0.step hb).c1
              have HPM := Lib.hid hpm.2
              have HPP := Lib.hid hp
              clear hpl hpm hp hs1 hvk
              have hkl : k < l := by omega
              go_wp2_with fail
              go_still_tail 9, (by kernel_rfl)
              change wpList _ _ _ _ _ wr.drew
              go_wp2_with fail
              refine (l02Other_any _ _ _ _ _ _ net p v _ (h.later (below_step HB.out hb.drew)) ok hmm HPM.out).mono ?_
              rintro e w5 ⟨rfl, b5'⟩
              have b5 : Below wr.heap.size wr w5 := (Below.refl _ _).drew.trans b5'
              rw [hq]
              clear cP c1 kb kb1 b5'
              have st5 := st.later b5
              have hb5 := below_step hb b5
              have oP5 := oP.later b5
              have sq := st5.s.cell hqn
              rw [memL_bg hqn] at sq
              by_cases hqm : q ∈ s1.1
              · have hd : decide (q ∈ s1.1) = true := by simp [hqm]
                rw [hd] at sq
                have hvis : (netG net).vis v s1 p = s1 := by unfold Gr.vis; rw [hq, if_pos hqm]
                rw [hvis] at HV
                have ST5 := Lib.hid st5
                clear st st5
                go_wp2_with fail
                go_roundw
                case rel => exact ⟨j + 1, _, co, l, rfl, by go_num, by omega, hl1, hl2, by rw [HV.out]; exact hlen, by rw [HV.out]; exact ST5.out, hb5, oP5, hap⟩
                case measure => simp [intOf]; omega
              · have hd : decide (q ∈ s1.1) = false := by simp [hqm]
                rw [hd] at sq
                have hvis : (netG net).vis v s1 p = (s1.1 ++ [q], upd s1.2 q p) := by unfold Gr.vis; rw [hq, if_neg hqm]
                rw [hvis] at HV
                have eq := st5.e.cell hqn
                have u1 := st5.s.unfrozen q
                have u2 := st5.e.unfrozen q
                have n1 := st5.n1
                have hll := hlen.out
                have cP := oP5.cell (j := j) hjl
                rw [nl_ig hjl', HPP.out] at cP
                have hg2 := HP.out _ rfl
                have g1 : gp ≠ bs := hg2.2.1
                have g2 : gp ≠ w.heap.size + 1 := hg2.1
                have g3 : ga2 ≠ gp := hap _ _ rfl rfl
                obtain ⟨w6, hw6⟩ : ∃ w6, w6 = (w5.setCell ⟨bs, q, none⟩ (.bool true)).setCell ⟨w.heap.size + 1, q, none⟩ (.int .i64 p) := ⟨_, rfl⟩
                have st6 : SSp W.heap.size w6 (some ⟨ga2, 0, none⟩) l co (w.heap.size + 1) bs n (nl s1.1) (mapTo n (upd s1.2 q p)) (memL n (s1.1 ++ [q])) := by
                  rw [hw6, ← mapTo_upd, ← memL_set]
                  exact (st5.putS q true).putE q (z := p) ⟨by omega, by omega⟩
                have b6 : Below W.heap.size W w6 := by rw [hw6]; exact (hb5.setCell (by exact st5.fs) _).setCell (by exact st5.fe) _
                have oP6 : Own w6 (some ⟨gp, 0, none⟩) M cp (nl ((netG net).at v)) := by
                  rw [hw6]
                  exact (oP5.far (fun a ha => by injection ha with ha; subst ha; exact g1) _).far (fun a ha => by injection ha with ha; subst ha; exact g2) _
                have hl3 : l + 1 ≤ n := by
                  have := (HI.out.visL ok.g (((netG net).at v).take (j + 1)) HVM.out (fun i hi => List.mem_of_mem_take hi))
                  rw [HV.out] at this
                  have := nodup_len this.nodup this.lt
                  rw [List.length_append, hll, HNn.out] at this
                  exact this
                have ow7 := st6.o.later (bel1 w6 (.cells #[.int .i64 q] 2))
                have b6s := b6.size
                have cN : (w6.alloc (.cells #[.int .i64 q] 2)).cell? ⟨w5.heap.size, 0, none⟩ = some (.int .i64 q) := by
                  have hsz : w5.heap.size = w6.heap.size := by rw [hw6]; simp [World.setCell]
                  rw [hsz]; exact cell_new1 _ _ _
                have CN := Lib.hid cN
                clear cN
                have HW6 := Lib.hid hw6
                have ST6 := Lib.hid st6
                clear st6 st st5 hw6
                have push : ∀ (o : Obj) (A3 : Option Addr) (c3 : Nat) (w3 : World), (w6.alloc o).grownBy w3 (some ga2) → (A3.map (·.block) = some ga2 ∨ A3.map (·.block) = some (w6.alloc o).heap.size) → Own w3 A3 (l + 1) c3 (nl s1.1 ++ [(q : Int)]) →
                    SSp W.heap.size w3 A3 (l + 1) c3 (w.heap.size + 1) bs n (nl (s1.1 ++ [q])) (mapTo n (upd s1.2 q p)) (memL n (s1.1 ++ [q])) ∧ Below W.heap.size W w3 ∧ Own w3 (some ⟨gp, 0, none⟩) M cp (nl ((netG net).at v)) ∧ Apart A3 (some ⟨gp, 0, none⟩) := by
                  intro o A3 c3 w3 hg3 hb3 ho3
                  have st7 := ST6.out.later (bel1 w6 o)
                  have b7 := below_step b6 (bel1 w6 o)
                  have oP7 := oP6.later (bel1 w6 o)
                  refine ⟨?_, b7.grown hg3 b7.size (fun i hi => fresh_row st7.fo i hi), oP7.aside (A := some ⟨ga2, 0, none⟩) hap hg3, apart_app hap oP7.lt hb3⟩
                  rw [nl_snoc]; exact st7.push hg3 hb3 ho3 b7.size
                have PU := Lib.hid push
                clear push
                go_wp2_with (at_builtin; rw [← HW6.out]; refine law_append _ rfl _ _ rfl (some ⟨ga2, 0, none⟩) _ co _ rfl ow7 _ _ q ⟨by omega, by omega⟩ rfl CN.out (by omega) ?_; intro A3 c3 w3 ho3 hg3 hb3; obtain ⟨r1, r2, r3, r4⟩ := PU.out _ _ _ _ hg3 hb3 ho3)
                go_roundw
                case rel => exact ⟨j + 1, A3, c3, l + 1, rfl, by go_num, by omega, by omega, hl3, by rw [HV.out]; exact Lib.hid (by rw [List.length_append, hll]; rfl), by rw [HV.out]; exact r1, r2, r3, r4⟩
                case measure => simp [intOf]; omega
            · have hjM : M = j := by omega
              subst hjM
              rw [List.take_of_length_le (by rw [HML.out]; omega), ← HR.out] at hlen st
              go_wp2_with fail
              go_roundw
              case rel => exact ⟨k + 1, Ao, co, l, rfl, by go_num, hlen, by omega, hl2, st, hb⟩
              case measure => simp [intOf]; omega
        · have hs := Gr.run_end ok.g (r := r) (by rw [HNn.out]; exact hr) (k := k) (by rw [hlo.out]; omega)
          have hr1 : (netG net).run r k = ((netG net).ord r, (netG net).ent r) := hs
          rw [hr1] at st
          have ho := st.o
          have he := st.e
          have hfo := st.fo
          go_wp2_with fail
          go_ret2
          exact ⟨Ao, lo, co, _, rfl, ho, he, fresh_up hfo (by omega), (fun a ha => by injection ha with ha; subst ha; show w.heap.size ≤ w.heap.size + 1; omega), below_step HB.out hb⟩

end Go.Proofs.Ytioiebjgjimeiaa
