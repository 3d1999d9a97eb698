/- draws: l07DrawTree, DrawTreeLevels -/
import Derived.Test.YtioiebjgjimeiaaDa
import Derived.Test.YtioiebjgjimeiaaRm
import Derived.Test.YtioiebjgjimeiaaH1
namespace Go.Proofs.Ytioiebjgjimeiaa
open Go.RowKit

set_option maxRecDepth 100000 in
set_option maxHeartbeats 4000000 in
theorem l02DrawPipe_ends (g : Nat) (A : Option Addr) (n c : Nat) (bs : List Int) (i j : Int) (w : World) (h : Src w g A n c bs) (hi : I64 i) (hj : I64 j) :
    Calls Try.prog 174 #[.pointer (some ⟨g, 0, none⟩), .int .i64 i, .int .i64 j] w fun e w' => ∃ x : Pipe, e = .returned (.agg #[.int .i64 x.fr, .int .i64 x.to, .int .i64 x.k, .int .i64 x.vol, .int .i64 x.lim]) ∧ x.ok ∧ ((x.fr = i ∧ x.to = j) ∨ (x.fr = j ∧ x.to = i)) ∧ Src w' g A n c bs ∧ w.grownBy w' (some g) := by
  have hlt := h.lt
  have hA := Lib.hid h.blk
  go_enter Try.func174, Try.ntmps174
  go_wp2_with fail
  refine (l01Next_any _ _ _ _ _ _ _ (h.alloc _)).mono ?_
  rintro e w1 ⟨r, rfl, r0, r1, _, hs1, hg1⟩
  clear r1
  have key : ∀ (a b : Int), I64 a → I64 b → ((a = i ∧ b = j) ∨ (a = j ∧ b = i)) → ∀ (w3 : World) (k v l : Int), I64 k → I64 v → I64 l → Src w3 g A n c bs → (w.alloc (.cells #[.int .i64 0, .int .i64 0, .int .i64 0, .int .i64 0, .int .i64 0] 64)).grownBy w3 (some g) →
      ∃ x : Pipe, (Ending.returned (.agg #[.int .i64 a, .int .i64 b, .int .i64 k, .int .i64 v, .int .i64 l])) = .returned (.agg #[.int .i64 x.fr, .int .i64 x.to, .int .i64 x.k, .int .i64 x.vol, .int .i64 x.lim]) ∧ x.ok ∧ ((x.fr = i ∧ x.to = j) ∨ (x.fr = j ∧ x.to = i)) ∧
        Src (((((w3.setCell ⟨w.heap.size, 0, none⟩ (.int .i64 a)).setCell ⟨w.heap.size, 1, none⟩ (.int .i64 b)).setCell ⟨w.heap.size, 2, none⟩ (.int .i64 k)).setCell ⟨w.heap.size, 3, none⟩ (.int .i64 v)).setCell ⟨w.heap.size, 4, none⟩ (.int .i64 l)) g A n c bs ∧
        w.grownBy (((((w3.setCell ⟨w.heap.size, 0, none⟩ (.int .i64 a)).setCell ⟨w.heap.size, 1, none⟩ (.int .i64 b)).setCell ⟨w.heap.size, 2, none⟩ (.int .i64 k)).setCell ⟨w.heap.size, 3, none⟩ (.int .i64 v)).setCell ⟨w.heap.size, 4, none⟩ (.int .i64 l)) (some g) := by
    intro a b ha hb hab w3 k v l hk hv hl hs gr
    exact ⟨⟨a, b, k, v, l⟩, rfl, ⟨ha, hb, hk, hv, hl⟩, hab, ((((hs.put hlt hA.out _ _).put hlt hA.out _ _).put hlt hA.out _ _).put hlt hA.out _ _).put hlt hA.out _ _,
      only_put (only_put (only_put (only_put (only_put (only_trans (only_alloc (World.grownBy.refl _ _) _) gr) (Nat.le_refl _) _ _) (Nat.le_refl _) _ _) (Nat.le_refl _) _ _) (Nat.le_refl _) _ _) (Nat.le_refl _) _ _⟩
  have KEY := Lib.hid key
  clear key
  by_cases hr : r = 0
  · subst hr
    go_wp2_with fail
    refine (l01Next_any _ _ _ _ _ _ _ hs1).mono ?_
    rintro e w2 ⟨q, rfl, q0, q1, _, hs2, hg2⟩
    have q1' := q1 (by omega)
    clear q1
    go_wp2_with fail
    refine (l01Next_any _ _ _ _ _ _ _ hs2).mono ?_
    rintro e w3 ⟨v, rfl, v0, v1, _, hs3, hg3⟩
    have v1' := v1 (by omega)
    clear v1
    go_wp2_with fail
    refine (l01Next_any _ _ _ _ _ _ _ hs3).mono ?_
    rintro e w4 ⟨l, rfl, l0, l1, _, hs4, hg4⟩
    have l1' := l1 (by omega)
    clear l1
    have gr := only_trans (only_trans hg1 hg2) (only_trans hg3 hg4)
    have bx := (gr.block w.heap.size (by simp) (by intro e; injection e; omega)).trans (heap_alloc_new w _)
    have c0 := cell_blk bx 0
    have c1 := cell_blk bx 1
    have c2 := cell_blk bx 2
    have c3 := cell_blk bx 3
    have c4 := cell_blk bx 4
    simp at c0 c1 c2 c3 c4
    have f0 := frozen_blk bx 0
    have f1 := frozen_blk bx 1
    have f2 := frozen_blk bx 2
    have f3 := frozen_blk bx 3
    have f4 := frozen_blk bx 4
    clear bx
    go_wp2_with fail
    exact bodyPost_ret (v := .agg #[.int .i64 j, .int .i64 i, .int .i64 (1 + q), .int .i64 v, .int .i64 (1 + l)]) (by simp [results, Try.results174, go_sem, c0, c1, c2, c3, c4]) rfl
      (KEY.out _ _ hj hi (.inr ⟨rfl, rfl⟩) _ _ _ _ ⟨by omega, by omega⟩ ⟨by omega, by omega⟩ ⟨by omega, by omega⟩ hs4 gr)
  · have hrr : (r == 0) = false := by simp [hr]
    clear hr
    go_wp2_with fail
    refine (l01Next_any _ _ _ _ _ _ _ hs1).mono ?_
    rintro e w2 ⟨q, rfl, q0, q1, _, hs2, hg2⟩
    have q1' := q1 (by omega)
    clear q1
    go_wp2_with fail
    refine (l01Next_any _ _ _ _ _ _ _ hs2).mono ?_
    rintro e w3 ⟨v, rfl, v0, v1, _, hs3, hg3⟩
    have v1' := v1 (by omega)
    clear v1
    go_wp2_with fail
    refine (l01Next_any _ _ _ _ _ _ _ hs3).mono ?_
    rintro e w4 ⟨l, rfl, l0, l1, _, hs4, hg4⟩
    have l1' := l1 (by omega)
    clear l1
    have gr := only_trans (only_trans hg1 hg2) (only_trans hg3 hg4)
    have bx := (gr.block w.heap.size (by simp) (by intro e; injection e; omega)).trans (heap_alloc_new w _)
    have c0 := cell_blk bx 0
    have c1 := cell_blk bx 1
    have c2 := cell_blk bx 2
    have c3 := cell_blk bx 3
    have c4 := cell_blk bx 4
    simp at c0 c1 c2 c3 c4
    have f0 := frozen_blk bx 0
    have f1 := frozen_blk bx 1
    have f2 := frozen_blk bx 2
    have f3 := frozen_blk bx 3
    have f4 := frozen_blk bx 4
    clear bx
    go_wp2_with fail
    exact bodyPost_ret (v := .agg #[.int .i64 i, .int .i64 j, .int .i64 (1 + q), .int .i64 v, .int .i64 (1 + l)]) (by simp [results, Try.results174, go_sem, c0, c1, c2, c3, c4]) rfl
      (KEY.out _ _ hi hj (.inl ⟨rfl, rfl⟩) _ _ _ _ ⟨by omega, by omega⟩ ⟨by omega, by omega⟩ ⟨by omega, by omega⟩ hs4 gr)

set_option maxRecDepth 100000 in
set_option maxHeartbeats 4000000 in
theorem l05Out_ok (A : Option Addr) (n c : Nat) (B : Option Addr) (m d : Nat) (net : Net) (C : Option Addr) (l e : Nat) (zs : List Int) (w : World) (h : NetAt w A n c B m d net) (hz : Ints w C l e zs) (ok : NetOK net) (hs : flowB net zs = true) :
    Calls Try.prog 86 #[.agg #[.slice A n c, .slice B m d], .slice C l e] w fun e w' => ∃ A' c', e = .returned (.slice A' n c') ∧ Own w' A' n c' (outL n net.pipes zs m) ∧ Fresh w.heap.size A' ∧ Below w.heap.size w w' := by
  have HB := Lib.hid (bel1 w (.cells #[.slice A n c, .slice B m d] 27))
  have hl : m = l := by have := flowB_len hs; have := h.pipes.len; have := hz.len; omega
  have HM := Lib.hid h.pipes.len
  have HN := Lib.hid h.nodes.len
  have hn1 := ok.n1
  have hn24 := ok.n24
  have h40 := ok.m40
  rw [HM.out] at h40
  rw [HN.out] at hn1 hn24
  subst hl
  have HS := Lib.hid hs
  have HV := Lib.hid ok
  have hple := h.pipes.le
  have hpcap := h.pipes.cap
  have hzle := hz.le
  have hzcap := hz.cap
  clear hs ok
  have hg : (w.alloc (.cells #[.slice A n c, .slice B m d] 27)).heap.size = w.heap.size + 1 := by simp
  go_enter Try.func86, Try.ntmps86
  go_wp2_with (at_make; refine law_make _ rfl _ _ rfl n _ _ rfl rfl rfl rfl (by omega) ?_; intro w1 o1 b1 z1; have t1 := below_step HB.out b1; rw [hg] at o1)
  have x1 : BX w1 w.heap.size A n c B m d := ⟨(b1.block w.heap.size (by simp)).trans (heap_alloc_new w _)⟩
  go_loopw [6] (fun i wr => ∃ k : Nat, k ≤ m ∧ i = .int .i64 k ∧ Own wr (some ⟨w.heap.size + 1, 0, none⟩) n n (outL n net.pipes zs k) ∧ Below w.heap.size w wr ∧ w.heap.size + 1 < wr.heap.size ∧ BX wr w.heap.size A n c B m d) (fun i _ => m - (intOf i).toNat)
  case atStart => exact ⟨0, by omega, rfl, by rw [outL_zero]; exact o1, t1, by rw [hg] at z1; exact z1, x1⟩
  case round =>
    obtain ⟨k, hk, rfl, ho, hb, hsz, hx⟩ := hrel
    by_cases hlt : k < m
    · obtain ⟨bb, off, rfl, hbl, hc⟩ := (hz.later hb).cells (by omega)
      have hck := hc k hlt
      obtain ⟨bp, offp, rfl, hblp, hcp⟩ := (h.pipes.later hb).cells (by omega)
      obtain ⟨c0, c1, c2, c3, c4⟩ := hcp k hlt
      clear hc hcp c2 c3 c4
      have hk1 := HV.out.pipe k (by rw [HM.out]; omega)
      rw [HN.out] at hk1
      obtain ⟨f, hf⟩ : ∃ f : Nat, (pp net.pipes k).fr = f := ⟨(pp net.pipes k).fr.toNat, by omega⟩
      obtain ⟨t, ht⟩ : ∃ t : Nat, (pp net.pipes k).to = t := ⟨(pp net.pipes k).to.toNat, by omega⟩
      have S1 := Lib.hid (out_step1 (n := n) (zs := zs) hf)
      have S2 := Lib.hid (out_step2 (n := n) (zs := zs) ht (by omega))
      have hz1 := flowB_all HS.out k
      rw [hf] at c0 hk1
      rw [ht] at c1 hk1
      have hO := outS_bnd HS.out f k (by omega)
      have hO2 := outS_bnd HS.out t k (by omega)
      have hgq := ho.cell (j := f) (by omega)
      rw [outL, mapTo_ig (by omega)] at hgq
      have huq := ho.unfrozen f
      have y1 := hx.c1
      have OQ := Lib.hid ho
      have XQ := Lib.hid hx
      clear ho hx c1
      go_wp2_with fail
      go_still_tail 21, (by kernel_rfl)
      change wpList _ _ _ _ _ wr.drew
      go_wp2_with fail
      obtain ⟨w5, hw5⟩ : ∃ w5, w5 = (wr.setCell ⟨w.heap.size + 1, f, none⟩ (.int .i64 (outS net.pipes zs k f + ig zs k))).drew := ⟨_, rfl⟩
      rw [← hw5]
      have o5 : Own w5 (some ⟨w.heap.size + 1, 0, none⟩) n n (outH n net.pipes zs k) := by
        rw [hw5, ← S1.out]
        exact (OQ.out.store f ⟨by omega, by omega⟩).later (Below.refl _ _).drew
      have b5 : Below w.heap.size w w5 := by
        rw [hw5]
        exact (hb.setCell (by show w.heap.size ≤ w.heap.size + 1; omega) _).drew
      have x5 : BX w5 w.heap.size A n c (some ⟨bp, offp, none⟩) m d := ⟨by rw [hw5]; exact (Below.heap_setCell wr _ _ w.heap.size (by show w.heap.size ≠ w.heap.size + 1; omega)).trans XQ.out.box⟩
      have z5 : w5.heap.size = wr.heap.size := by rw [hw5]; show (wr.setCell _ _).heap.size = _; simp [World.setCell]
      clear hw5 hgq huq hck c0 y1
      have hg5 := o5.cell (j := t) (by omega)
      rw [outH, mapTo_ig (by omega)] at hg5
      rw [hf, if_neg (by omega), Int.add_zero] at hg5
      have hu5 := o5.unfrozen t
      obtain ⟨bb', off', hbb, _, hc5⟩ := (hz.later b5).cells (by omega)
      injection hbb with hbb
      injection hbb with hbb1 hbb2
      subst hbb1 hbb2
      have hck5 := hc5 k hlt
      obtain ⟨bp', offp', hbp, _, hcp5⟩ := (h.pipes.later b5).cells (by omega)
      injection hbp with hbp
      injection hbp with hbp1 hbp2
      subst hbp1 hbp2
      obtain ⟨_, c15, _, _, _⟩ := hcp5 k hlt
      rw [ht] at c15
      have y5 := x5.c1
      have O5 := Lib.hid o5
      have X5 := Lib.hid x5
      clear hc5 hcp5 o5 x5
      go_still_tail 21, (by kernel_rfl)
      change wpList _ _ _ _ _ w5.drew
      go_wp2_with fail
      go_roundw
      case rel =>
        refine ⟨k + 1, by omega, by go_num, ?_, (b5.setCell (by show w.heap.size ≤ w.heap.size + 1; omega) _).drew, ?_, ?_⟩
        · rw [← S2.out]
          exact (O5.out.store t ⟨by omega, by omega⟩).later (Below.refl _ _).drew
        · show _ < (w5.setCell _ _).heap.size
          simp [World.setCell]; omega
        · exact ⟨(Below.heap_setCell w5 _ _ w.heap.size (by show w.heap.size ≠ w.heap.size + 1; omega)).trans X5.out.box⟩
      case measure => simp [intOf]; omega
    · have hkm : k = m := by omega
      subst hkm
      go_wp2_with fail
      go_ret
      exact ⟨_, _, rfl, ho, (by intro a ha; injection ha with ha; subst ha; show w.heap.size ≤ w.heap.size + 1; omega), hb⟩

/-- the ends of drawn pipes -/
def PB (k : Nat) (ps : List Pipe) : Prop := ∀ x ∈ ps, 0 ≤ x.fr ∧ x.fr < (k : Int) ∧ 0 ≤ x.to ∧ x.to < (k : Int) ∧ x.fr ≠ x.to
theorem PB.up {k : Nat} {ps : List Pipe} (h : PB k ps) : PB (k + 1) ps := fun x hx => by have := h x hx; omega
theorem PB.put {k : Nat} {ps : List Pipe} {y : Pipe} {t : Int} (h : PB k ps) (h0 : 0 ≤ t) (h1 : t < k) (hy : (y.fr = t ∧ y.to = (k : Int)) ∨ (y.fr = (k : Int) ∧ y.to = t)) : PB (k + 1) (ps ++ [y]) := fun x hx => by
  rcases List.mem_append.1 hx with hx | hx
  · exact h.up x hx
  · rw [List.mem_singleton.1 hx]
    rcases hy with ⟨e1, e2⟩ | ⟨e1, e2⟩ <;> rw [e1, e2] <;> omega
theorem PB.ok {k : Nat} {ns : List Node} {ps : List Pipe} (h : PB k ps) (h1 : 1 ≤ k) (hk : k ≤ 7) (hn : ns.length = k) (hm : ps.length ≤ 40) : NetOK ⟨ns, ps⟩ := by
  refine ⟨by show 1 ≤ ns.length; omega, by show ns.length ≤ 24; omega, hm, fun j hj => ?_⟩
  have hj' : j < ps.length := hj
  have e : pp ps j = ps[j] := pp_lt hj'
  show 0 ≤ (pp ps j).fr ∧ (pp ps j).fr < (ns.length : Int) ∧ 0 ≤ (pp ps j).to ∧ (pp ps j).to < (ns.length : Int) ∧ (pp ps j).fr ≠ (pp ps j).to
  rw [e, hn]
  exact h _ (List.getElem_mem hj')
theorem flow_mk2 {net : Net} {zs : List Int} (hl : zs.length = net.pipes.length) (h : ∀ z ∈ zs, -30 ≤ z ∧ z ≤ 40) : flowB net zs = true := by
  unfold flowB
  simp only [Bool.and_eq_true, decide_eq_true_eq]
  refine ⟨hl, allB_yes (k := zs.length) (Nat.le_refl _) fun j hj => ?_⟩
  have := h _ (List.getElem_mem hj)
  have e : ig zs j = zs[j] := ig_lt hj
  rw [e]
  exact inB_iff'.2 (by omega)

set_option maxRecDepth 100000 in
set_option maxHeartbeats 8000000 in
theorem l07DrawTree_any (g : Nat) (A : Option Addr) (n c : Nat) (bs : List Int) (w : World) (h : Src w g A n c bs) :
    Calls Try.prog 113 #[.pointer (some ⟨g, 0, none⟩)] w (DrawnS w g A n c bs) := by
  have hlt := h.lt
  have hA := Lib.hid h.blk
  have hA1 : Hid (0 < n → ∀ a, A = some a → a.block < w.heap.size + 1) := Lib.hid fun hn a ha => by have := hA.out hn a ha; omega
  go_enter Try.func113, Try.ntmps113
  go_wp2_with fail
  refine (l01Next_any _ _ _ _ _ _ _ (h.alloc _)).mono ?_
  rintro e w1 ⟨q, rfl, q0, _, _, hs1, hg1⟩
  have hsz1 := hg1.size
  simp only [World.size_alloc] at hsz1
  by_cases hq : q = 0
  · subst hq
    go_wp2_with fail
    refine (l06Draw_any _ _ _ _ _ _ hs1).mono ?_
    rintro e w2 ⟨An, k, cn, Ap, m, cp, ns, ps, Al, L, cl, zs, rfl, hd, ho, hf, hk7, hm, hL, hs2, hg2⟩
    have x1 : w1.heap[w.heap.size]? = some (.cells #[.slice none 0 0, .slice none 0 0] 27 (0, 0)) := (hg1.block _ (by simp) (by intro e; injection e; omega)).trans (heap_alloc_new _ _)
    have x2 := (hg2.block w.heap.size (by omega) (by intro e; injection e; omega)).trans x1
    have d0 : w2.cell? ⟨w.heap.size, 0, none⟩ = some (.slice none 0 0) := by rw [cell_blk x2]; rfl
    have d1 : w2.cell? ⟨w.heap.size, 1, none⟩ = some (.slice none 0 0) := by rw [cell_blk x2]; rfl
    have d2 : w2.frozen? ⟨w.heap.size, 0, none⟩ = false := frozen_blk x2 0
    have d3 : w2.frozen? ⟨w.heap.size, 1, none⟩ = false := frozen_blk x2 1
    have gr := only_trans (only_trans (only_alloc (World.grownBy.refl w (some g)) (.cells #[.slice none 0 0, .slice none 0 0] 27)) hg1) hg2
    have FI : Hid (DrawnS w g A n c bs (.returned (.tuple #[.agg #[.slice An k cn, .slice Ap m cp], .slice Al L cl])) ((w2.setCell ⟨w.heap.size, 0, none⟩ (.slice An k cn)).setCell ⟨w.heap.size, 1, none⟩ (.slice Ap m cp))) :=
      Lib.hid ⟨_, _, _, _, _, _, _, _, _, _, _, zs, rfl, hd.out (by omega) _ _, (ho.far (fun a ha => by have := hf a ha; show a.block ≠ w.heap.size; omega) _).far (fun a ha => by have := hf a ha; show a.block ≠ w.heap.size; omega) _, (fun a ha => by have := hf a ha; omega), hk7, hm, hL,
        (hs2.put hlt hA.out _ _).put hlt hA.out _ _, only_put (only_put gr (Nat.le_refl _) _ _) (Nat.le_refl _) _ _⟩
    clear hd ho hf hs2 hg2 x1 x2 gr hs1 hg1
    go_wp2_with fail
    exact bodyPost_ret (v := .tuple #[.agg #[.slice An k cn, .slice Ap m cp], .slice Al L cl]) (by simp [results, Try.results113, go_sem, d0, d1]) rfl FI.out
  · have hq' : (q == 0) = false := by simp [hq]
    clear hq
    go_wp2_with fail
    refine (l01Next_any _ _ _ _ _ _ _ hs1).mono ?_
    rintro e w2 ⟨r, rfl, r0, r1, _, hs2, hg2⟩
    have r1' := r1 (by omega)
    clear r1
    have hsz2 := hg2.size
    have HG1 : Hid ((w.alloc (.cells #[.slice none 0 0, .slice none 0 0] 27)).grownBy ((w2.alloc (.cells #[] 48)).alloc (.cells #[] 64)) (some g)) := Lib.hid (only_alloc (only_alloc (only_trans hg1 hg2) _) _)
    have HS1 : Hid (Src ((w2.alloc (.cells #[] 48)).alloc (.cells #[] 64)) g A n c bs) := Lib.hid ((hs2.alloc _).alloc _)
    have HD1 : Hid (DN (w.heap.size + 1) ((w2.alloc (.cells #[] 48)).alloc (.cells #[] 64)) (some ⟨w2.heap.size, 0, none⟩) 0 0 (some ⟨w2.heap.size + 1, 0, none⟩) 0 0 [] []) := Lib.hid ⟨(ownN_lit0 w2).later (bel1 _ _), by have := ownP_lit0 (w2.alloc (.cells #[] 48)); simpa using this,
      (fun a ha => by injection ha with ha; subst ha; show _ ≤ w2.heap.size; omega), (fun a ha => by injection ha with ha; subst ha; show _ ≤ w2.heap.size + 1; omega), (fun a b ha hb => by injection ha with ha; injection hb with hb; subst ha; subst hb; show w2.heap.size ≠ w2.heap.size + 1; omega), (by simp)⟩
    clear hs1 hg1 hs2 hg2
    obtain ⟨R, rfl⟩ := Int.eq_ofNat_of_zero_le r0
    go_wp2_with fail
    go_loopw [5, 6, 7] (fun o p i wr => ∃ (k m cn cp : Nat) (An Ap : Option Addr) (ns : List Node) (ps : List Pipe), o = .slice An k cn ∧ p = .slice Ap m cp ∧ i = .int .i64 (k : Int) ∧ k ≤ 1 + R ∧ m ≤ k ∧ DN (w.heap.size + 1) wr An k cn Ap m cp ns ps ∧ Hid (PB k ps) ∧ Src wr g A n c bs ∧ (w.alloc (.cells #[.slice none 0 0, .slice none 0 0] 27)).grownBy wr (some g)) (fun _ _ i _ => 1 + R - (intOf i).toNat)
    case atStart => exact ⟨0, 0, 0, 0, _, _, _, _, rfl, rfl, rfl, by omega, by omega, by simpa using HD1.out, Lib.hid (fun x hx => by cases hx), HS1.out, HG1.out⟩
    case round =>
      obtain ⟨k, m, cn, cp, An, Ap, ns, ps, rfl, rfl, rfl, hk, hm, hd, hpb, hs, hgr⟩ := hrel
      clear HD1 HS1 HG1
      have hsz := hgr.size
      simp only [World.size_alloc] at hsz
      by_cases hkR : k < 1 + R
      · have hki : (k : Int) < 1 + (R : Int) := by omega
        go_wp2_with fail
        refine (l02DrawNode_any _ _ _ _ _ _ _ hs (by omega) (by omega)).mono ?_
        rintro e w2 ⟨x, rfl, hx, hs2, hg2⟩
        have hsz2 := hg2.size
        have hd2 := (hd.lone hg2 (by omega)).alloc (.cells #[.string x.name, .int .i64 x.low, .int .i64 x.high] 48)
        have hn2 := nodeAt_new w2 x 48
        by_cases hk0 : 0 < k
        · have hk0i : (0 : Int) < (k : Int) := by omega
          go_wp2_with (at_builtin; refine law_appendN _ rfl _ _ rfl An k cn ns rfl hd2.on _ _ x hx rfl hn2 (by omega) ?_; intro A3 c3 w3 ho3 hg3 hb3)
          have hd3 := hd2.appN ho3 hg3 hb3 (by simp; omega)
          have hs3 : Src w3 g A n c bs := (hs2.alloc _).new hg3 hd.fn (by omega) hA1.out
          have hgr3 := only_new (only_alloc (only_trans hgr hg2) _) hg3 (fun i hi => by have := fresh_row hd.fn i hi; simpa using this)
          have hsz3 := hgr3.size
          simp only [World.size_alloc] at hsz3
          clear hd2 hn2 ho3 hg3 hb3 hs2 hg2 hgr hs hd
          refine (l01Next_any _ _ _ _ _ _ _ hs3).mono ?_
          rintro e w5 ⟨t, rfl, t0, t1, t2, hs5, hg5⟩
          have t1' : t < (k : Int) := by
            by_cases h1 : 1 < (k : Int)
            · exact t1 h1
            · have := t2 (by omega); omega
          clear t1 t2
          have hd5 := hd3.lone hg5 (by omega)
          have hgr5 := only_trans hgr3 hg5
          go_wp2_with fail
          refine (l02DrawPipe_ends _ _ _ _ _ _ _ _ hs5 ⟨by omega, by omega⟩ ⟨by omega, by omega⟩).mono ?_
          rintro e w6 ⟨y, rfl, hy, hyy, hs6, hg6⟩
          have hpb6 := Lib.hid (hpb.out.put t0 t1' hyy)
          have hd6 := (hd5.lone hg6 (by omega)).alloc (.cells #[.int .i64 y.fr, .int .i64 y.to, .int .i64 y.k, .int .i64 y.vol, .int .i64 y.lim] 64)
          have hgr6 := only_alloc (only_trans hgr5 hg6) (.cells #[.int .i64 y.fr, .int .i64 y.to, .int .i64 y.k, .int .i64 y.vol, .int .i64 y.lim] 64)
          have hsz6 := hgr6.size
          simp only [World.size_alloc] at hsz6
          have hp6 := pipeAt_new w6 y 64
          clear hyy hd3 hd5
          go_wp2_with (at_builtin; refine law_appendP _ rfl _ _ rfl Ap m cp ps rfl hd6.op _ _ y hy rfl hp6 (by omega) ?_; intro A7 c7 w7 ho7 hg7 hb7)
          have hd7 := hd6.appP ho7 hg7 hb7 (by simp; omega)
          have hs7 : Src w7 g A n c bs := (hs6.alloc _).new hg7 hd6.fp (by omega) hA1.out
          have hgr7 := only_new hgr6 hg7 (fun i hi => by have := fresh_row hd6.fp i hi; simpa using this)
          clear hd6 hgr6 ho7 hg7 hb7 hp6
          go_roundw
          case rel => exact ⟨k + 1, m + 1, c3, c7, A3, A7, _, _, rfl, rfl, by go_num, by omega, by omega, hd7, hpb6, hs7, hgr7⟩
          case measure => simp [intOf]; omega
        · have hk0i : ¬ (0 : Int) < (k : Int) := by omega
          have hpb1 := Lib.hid hpb.out.up
          go_wp2_with (at_builtin; refine law_appendN _ rfl _ _ rfl An k cn ns rfl hd2.on _ _ x hx rfl hn2 (by omega) ?_; intro A3 c3 w3 ho3 hg3 hb3)
          have hd3 := hd2.appN ho3 hg3 hb3 (by simp; omega)
          have hs3 : Src w3 g A n c bs := (hs2.alloc _).new hg3 hd.fn (by omega) hA1.out
          have hgr3 := only_new (only_alloc (only_trans hgr hg2) _) hg3 (fun i hi => by have := fresh_row hd.fn i hi; simpa using this)
          have hsz3 := hgr3.size
          simp only [World.size_alloc] at hsz3
          clear hd2 hn2 ho3 hg3 hb3 hs2 hg2 hgr hs hd
          go_roundw
          case rel => exact ⟨k + 1, m, c3, cp, A3, Ap, _, _, rfl, rfl, by go_num, by omega, by omega, hd3, hpb1, hs3, hgr3⟩
          case measure => simp [intOf]; omega
      · have hki : ¬ (k : Int) < 1 + (R : Int) := by omega
        have st8 := DA.start h (by simpa using hd) hs hgr
        have hok : Hid (NetOK ⟨ns, ps⟩) := Lib.hid (hpb.out.ok (by omega) (by omega) hd.on.len (by have := hd.op.len; omega))
        have hpl : Hid (ps.length = m) := Lib.hid hd.op.len
        clear hd hs hgr hpb
        obtain ⟨w8, hw8⟩ : ∃ w8, wr.alloc (.cells #[.slice An k cn, .slice Ap m cp] 27) = w8 := ⟨_, rfl⟩
        have o0 := own_lit0 w8
        rw [hw8] at st8
        have HW8 := Lib.hid hw8
        obtain ⟨b3, hb3⟩ : ∃ b3, wr.heap.size = b3 := ⟨_, rfl⟩
        rw [hb3] at st8
        have HB3 := Lib.hid hb3
        have ST8 := Lib.hid st8
        have hlt8 : w.heap.size < w8.heap.size := by have := st8.lt; have := st8.h3; omega
        have hg8 : g < w8.heap.size := st8.src.lt
        have hA8 : Hid (0 < n → ∀ a, A = some a → a.block < w8.heap.size) := Lib.hid fun hn a ha => st8.src.blk hn a ha
        have s0 : Src (w8.alloc (.cells #[] 2)) g A n c bs := st8.src.alloc _
        have g0 : w8.grownBy (w8.alloc (.cells #[] 2)) (some g) := only_alloc (World.grownBy.refl _ _) _
        clear hw8 hb3 st8
        go_wp2_with fail
        go_loopw [9, 10] (fun p i wr => ∃ (j c5 : Nat) (A5 : Option Addr) (zs : List Int), p = .slice A5 j c5 ∧ i = .int .i64 (j : Int) ∧ j ≤ m ∧ Own wr A5 j c5 zs ∧ Hid (∀ z ∈ zs, -30 ≤ z ∧ z ≤ 40) ∧ Fresh w8.heap.size A5 ∧ Src wr g A n c bs ∧ w8.grownBy wr (some g)) (fun _ i _ => m - (intOf i).toNat)
        case atStart => first | exact ⟨0, 0, some ⟨w8.heap.size, 0, none⟩, [], rfl, rfl, by omega, o0, Lib.hid (fun z hz => by cases hz), (fun a ha => by injection ha with ha; subst ha; exact Nat.le_refl _), s0, g0⟩ | (rw [← HW8.out] at o0 s0 g0; have e8 : (wr.alloc (.cells #[.slice An k cn, .slice Ap m cp] 27)).heap.size = wr.heap.size + 1 := World.size_alloc _ _; rw [e8] at o0; exact ⟨0, 0, _, [], rfl, rfl, by omega, o0, Lib.hid (fun z hz => by cases hz), (fun a ha => by injection ha with ha; subst ha; rw [← HW8.out, e8]; exact Nat.le_refl _), s0, by rw [← HW8.out]; exact g0⟩)
        case round =>
          clear o0 s0 g0
          obtain ⟨j, c5, A5, zs, rfl, rfl, hj, oo, hzr, fo, hs, hgr⟩ := hrel
          have str := ST8.out.next hgr hs
          have k0 := str.c30
          have k1 := str.c31
          rw [← HB3.out] at k0 k1
          have hsz := hgr.size
          by_cases hjm : j < m
          · have hji : (j : Int) < (m : Int) := by omega
            clear str k0 k1
            go_wp2_with fail
            refine (l01Next_any _ _ _ _ _ _ _ hs).mono ?_
            rintro e w2 ⟨q, rfl, q0, q1, _, hs2, hg2⟩
            have q1' := q1 (by omega)
            clear q1
            have o2 := (oo.lone fo hg2 (by omega)).later (bel1 w2 (.cells #[.int .i64 (q - 25)] 2))
            have gr2 := only_alloc (only_trans hgr hg2) (.cells #[.int .i64 (q - 25)] 2)
            have hzr2 : Hid (∀ z ∈ zs ++ [q - 25], -30 ≤ z ∧ z ≤ 40) := Lib.hid (fun z hz => by
              rcases List.mem_append.1 hz with hz | hz
              · exact hzr.out z hz
              · rw [List.mem_singleton.1 hz]; omega)
            go_wp2_with (at_builtin; refine law_append _ rfl _ _ rfl A5 _ c5 _ rfl o2 _ _ (q - 25) ⟨by omega, by omega⟩ rfl (cell_new1 _ _ _) (by omega) ?_; intro A3 c3 w3 ho3 hg3 hb3)
            have s3 : Src w3 g A n c bs := (hs2.alloc _).new hg3 fo (by omega) (fun hn a ha => by have := hA8.out hn a ha; omega)
            have gr3 := only_new gr2 hg3 (fun i hi => fresh_row fo i hi)
            have f3 := fresh_app fo (by have := gr2.size; exact this) hb3
            clear o2 gr2 hg3 hb3
            go_roundw
            case rel => exact ⟨j + 1, c3, A3, _, rfl, by go_num, by omega, ho3, hzr2, f3, s3, gr3⟩
            case measure => simp [intOf]; omega
          · have hji : ¬ (j : Int) < (m : Int) := by omega
            have hfl : Hid (flowB ⟨ns, ps⟩ zs = true) := Lib.hid (flow_mk2 (by have := oo.len; have := hpl.out; show zs.length = ps.length; omega) hzr.out)
            have STR := Lib.hid (str.later (Below.refl _ _).drew)
            have OO := Lib.hid (oo.later (Below.refl _ _).drew)
            have d0 := str.c20
            have d1 := str.c21
            have d2 := str.f2 0
            have d3 := str.f2 1
            have hh3 := str.h3
            have hltr := str.lt
            have hb3r := HB3.out
            clear hb3r
            have FIN : ∀ {W : World} {Al : Option Addr} {cl : Nat} {zs : List Int}, DA w g A n c bs w.heap.size b3 An k cn Ap m cp ns ps W → Own W Al k cl zs → (∀ a, Al = some a → w.heap.size < a.block) → Hid (DrawnS w g A n c bs (.returned (.tuple #[.agg #[.slice An k cn, .slice Ap m cp], .slice Al k cl])) ((W.setCell ⟨w.heap.size, 0, none⟩ (.slice An k cn)).setCell ⟨w.heap.size, 1, none⟩ (.slice Ap m cp))) := fun {W Al cl zs} h ho hl => Lib.hid ⟨_, _, _, _, _, _, _, _, _, _, _, zs, rfl, h.fin2.1, (ho.far (fun a ha => by have := hl a ha; show a.block ≠ w.heap.size; omega) _).far (fun a ha => by have := hl a ha; show a.block ≠ w.heap.size; omega) _, (fun a ha => by have := hl a ha; omega), by omega, by omega, by omega, h.fin2.2⟩
            clear str oo fo hzr hs hgr
            go_wp2_with fail
            go_region_with (go_at_call 86; refine (l05Out_ok _ _ _ _ _ _ ⟨ns, ps⟩ _ _ _ zs _ STR.out.net OO.out.ints hok.out hfl.out).mono ?_; rintro e wz ⟨Ao, co, rfl, os, fs, bz⟩; have stz := STR.out.later bz; have FI := FIN stz os (fun a ha => by have h1 := fs a ha; have h2 := STR.out.lt; omega); have z0 := stz.c30; have z1 := stz.c31; rw [← HB3.out] at z0 z1; have c0 := stz.c20; have c1 := stz.c21; have v0 := stz.f2 0; have v1 := stz.f2 1; clear stz)
            all_goals
              go_wp2_with fail
              exact bodyPost_ret (v := .tuple #[.agg #[.slice An k cn, .slice Ap m cp], .slice Ao k co]) (by simp [results, Try.results113, go_sem, c0, c1]) rfl FI.out

set_option maxRecDepth 100000 in
set_option maxHeartbeats 8000000 in
theorem DrawTreeLevels_any (A : Option Addr) (n c : Nat) (bs : List Int) (w : World) (h : Bytes w A n c bs) :
    Calls Try.prog 47 #[.slice A n c] w (DG w fun x y => #[.int .i64 x, .int .i64 y]) := by
  go_enter Try.func47, Try.ntmps47
  go_wp2_with fail
  refine (l01From_any _ _ _ _ _ (h.later (bel1 _ _))).mono ?_
  rintro e w1 ⟨rfl, s1, b1⟩
  simp only [World.size_alloc] at s1
  go_wp2_with fail
  refine (l07DrawTree_any _ _ _ _ _ _ s1).mono ?_
  rintro e w2 ⟨An, k, cn, Ap, m, cp, ns, ps, Al, L, cl, zs, rfl, hd, ol, fl1, hk7, hm, hL, hs2, hg2⟩
  have st0 := DT.start s1 b1 hd hs2 hg2
  obtain ⟨w3, hw3⟩ : ∃ w3, w3 = w2.alloc (.cells #[.slice An k cn, .slice Ap m cp] 27) := ⟨_, rfl⟩
  rw [← hw3] at st0
  have HW3 := Lib.hid hw3
  have k0 := st0.c60
  have k1 := st0.c61
  rw [hw3] at k0 k1
  have ol0 := ol.later (bel1 w2 (.cells #[.slice An k cn, .slice Ap m cp] 27))
  rw [hw3.symm] at ol0
  clear hd hs2 hg2 b1 s1 hw3 ol
  go_wp2_with fail
  rw [← HW3.out]
  refine (l02DrawIndex_any _ _ _ _ _ k _ st0.src (by omega)).mono ?_
  rintro e w6 ⟨x, rfl, hx, hs6, hg6⟩
  have ol6 := ol0.lone fl1 hg6 st0.e3
  have st6 := st0.next hg6 hs6
  clear st0 ol0 hs6 hg6 k0 k1 HW3
  have OL := Lib.hid (ol6.later (Below.refl _ _).drew)
  have j0 := st6.c60
  have j1 := st6.c61
  have d0 := st6.c20
  have d1 := st6.c21
  have d2 := st6.f2 0
  have d3 := st6.f2 1
  have hgs := st6.e3
  have ST := Lib.hid (st6.later (Below.refl _ _).drew)
  have FIN : ∀ {W : World} {x y : Int}, DT w w1 (w.heap.size + 1) A n c bs w2.heap.size An k cn Ap m cp ns ps W → Own W Al L cl zs → Fresh w1.heap.size Al → L ≤ 20 → I64 x → I64 y → Hid (DG w (fun x y => #[.int .i64 x, .int .i64 y]) (.returned (.tuple #[.agg #[.slice An k cn, .slice Ap m cp], .slice Al L cl, .int .i64 x, .int .i64 y])) ((W.setCell ⟨w.heap.size, 0, none⟩ (.slice An k cn)).setCell ⟨w.heap.size, 1, none⟩ (.slice Ap m cp))) := fun {W x y} h ho hf hL hx hy => Lib.hid ⟨An, k, cn, Ap, m, cp, ns, ps, Al, L, cl, zs, x, y, rfl, h.fnD, h.fiO ho hf, h.fiF hf, hk7, hm, hL, hx, hy, h.fin.2⟩
  have FIX := fun {W : World} {y : Int} (h1 : DT w w1 (w.heap.size + 1) A n c bs w2.heap.size An k cn Ap m cp ns ps W) (h2 : Own W Al L cl zs) h3 h4 (hy : I64 y) => FIN h1 h2 h3 h4 hx hy
  clear FIN st6 ol6
  go_wp2_with fail
  go_region_with (go_at_call 115; refine (l07DrawLevel_any _ _ _ _ _ _ ST.out.src).mono ?_; rintro e wz ⟨y, rfl, hy, hsz, hgz⟩; have stz := ST.out.next hgz hsz; have FI := FIX stz (OL.out.lone fl1 hgz hgs) fl1 (by omega) hy; have z0 := stz.c60; have z1 := stz.c61; have c0 := stz.c20; have c1 := stz.c21; have v0 := stz.f2 0; have v1 := stz.f2 1; clear stz)
  all_goals
    go_wp2_with fail
    exact bodyPost_ret (v := .tuple #[.agg #[.slice An k cn, .slice Ap m cp], .slice Al L cl, .int .i64 x, .int .i64 y]) (by simp [results, Try.results47, go_sem, c0, c1]) rfl FI.out

end Go.Proofs.Ytioiebjgjimeiaa
