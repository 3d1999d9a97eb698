/- memory: slices of the call's own side by side; networks as graphs -/
import Derived.Test.YtllblmndoigdlaaF9
import Derived.Test.YtllblmndoigdlaaQ4
import Derived.Test.YtllblmndoigdlaaDr9
namespace Go.Proofs.Ytllblmndoigdlaa
open Go.RowKit

/-- two rows in different blocks -/
def Apart (A A' : Option Addr) : Prop := ∀ a a', A = some a → A' = some a' → a.block ≠ a'.block
theorem Apart.symm {A A' : Option Addr} (h : Apart A A') : Apart A' A := fun a a' h1 h2 => Ne.symm (h a' a h2 h1)
theorem apart_new {A A' : Option Addr} {B : Nat} (h : ∀ a, A = some a → a.block < B) (h' : Fresh B A') : Apart A A' := fun a a' h1 h2 => by
  have := h a h1; have := h' a' h2; omega
theorem apart_nil {A : Option Addr} : Apart none A := fun a a' h1 _ => by cases h1
theorem apart_ne {a b : Nat} {o o' : Nat} (h : a ≠ b) : Apart (some ⟨a, o, none⟩) (some ⟨b, o', none⟩) := fun x y hx hy => by
  injection hx with hx; injection hy with hy; subst hx; subst hy; exact h

/-- a change of one row, or growth, leaves another row -/
theorem Own.aside {w w' : World} {A E : Option Addr} {n c : Nat} {zs : List Int} (h : Own w E n c zs) (hp : Apart A E) (hg : w.grownBy w' (A.map (·.block))) : Own w' E n c zs :=
  h.keep fun a ha => hg.block _ (h.lt a ha) (fun e => by
    cases A with
    | none => cases e
    | some x => simp at e; exact hp x a rfl ha e.symm)
theorem apart_app {w : World} {A A' E : Option Addr} (hp : Apart A E) (hl : ∀ a, E = some a → a.block < w.heap.size) (hb : A'.map (·.block) = A.map (·.block) ∨ A'.map (·.block) = some w.heap.size) : Apart A' E := by
  intro a a' h1 h2
  subst h1
  have := hl a' h2
  rcases hb with hb | hb
  · cases A with
    | none => simp at hb
    | some x => simp at hb; rw [hb]; exact hp x a' rfl h2
  · simp at hb; omega
theorem below_app {w0 w w' : World} {A : Option Addr} (h : Below w0.heap.size w0 w) (hf : Fresh w0.heap.size A) (hg : w.grownBy w' (A.map (·.block))) : Below w0.heap.size w0 w' :=
  h.grown hg h.size fun i hi => fresh_row hf i hi
theorem fresh_app' {w0 w : World} {A A' : Option Addr} (hf : Fresh w0.heap.size A) (hs : w0.heap.size ≤ w.heap.size) (hb : A'.map (·.block) = A.map (·.block) ∨ A'.map (·.block) = some w.heap.size) : Fresh w0.heap.size A' := fresh_app hf hs hb

theorem size_alloc1 (w : World) (o : Obj) : (w.alloc o).heap.size = w.heap.size + 1 := by simp
theorem cell_new2 (w : World) (o : Obj) (v : Value) (t : TypeId) : ((w.alloc o).alloc (.cells #[v] t)).cell? ⟨w.heap.size + 1, 0, none⟩ = some v := by
  rw [← size_alloc1 w o]; exact cell_new1 (w.alloc o) v t
theorem cell_new3 (w : World) (o o' : Obj) (v : Value) (t : TypeId) : (((w.alloc o).alloc o').alloc (.cells #[v] t)).cell? ⟨w.heap.size + 1 + 1, 0, none⟩ = some v := by
  rw [← size_alloc1 w o, ← size_alloc1 (w.alloc o) o']; exact cell_new1 ((w.alloc o).alloc o') v t

/-! ### networks as graphs -/
def netG (net : Net) : Gr := ⟨net.nodes.length, net.pipes.length, fun i => (pp net.pipes i).fr.toNat, fun i => (pp net.pipes i).to.toNat⟩
structure NetOK (net : Net) : Prop where
  n1 : 1 ≤ net.nodes.length
  n24 : net.nodes.length ≤ 24
  m40 : net.pipes.length ≤ 40
  pipe : ∀ j, j < net.pipes.length → 0 ≤ (pp net.pipes j).fr ∧ (pp net.pipes j).fr < net.nodes.length ∧ 0 ≤ (pp net.pipes j).to ∧ (pp net.pipes j).to < net.nodes.length ∧ (pp net.pipes j).fr ≠ (pp net.pipes j).to
theorem NetOK.of {net : Net} (h : netB net = true) : NetOK net :=
  ⟨(netB_sizes h).1, (netB_sizes h).2.1, (netB_sizes h).2.2, fun j hj => by have := netB_pipe_at h hj; omega⟩
theorem NetOK.g {net : Net} (h : NetOK net) : (netG net).ok := fun i hi => by
  have := h.pipe i hi
  show (pp net.pipes i).fr.toNat < net.nodes.length ∧ (pp net.pipes i).to.toNat < net.nodes.length ∧ (pp net.pipes i).fr.toNat ≠ (pp net.pipes i).to.toNat
  omega
theorem NetOK.fr {net : Net} (h : NetOK net) {j : Nat} (hj : j < net.pipes.length) : (pp net.pipes j).fr = ((netG net).f j : Nat) := by
  have := h.pipe j hj
  show _ = (((pp net.pipes j).fr.toNat : Nat) : Int)
  omega
theorem NetOK.to {net : Net} (h : NetOK net) {j : Nat} (hj : j < net.pipes.length) : (pp net.pipes j).to = ((netG net).t j : Nat) := by
  have := h.pipe j hj
  show _ = (((pp net.pipes j).to.toNat : Nat) : Int)
  omega

/-- a list of numbers of nodes or pipes in memory -/
def nl (l : List Nat) : List Int := l.map Int.ofNat
theorem nl_len (l : List Nat) : (nl l).length = l.length := by simp [nl]
theorem nl_snoc (l : List Nat) (x : Nat) : nl (l ++ [x]) = nl l ++ [(x : Int)] := by simp [nl]
theorem nl_ig {l : List Nat} {j : Nat} (h : j < l.length) : ig (nl l) j = (l[j] : Nat) := by
  rw [ig_lt (by rw [nl_len]; exact h)]; simp [nl]
theorem Gr.atK_succ (g : Gr) (v k : Nat) : g.atK v (k + 1) = if g.touch v k then g.atK v k ++ [k] else g.atK v k := by
  unfold Gr.atK
  rw [List.range_succ, List.filter_append]
  by_cases h : g.touch v k = true
  · simp [h]
  · simp [h]
theorem Gr.atK_len (g : Gr) (v k : Nat) : (g.atK v k).length ≤ k := by
  have := List.length_filter_le (g.touch v) (List.range k)
  simpa [Gr.atK] using this

end Go.Proofs.Ytllblmndoigdlaa

/- the pipes at a node; the other end of a pipe -/
namespace Go.Proofs.Ytllblmndoigdlaa
open Go.RowKit

set_option maxRecDepth 100000 in
set_option maxHeartbeats 4000000 in
theorem pipesAt_any (A : Option Addr) (n c : Nat) (B : Option Addr) (m d : Nat) (net : Net) (v : Nat) (w : World) (h : NetAt w A n c B m d net) (ok : NetOK net) :
    Calls Try.prog 138 #[.agg #[.slice A n c, .slice B m d], .int .i64 v] w fun e w' => ∃ A' c', e = .returned (.slice A' ((netG net).at v).length c') ∧ Own w' A' ((netG net).at v).length c' (nl ((netG net).at v)) ∧ Fresh w.heap.size A' ∧ Below w.heap.size w w' := by
  have HB := Lib.hid (bel1 w (.cells #[.slice A n c, .slice B m d] 27))
  have HM := Lib.hid h.pipes.len
  have hm40 := ok.m40
  rw [HM.out] at hm40
  have OK := Lib.hid ok
  have hple := h.pipes.le
  have hpcap := h.pipes.cap
  clear ok
  go_enter Try.func138, Try.ntmps138
  go_wp2_with fail
  go_loopw [5, 11] (fun s i wr => ∃ (k : Nat) (A5 : Option Addr) (c5 : Nat), k ≤ m ∧ s = .slice A5 ((netG net).atK v k).length c5 ∧ i = .int .i64 k ∧ Own wr A5 ((netG net).atK v k).length c5 (nl ((netG net).atK v k)) ∧ Fresh w.heap.size A5 ∧ Below w.heap.size w wr) (fun _ i _ => m - (intOf i).toNat)
  case atStart => exact ⟨0, none, 0, by omega, rfl, rfl, Own.nil, (fun a ha => by cases ha), HB.out⟩
  case round =>
    obtain ⟨k, A5, c5, hk, rfl, rfl, ho, hf, hb⟩ := hrel
    by_cases hlt : k < m
    · obtain ⟨bp, offp, rfl, hblp, hcp⟩ := (h.pipes.later hb).cells (by omega)
      obtain ⟨c0, c1, c2, c3, c4⟩ := hcp k hlt
      clear hcp
      have HF := Lib.hid (OK.out.fr (j := k) (by rw [HM.out]; omega))
      have HT := Lib.hid (OK.out.to (j := k) (by rw [HM.out]; omega))
      have HS := Lib.hid (Gr.atK_succ (netG net) v k)
      have hlen := Gr.atK_len (netG net) v k
      have hbs := hb.size
      rw [HF.out] at c0
      rw [HT.out] at c1
      by_cases ht : (netG net).touch v k = true
      · rw [if_pos ht] at HS
        have HT2 := Lib.hid ht
        have step : ∀ (o o' : Obj) (A3 : Option Addr) (c3 : Nat) (w3 : World), ((wr.alloc o).alloc o').grownBy w3 (A5.map (·.block)) → (A3.map (·.block) = A5.map (·.block) ∨ A3.map (·.block) = some ((wr.alloc o).alloc o').heap.size) → Own w3 A3 (((netG net).atK v k).length + 1) c3 (nl ((netG net).atK v k) ++ [(k : Int)]) →
            Own w3 A3 ((netG net).atK v (k + 1)).length c3 (nl ((netG net).atK v (k + 1))) ∧ Fresh w.heap.size A3 ∧ Below w.heap.size w w3 ∧ ((netG net).atK v (k + 1)).length = ((netG net).atK v k).length + 1 := by
          intro o o' A3 c3 w3 hg3 hb3 ho3
          have t2 := below_step hb (bel2 wr o o')
          have hl : ((netG net).atK v (k + 1)).length = ((netG net).atK v k).length + 1 := by rw [HS.out]; simp
          refine ⟨?_, fresh_app' hf t2.size hb3, below_app t2 hf hg3, hl⟩
          rw [hl, HS.out, nl_snoc]; exact ho3
        have ST := Lib.hid step
        clear step
        have hor : (netG net).f k = v ∨ (netG net).t k = v := by simpa [Gr.touch] using ht
        clear ht
        by_cases e1 : (netG net).f k = v
        · have g1 : (((netG net).f k : Int) == (v : Int)) = true := by simp [e1]
          generalize (netG net).f k = F at *
          generalize (netG net).t k = T at *
          clear e1 hor
          go_wp2_with (at_builtin; refine law_append _ rfl _ _ rfl A5 _ c5 _ rfl (ho.later (bel2 _ _ _)) _ _ k ⟨by omega, by omega⟩ rfl (cell_new2 _ _ _ _) (by omega) ?_; intro A3 c3 w3 ho3 hg3 hb3)
          obtain ⟨r1, r2, r3, r4⟩ := ST.out _ _ _ _ _ hg3 hb3 ho3
          go_roundw
          case rel => exact ⟨k + 1, A3, c3, by omega, by rw [r4], by go_num, r1, r2, r3⟩
          case measure => simp [intOf]; omega
        · have g1 : (((netG net).f k : Int) == (v : Int)) = false := by simp; omega
          have g2 : (((netG net).t k : Int) == (v : Int)) = true := by simp; omega
          generalize (netG net).f k = F at *
          generalize (netG net).t k = T at *
          clear e1 hor
          go_wp2_with (at_builtin; refine law_append _ rfl _ _ rfl A5 _ c5 _ rfl (ho.later (bel2 _ _ _)) _ _ k ⟨by omega, by omega⟩ rfl (cell_new2 _ _ _ _) (by omega) ?_; intro A3 c3 w3 ho3 hg3 hb3)
          obtain ⟨r1, r2, r3, r4⟩ := ST.out _ _ _ _ _ hg3 hb3 ho3
          go_roundw
          case rel => exact ⟨k + 1, A3, c3, by omega, by rw [r4], by go_num, r1, r2, r3⟩
          case measure => simp [intOf]; omega
      · rw [if_neg ht] at HS
        have hor : ¬ ((netG net).f k = v ∨ (netG net).t k = v) := by simpa [Gr.touch] using ht
        have g1 : (((netG net).f k : Int) == (v : Int)) = false := by simp; omega
        have g2 : (((netG net).t k : Int) == (v : Int)) = false := by simp; omega
        clear ht hor
        generalize (netG net).f k = F at *
        generalize (netG net).t k = T at *
        go_wp2_with fail
        go_roundw
        case rel => exact ⟨k + 1, A5, c5, by omega, by rw [HS.out], by go_num, by rw [HS.out]; exact ho.later (bel1 _ _), hf, below_step hb (bel1 _ _)⟩
        case measure => simp [intOf]; omega
    · have hkm : k = m := by omega
      subst hkm
      have e : (netG net).at v = (netG net).atK v k := by unfold Gr.at; rw [show (netG net).m = k from HM.out]
      go_wp2_with fail
      go_ret
      rw [e]
      exact ⟨_, _, rfl, ho, hf, hb⟩

theorem own_lit1 (w : World) (o : Obj) : Own ((w.alloc o).alloc (.cells #[] 2)) (some ⟨w.heap.size + 1, 0, none⟩) 0 0 [] := by
  have := own_lit0 (w.alloc o)
  rwa [size_alloc1] at this

set_option maxRecDepth 100000 in
set_option maxHeartbeats 4000000 in
theorem l02At_any (A : Option Addr) (n c : Nat) (B : Option Addr) (m d : Nat) (net : Net) (v : Nat) (w : World) (h : NetAt w A n c B m d net) (ok : NetOK net) :
    Calls Try.prog 140 #[.agg #[.slice A n c, .slice B m d], .int .i64 v] w fun e w' => ∃ A' c', e = .returned (.slice A' ((netG net).at v).length c') ∧ Own w' A' ((netG net).at v).length c' (nl ((netG net).at v)) ∧ Fresh w.heap.size A' ∧ Below w.heap.size w w' := by
  have HB := Lib.hid (bel1 w (.cells #[.slice A n c, .slice B m d] 27))
  have HM := Lib.hid h.pipes.len
  have hm40 := ok.m40
  rw [HM.out] at hm40
  have OK := Lib.hid ok
  have hple := h.pipes.le
  have hpcap := h.pipes.cap
  clear ok
  go_enter Try.func140, Try.ntmps140
  go_wp2_with fail
  go_loopw [5, 6] (fun s i wr => ∃ (k : Nat) (A5 : Option Addr) (c5 : Nat), k ≤ m ∧ s = .slice A5 ((netG net).atK v k).length c5 ∧ i = .int .i64 k ∧ Own wr A5 ((netG net).atK v k).length c5 (nl ((netG net).atK v k)) ∧ Fresh (w.alloc (.cells #[.slice A n c, .slice B m d] 27)).heap.size A5 ∧ Below (w.alloc (.cells #[.slice A n c, .slice B m d] 27)).heap.size (w.alloc (.cells #[.slice A n c, .slice B m d] 27)) wr) (fun _ i _ => m - (intOf i).toNat)
  case atStart => exact ⟨0, some ⟨w.heap.size + 1, 0, none⟩, 0, by omega, rfl, rfl, own_lit1 _ _, (fun a ha => by injection ha with ha; subst ha; simp), bel1 _ _⟩
  case round =>
    obtain ⟨k, A5, c5, hk, rfl, rfl, ho, hf, hb⟩ := hrel
    obtain ⟨k0, k1⟩ := box_cells hb
    have hb0 := below_step HB.out hb
    by_cases hlt : k < m
    · obtain ⟨bp, offp, rfl, hblp, hcp⟩ := (h.pipes.later hb0).cells (by omega)
      obtain ⟨c0, c1, c2, c3, c4⟩ := hcp k hlt
      clear hcp c2 c3 c4
      have HF := Lib.hid (OK.out.fr (j := k) (by rw [HM.out]; omega))
      have HT := Lib.hid (OK.out.to (j := k) (by rw [HM.out]; omega))
      have HS := Lib.hid (Gr.atK_succ (netG net) v k)
      have hlen := Gr.atK_len (netG net) v k
      rw [HF.out] at c0
      rw [HT.out] at c1
      by_cases ht : (netG net).touch v k = true
      · rw [if_pos ht] at HS
        have step : ∀ (o : Obj) (A3 : Option Addr) (c3 : Nat) (w3 : World), (wr.alloc o).grownBy w3 (A5.map (·.block)) → (A3.map (·.block) = A5.map (·.block) ∨ A3.map (·.block) = some (wr.alloc o).heap.size) → Own w3 A3 (((netG net).atK v k).length + 1) c3 (nl ((netG net).atK v k) ++ [(k : Int)]) →
            Own w3 A3 ((netG net).atK v (k + 1)).length c3 (nl ((netG net).atK v (k + 1))) ∧ Fresh (w.alloc (.cells #[.slice A n c, .slice (some ⟨bp, offp, none⟩) m d] 27)).heap.size A3 ∧ Below (w.alloc (.cells #[.slice A n c, .slice (some ⟨bp, offp, none⟩) m d] 27)).heap.size (w.alloc (.cells #[.slice A n c, .slice (some ⟨bp, offp, none⟩) m d] 27)) w3 ∧ ((netG net).atK v (k + 1)).length = ((netG net).atK v k).length + 1 := by
          intro o A3 c3 w3 hg3 hb3 ho3
          have t2 := below_step hb (bel1 wr o)
          have hl : ((netG net).atK v (k + 1)).length = ((netG net).atK v k).length + 1 := by rw [HS.out]; simp
          refine ⟨?_, fresh_app' hf t2.size hb3, below_app t2 hf hg3, hl⟩
          rw [hl, HS.out, nl_snoc]; exact ho3
        have ST := Lib.hid step
        clear step
        have hor : (netG net).f k = v ∨ (netG net).t k = v := by simpa [Gr.touch] using ht
        clear ht
        by_cases e1 : (netG net).f k = v
        · have g1 : (((netG net).f k : Int) == (v : Int)) = true := by simp [e1]
          generalize (netG net).f k = F at *
          generalize (netG net).t k = T at *
          clear e1 hor
          go_wp2_with (at_builtin; refine law_append _ rfl _ _ rfl A5 _ c5 _ rfl (ho.later (bel1 _ _)) _ _ k ⟨by omega, by omega⟩ rfl (cell_new1 _ _ _) (by omega) ?_; intro A3 c3 w3 ho3 hg3 hb3)
          obtain ⟨r1, r2, r3, r4⟩ := ST.out _ _ _ _ hg3 hb3 ho3
          go_roundw
          case rel => exact ⟨k + 1, A3, c3, by omega, by rw [r4], by go_num, r1, r2, r3⟩
          case measure => simp [intOf]; omega
        · have g1 : (((netG net).f k : Int) == (v : Int)) = false := by simp; omega
          have g2 : (((netG net).t k : Int) == (v : Int)) = true := by simp; omega
          generalize (netG net).f k = F at *
          generalize (netG net).t k = T at *
          clear e1 hor
          go_wp2_with (at_builtin; refine law_append _ rfl _ _ rfl A5 _ c5 _ rfl (ho.later (bel1 _ _)) _ _ k ⟨by omega, by omega⟩ rfl (cell_new1 _ _ _) (by omega) ?_; intro A3 c3 w3 ho3 hg3 hb3)
          obtain ⟨r1, r2, r3, r4⟩ := ST.out _ _ _ _ hg3 hb3 ho3
          go_roundw
          case rel => exact ⟨k + 1, A3, c3, by omega, by rw [r4], by go_num, r1, r2, r3⟩
          case measure => simp [intOf]; omega
      · rw [if_neg ht] at HS
        have hor : ¬ ((netG net).f k = v ∨ (netG net).t k = v) := by simpa [Gr.touch] using ht
        have g1 : (((netG net).f k : Int) == (v : Int)) = false := by simp; omega
        have g2 : (((netG net).t k : Int) == (v : Int)) = false := by simp; omega
        clear ht hor
        generalize (netG net).f k = F at *
        generalize (netG net).t k = T at *
        go_wp2_with fail
        go_roundw
        case rel => exact ⟨k + 1, A5, c5, by omega, by rw [HS.out], by go_num, by rw [HS.out]; exact ho, hf, hb⟩
        case measure => simp [intOf]; omega
    · have hkm : k = m := by omega
      subst hkm
      have e : (netG net).at v = (netG net).atK v k := by unfold Gr.at; rw [show (netG net).m = k from HM.out]
      go_wp2_with fail
      go_ret
      rw [e]
      exact ⟨_, _, rfl, ho, fresh_up hf (by simp), hb0⟩

set_option maxHeartbeats 1000000 in
theorem otherEnd_any (p : Pipe) (g : Gr) (i v : Nat) (w : World) (hf : p.fr = g.f i) (ht : p.to = g.t i) :
    Calls Try.prog 114 #[.agg #[.int .i64 p.fr, .int .i64 p.to, .int .i64 p.k, .int .i64 p.vol, .int .i64 p.lim], .int .i64 v] w fun e w' => e = .returned (.int .i64 (g.oth i v)) ∧ Below w.heap.size w w' := by
  rw [hf, ht]
  by_cases e1 : g.f i = v
  · have g1 : ((g.f i : Int) == (v : Int)) = true := by simp [e1]
    have HO : Hid (g.oth i v = g.t i) := Lib.hid (by unfold Gr.oth; rw [if_pos e1])
    generalize g.f i = F at *
    generalize g.t i = T at *
    clear e1 hf ht
    go_enter Try.func114, Try.ntmps114
    go_wp2_with fail
    go_ret
    exact ⟨ret_int (by rw [HO.out]), bel1 _ _⟩
  · have g1 : ((g.f i : Int) == (v : Int)) = false := by simp; omega
    have HO : Hid (g.oth i v = g.f i) := Lib.hid (by unfold Gr.oth; rw [if_neg e1])
    generalize g.f i = F at *
    generalize g.t i = T at *
    clear e1 hf ht
    go_enter Try.func114, Try.ntmps114
    go_wp2_with fail
    go_ret
    exact ⟨ret_int (by rw [HO.out]), bel1 _ _⟩

set_option maxRecDepth 100000 in
set_option maxHeartbeats 1000000 in
theorem l02Other_any (A : Option Addr) (n c : Nat) (B : Option Addr) (m d : Nat) (net : Net) (i v : Nat) (w : World) (h : NetAt w A n c B m d net) (ok : NetOK net) (hi : i < m) (hv : (netG net).f i = v ∨ (netG net).t i = v) :
    Calls Try.prog 117 #[.agg #[.slice A n c, .slice B m d], .int .i64 i, .int .i64 v] w fun e w' => e = .returned (.int .i64 ((netG net).oth i v)) ∧ Below w.heap.size w w' := by
  have HM := Lib.hid h.pipes.len
  have hm40 := ok.m40
  rw [HM.out] at hm40
  have hple := h.pipes.le
  have hpcap := h.pipes.cap
  have hp := ok.pipe i (by rw [HM.out]; exact hi)
  have hn := ok.n24
  obtain ⟨bp, offp, rfl, hblp, hcp⟩ := h.pipes.cells (by omega)
  obtain ⟨c0, c1, c2, c3, c4⟩ := hcp i hi
  clear hcp c2 c3 c4
  have HO : Hid ((pp net.pipes i).fr + (pp net.pipes i).to - (v : Int) = ((netG net).oth i v : Nat)) := Lib.hid (by
    have h1 := ok.fr (j := i) (by rw [HM.out]; exact hi)
    have h2 := ok.to (j := i) (by rw [HM.out]; exact hi)
    unfold Gr.oth
    split <;> omega)
  have hv24 : v < 24 := by
    have h1 := ok.fr (j := i) (by rw [HM.out]; exact hi)
    have h2 := ok.to (j := i) (by rw [HM.out]; exact hi)
    omega
  clear hv
  generalize (pp net.pipes i).fr = F at *
  generalize (pp net.pipes i).to = T at *
  go_enter Try.func117, Try.ntmps117
  go_wp2_with fail
  go_quiet (fail)
  go_wp2_with fail
  go_ret
  exact ⟨ret_int HO.out, below_drew (bel1 _ _) _⟩

end Go.Proofs.Ytllblmndoigdlaa
