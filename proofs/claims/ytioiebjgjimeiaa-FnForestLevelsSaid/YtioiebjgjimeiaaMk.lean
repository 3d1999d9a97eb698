/- what the exact laws over networks share -/
import Derived.Test.YtioiebjgjimeiaaN3
import Derived.Deep.RegionWith
import Derived.Test.YtioiebjgjimeiaaDr9
import Derived.Laws.BytesArg
namespace Go.Proofs.Ytioiebjgjimeiaa
open Go.RowKit

/-- the box of the law's network, and that nothing old has turned -/
structure LS (w wr : World) (A : Option Addr) (n c : Nat) (B : Option Addr) (m d : Nat) : Prop where
  below : Below w.heap.size w wr
  box : wr.heap[w.heap.size]? = some (.cells #[.slice A n c, .slice B m d] 52 (0, 0))
theorem LS.start (w : World) (A : Option Addr) (n c : Nat) (B : Option Addr) (m d : Nat) : LS w (w.alloc (.cells #[.slice A n c, .slice B m d] 52)) A n c B m d := ⟨bel1 _ _, heap_alloc_new w _⟩
theorem LS.lt {w wr : World} {A B : Option Addr} {n c m d : Nat} (h : LS w wr A n c B m d) : w.heap.size < wr.heap.size := (Array.getElem?_eq_some_iff.1 h.box).1
theorem LS.step {w wr wr' : World} {A B : Option Addr} {n c m d : Nat} (h : LS w wr A n c B m d) (hb : Below wr.heap.size wr wr') : LS w wr' A n c B m d := ⟨below_step h.below hb, (hb.block _ h.lt).trans h.box⟩
theorem LS.c0 {w wr : World} {A B : Option Addr} {n c m d : Nat} (h : LS w wr A n c B m d) : wr.cell? ⟨w.heap.size, 0, none⟩ = some (.slice A n c) := by rw [cell_blk h.box]; rfl
theorem LS.c1 {w wr : World} {A B : Option Addr} {n c m d : Nat} (h : LS w wr A n c B m d) : wr.cell? ⟨w.heap.size, 1, none⟩ = some (.slice B m d) := by rw [cell_blk h.box]; rfl
/-- the box of the program's network -/
structure BX (wr : World) (g : Nat) (A : Option Addr) (n c : Nat) (B : Option Addr) (m d : Nat) : Prop where
  box : wr.heap[g]? = some (.cells #[.slice A n c, .slice B m d] 27 (0, 0))
theorem BX.lt {wr : World} {g : Nat} {A B : Option Addr} {n c m d : Nat} (h : BX wr g A n c B m d) : g < wr.heap.size := (Array.getElem?_eq_some_iff.1 h.box).1
theorem BX.step {wr wr' : World} {g : Nat} {A B : Option Addr} {n c m d : Nat} (h : BX wr g A n c B m d) (hb : Below wr.heap.size wr wr') : BX wr' g A n c B m d := ⟨(hb.block _ h.lt).trans h.box⟩
theorem BX.c0 {wr : World} {g : Nat} {A B : Option Addr} {n c m d : Nat} (h : BX wr g A n c B m d) : wr.cell? ⟨g, 0, none⟩ = some (.slice A n c) := by rw [cell_blk h.box]; rfl
theorem BX.c1 {wr : World} {g : Nat} {A B : Option Addr} {n c m d : Nat} (h : BX wr g A n c B m d) : wr.cell? ⟨g, 1, none⟩ = some (.slice B m d) := by rw [cell_blk h.box]; rfl

end Go.Proofs.Ytioiebjgjimeiaa

/- marks in networks -/
namespace Go.Proofs.Ytioiebjgjimeiaa
open Go.RowKit

theorem Own.apart {w w' : World} {A X : Option Addr} {n c B : Nat} {zs : List Int} (h : Own w A n c zs) (hf : Fresh B A) (hg : w.grownBy w' (X.map (·.block))) (hx : ∀ a, X = some a → a.block < B) : Own w' A n c zs :=
  h.keep fun a ha => hg.block _ (h.lt a ha) (fun e => by
    cases X with
    | none => cases e
    | some x => have := hf a ha; have := hx x rfl; simp at e; omega)
theorem Own.apart' {w w' : World} {A X : Option Addr} {n c B : Nat} {zs : List Int} (h : Own w A n c zs) (hf : ∀ a, A = some a → a.block < B) (hg : w.grownBy w' (X.map (·.block))) (hx : Fresh B X) : Own w' A n c zs :=
  h.keep fun a ha => hg.block _ (h.lt a ha) (fun e => by
    cases X with
    | none => cases e
    | some x => have := hf a ha; have := hx x rfl; simp at e; omega)
theorem below_mark {w w1 w2 : World} {X : Option Addr} (h : Below w.heap.size w w1) (hg : w1.grownBy w2 (X.map (·.block))) (hf : Fresh w.heap.size X) : Below w.heap.size w w2 := h.grown hg h.size (fresh_row hf)
theorem LS.marked {w w1 w2 : World} {A B X : Option Addr} {n c m d : Nat} (h : LS w w1 A n c B m d) (hb : Below w.heap.size w w2) (hg : w1.grownBy w2 (X.map (·.block))) (hf : Fresh (w.heap.size + 1) X) : LS w w2 A n c B m d :=
  ⟨hb, (hg.block _ h.lt (fun e => by
    cases X with
    | none => cases e
    | some x => have := hf x rfl; simp at e; omega)).trans h.box⟩
theorem LS.marked2 {w w0 w1 wm w2 : World} {A B X Y : Option Addr} {n c m d : Nat} (h : LS w w0 A n c B m d) (hb : Below w.heap.size w w2) (b1 : Below w0.heap.size w0 w1) (hg : w1.grownBy wm (X.map (·.block))) (hg2 : wm.grownBy w2 (Y.map (·.block))) (hf : Fresh (w.heap.size + 1) X) (hf2 : Fresh (w.heap.size + 1) Y) : LS w w2 A n c B m d := by
  have h1 := h.step b1
  refine ⟨hb, (hg2.block _ (Nat.lt_of_lt_of_le h1.lt hg.size) (fun e => ?_)).trans ((hg.block _ h1.lt (fun e => ?_)).trans h1.box)⟩
  · cases Y with
    | none => cases e
    | some x => have := hf2 x rfl; simp at e; omega
  · cases X with
    | none => cases e
    | some x => have := hf x rfl; simp at e; omega

set_option maxRecDepth 100000 in
set_option maxHeartbeats 1000000 in
theorem markText_any (k : Int) (w : World) (h0 : 0 < k) (h1 : k ≤ 1000000000000) :
    Calls Try.prog 172 #[.int .i64 k] w fun e w' => ∃ s, e = .returned (.string s) ∧ s.size ≤ 100 ∧ Below w.heap.size w w' := by
  go_enter Try.func172, Try.ntmps172
  go_wp2_with fail
  go_loopw [0, 3] (fun q s wr => ∃ (k : Int) (t : ByteArray) (j : Nat), q = .int .i64 k ∧ s = .string t ∧ 0 ≤ k ∧ k ≤ 1000000000000 ∧ k < 10 ^ j ∧ t.size + j ≤ 20 ∧ Below w.heap.size w wr) (fun q _ _ => (intOf q).toNat)
  case atStart => exact ⟨k, _, 13, rfl, rfl, by omega, h1, by omega, by decide, Below.refl _ _⟩
  case round =>
    obtain ⟨k, t, j, rfl, rfl, hk0, hk1, hkj, hts, hb⟩ := hrel
    by_cases hlt : 0 < k
    · obtain ⟨i, rfl⟩ : ∃ i, j = i + 1 := ⟨j - 1, by
        rcases j with _ | j
        · simp at hkj; omega
        · omega⟩
      have hdiv : k / 10 < 10 ^ i := by rw [Int.pow_succ] at hkj; omega
      have HD := Lib.hid hdiv
      have hm0 : 0 ≤ k % 10 := by omega
      have hm1 : k % 10 < 10 := by omega
      clear hdiv hkj
      have hconv := run_convert_bytes_arg (P := Try.prog) (wr.alloc (.cells #[.int .u8 (48 + k % 10)] 5)) 22 5 Try.underlying22 Try.underlying5 wr.heap.size 0 1 1 [48 + k % 10] rfl
        (fun i hi => by
          have : i = 0 := by omega
          subst this
          exact cell_new1 _ _ _) 9 Try.underlying9
      have hsz := strOfNums_size [48 + k % 10]
      generalize strOfNums [48 + k % 10] = sn at hconv hsz
      simp only [List.length_cons, List.length_nil] at hsz
      have hbs := hb.size
      have HS : Hid ((sn ++ t).size + i ≤ 20) := Lib.hid (by rw [ByteArray.size_append]; omega)
      go_wp2_with fail
      go_roundw
      case rel => exact ⟨k / 10, _, i, by go_num, rfl, by omega, by omega, HD.out, HS.out, hb.alloc hbs _⟩
      case measure => simp [intOf]; omega
    · go_wp2_with fail
      go_ret
      exact ⟨_, rfl, by rw [ByteArray.size_append]; show 1 + t.size ≤ 100; omega, hb⟩

theorem grown_set {w wr : World} {G : Nat} (hg : w.grownBy wr (some G)) (i : Nat) (u : Value) : w.grownBy (wr.setCell ⟨G, i, none⟩ u) (some G) :=
  ⟨hg.os, hg.tape, hg.output, by simpa [World.setCell] using hg.size, fun j hj hne => (Below.heap_setCell wr ⟨G, i, none⟩ _ j (fun e => hne (by rw [e]))).trans (hg.block j hj hne)⟩
theorem grown_below {w wr w' : World} {row : Option Nat} (hg : w.grownBy wr row) (hb : Below wr.heap.size wr w') : w.grownBy w' row :=
  ⟨hb.os.trans hg.os, hb.tape.trans hg.tape, hb.output.trans hg.output, Nat.le_trans hg.size hb.size, fun j hj hne => (hb.block j (Nat.lt_of_lt_of_le hj hg.size)).trans (hg.block j hj hne)⟩

set_option maxRecDepth 100000 in
set_option maxHeartbeats 2000000 in
theorem markNodeS_any (A : Option Addr) (n c : Nat) (ns : List Node) (k : Int) (w : World) (h : OwnN 48 w A n c ns) (hk0 : 0 < k) (hk1 : k ≤ 1000000) (hn : n ≤ 1048576) :
    Calls Try.prog 111 #[.slice A n c, .int .i64 k] w fun e w' => e = .returned (.int .i64 (k + 3 * n)) ∧ w.grownBy w' (A.map (·.block)) := by
  have hlen := Lib.hid h.len
  go_enter Try.func111, Try.ntmps111
  go_wp2_with fail
  go_loopw [1, 5] (fun q i wr => ∃ (j : Nat) (ns' : List Node), j ≤ n ∧ q = .int .i64 (k + 3 * j) ∧ i = .int .i64 j ∧ OwnN 48 wr A n c ns' ∧ w.grownBy wr (A.map (·.block))) (fun _ i _ => n - (intOf i).toNat)
  case atStart => exact ⟨0, ns, by omega, by go_num, rfl, h, World.grownBy.refl _ _⟩
  case round =>
    obtain ⟨j, ns', hj, rfl, rfl, ho, hg⟩ := hrel
    by_cases hlt : j < n
    · obtain ⟨G, rfl, hG⟩ := ho.pos (by omega)
      go_wp2_with fail
      refine (markText_any _ _ (by omega) (by omega)).mono ?_
      rintro e w1 ⟨s, rfl, hs, b1⟩
      have o1 := ho.later b1
      have g1 := grown_below hg b1
      obtain ⟨c0, c1, c2⟩ := o1.cell hlt
      have f0 := o1.row.frozenAt (j * 3)
      have f1 := o1.row.frozenAt (j * 3 + 1)
      have f2 := o1.row.frozenAt (j * 3 + 2)
      have O2 := Lib.hid (o1.store hlt (x := ⟨s, k + 3 * j + 1, k + 3 * j + 1 + 1⟩) ⟨⟨by show -9223372036854775808 ≤ k + 3 * (j : Int) + 1; omega, by show k + 3 * (j : Int) + 1 ≤ 9223372036854775807; omega⟩, ⟨by show -9223372036854775808 ≤ k + 3 * (j : Int) + 1 + 1; omega, by show k + 3 * (j : Int) + 1 + 1 ≤ 9223372036854775807; omega⟩, by show s.size ≤ 9223372036854775807; omega⟩)
      have G2 := Lib.hid (grown_set (grown_set (grown_set g1 (j * 3) (.string s)) (j * 3 + 1) (.int .i64 (k + 3 * j + 1))) (j * 3 + 2) (.int .i64 (k + 3 * j + 1 + 1)))
      go_wp2_with fail
      go_roundw
      case rel => exact ⟨j + 1, _, by omega, by go_num, by go_num, O2.out, G2.out⟩
      case measure => simp [intOf]; omega
    · go_wp2_with fail
      go_ret
      have hjn : j = n := by omega
      subst hjn
      exact ⟨rfl, hg⟩

set_option maxRecDepth 100000 in
set_option maxHeartbeats 2000000 in
theorem markPipeS_any (A : Option Addr) (n c : Nat) (ns : List Pipe) (k : Int) (w : World) (h : OwnP 64 w A n c ns) (hk0 : 0 < k) (hk1 : k ≤ 10000000) (hn : n ≤ 1048576) :
    Calls Try.prog 112 #[.slice A n c, .int .i64 k] w fun e w' => e = .returned (.int .i64 (k + 5 * n)) ∧ w.grownBy w' (A.map (·.block)) := by
  have hlen := Lib.hid h.len
  go_enter Try.func112, Try.ntmps112
  go_wp2_with fail
  go_loopw [1, 5] (fun q i wr => ∃ (j : Nat) (ns' : List Pipe), j ≤ n ∧ q = .int .i64 (k + 5 * j) ∧ i = .int .i64 j ∧ OwnP 64 wr A n c ns' ∧ w.grownBy wr (A.map (·.block))) (fun _ i _ => n - (intOf i).toNat)
  case atStart => exact ⟨0, ns, by omega, by go_num, rfl, h, World.grownBy.refl _ _⟩
  case round =>
    obtain ⟨j, ns', hj, rfl, rfl, ho, hg⟩ := hrel
    by_cases hlt : j < n
    · obtain ⟨G, rfl, hG⟩ := ho.pos (by omega)
      obtain ⟨c0, c1, c2, c3, c4⟩ := ho.cell hlt
      have f0 := ho.row.frozenAt (j * 5)
      have f1 := ho.row.frozenAt (j * 5 + 1)
      have f2 := ho.row.frozenAt (j * 5 + 2)
      have f3 := ho.row.frozenAt (j * 5 + 3)
      have f4 := ho.row.frozenAt (j * 5 + 4)
      have hi : ∀ x : Int, 0 ≤ x → x ≤ 10 → I64 (k + 5 * j + x) := fun x h0 h1 => ⟨by omega, by omega⟩
      have e : ∀ x : Int, k + 5 * (j : Int) + 1 + 1 = k + 5 * j + 2 := by intro x; omega
      have O2 := Lib.hid (ho.store hlt (x := ⟨k + 5 * j, k + 5 * j + 1, k + 5 * j + 1 + 1, k + 5 * j + 1 + 1 + 1, k + 5 * j + 1 + 1 + 1 + 1⟩) ⟨⟨by show -9223372036854775808 ≤ k + 5 * (j : Int); omega, by show k + 5 * (j : Int) ≤ 9223372036854775807; omega⟩, ⟨by show -9223372036854775808 ≤ k + 5 * (j : Int) + 1; omega, by show k + 5 * (j : Int) + 1 ≤ 9223372036854775807; omega⟩,
        ⟨by show -9223372036854775808 ≤ k + 5 * (j : Int) + 1 + 1; omega, by show k + 5 * (j : Int) + 1 + 1 ≤ 9223372036854775807; omega⟩, ⟨by show -9223372036854775808 ≤ k + 5 * (j : Int) + 1 + 1 + 1; omega, by show k + 5 * (j : Int) + 1 + 1 + 1 ≤ 9223372036854775807; omega⟩, ⟨by show -9223372036854775808 ≤ k + 5 * (j : Int) + 1 + 1 + 1 + 1; omega, by show k + 5 * (j : Int) + 1 + 1 + 1 + 1 ≤ 9223372036854775807; omega⟩⟩)
      have G2 := Lib.hid (grown_set (grown_set (grown_set (grown_set (grown_set hg (j * 5) (.int .i64 (k + 5 * j))) (j * 5 + 1) (.int .i64 (k + 5 * j + 1))) (j * 5 + 2) (.int .i64 (k + 5 * j + 1 + 1))) (j * 5 + 3) (.int .i64 (k + 5 * j + 1 + 1 + 1))) (j * 5 + 4) (.int .i64 (k + 5 * j + 1 + 1 + 1 + 1)))
      clear hi e
      go_wp2_with fail
      go_roundw
      case rel => exact ⟨j + 1, _, by omega, by go_num, by go_num, O2.out, G2.out⟩
      case measure => simp [intOf]; omega
    · go_wp2_with fail
      go_ret
      have hjn : j = n := by omega
      subst hjn
      exact ⟨rfl, hg⟩

theorem OwnNet.apart {w : World} {A B : Option Addr} {n c m d : Nat} {net : Net} (h : OwnNet w A n c B m d net) : ∀ a b, A = some a → B = some b → a.block ≠ b.block := by
  intro a b ha hb he
  rcases h.nodes.row.2 with ⟨h1, _⟩ | ⟨g, cap, cur, h1, _, hg, _⟩
  · injection h1 with h1; rw [ha] at h1; cases h1
  · rcases h.pipes.row.2 with ⟨h2, _⟩ | ⟨g', cap', cur', h2, _, hg', _⟩
    · injection h2 with h2; rw [hb] at h2; cases h2
    · injection h1 with h1
      injection h2 with h2
      rw [ha] at h1
      rw [hb] at h2
      injection h1 with h1
      injection h2 with h2
      subst h1 h2
      simp only at he
      subst he
      rw [hg] at hg'
      injection hg' with hg'
      injection hg' with _ hT
      revert hT
      decide

set_option maxRecDepth 100000 in
set_option maxHeartbeats 2000000 in
theorem markNetwork_any (A B : Option Addr) (n c m d : Nat) (net : Net) (k : Int) (w : World) (h : OwnNet w A n c B m d net) (hk0 : 0 < k) (hk1 : k ≤ 1000000) (hn : n ≤ 1048576) (hm : m ≤ 1048576) :
    Calls Try.prog 44 #[.agg #[.slice A n c, .slice B m d], .int .i64 k] w fun e w' => e = .returned (.int .i64 (k + 3 * n + 5 * m)) ∧ ∃ w1 wm, Below w.heap.size w w1 ∧ w1.grownBy wm (A.map (·.block)) ∧ wm.grownBy w' (B.map (·.block)) := by
  have HB := Lib.hid (bel1 w (.cells #[.slice A n c, .slice B m d] 27))
  have hap := h.apart
  go_enter Try.func44, Try.ntmps44
  go_wp2_with fail
  refine (markNodeS_any _ _ _ _ _ _ (h.later HB.out).nodes (by omega) (by omega) hn).mono ?_
  rintro e w2 ⟨rfl, g2⟩
  have o2 : OwnP 64 w2 B m d net.pipes := (h.later HB.out).pipes.keep fun a ha => g2.block _ ((h.later HB.out).pipes.lt a ha) (fun e => by
    cases hA : A with
    | none => rw [hA] at e; cases e
    | some x => rw [hA] at e; simp at e; exact hap x a hA ha e.symm)
  have k1 : w2.cell? ⟨w.heap.size, 1, none⟩ = some (.slice B m d) := by
    have hbk := g2.block w.heap.size (by simp) (fun e => by
      cases hA : A with
      | none => rw [hA] at e; cases e
      | some x => rw [hA] at e; simp at e; have := h.nodes.lt x hA; omega)
    rw [cell_blk (hbk.trans (heap_alloc_new w _)) 1]; rfl
  go_wp2_with fail
  refine (markPipeS_any _ _ _ _ _ _ o2 (by omega) (by omega) hm).mono ?_
  rintro e w3 ⟨rfl, g3⟩
  go_wp2_with fail
  go_ret
  exact ⟨rfl, _, _, HB.out, g2, g3⟩

end Go.Proofs.Ytioiebjgjimeiaa
