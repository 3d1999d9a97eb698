/- draws: indices, flows -/
import Derived.Test.YtfiikbcffpcbkaaK1
namespace Go.Proofs.Ytfiikbcffpcbkaa
open Go.RowKit

set_option maxRecDepth 100000 in
set_option maxHeartbeats 1000000 in
theorem l02DrawIndex_any (g : Nat) (A : Option Addr) (n c : Nat) (bs : List Int) (m : Nat) (w : World) (h : Src w g A n c bs) (hm : m ≤ 1000) :
    Calls Try.prog 126 #[.pointer (some ⟨g, 0, none⟩), .int .i64 (m : Int)] w fun e w' => ∃ r : Int, e = .returned (.int .i64 r) ∧ I64 r ∧ Src w' g A n c bs ∧ w.grownBy w' (some g) := by
  go_enter Try.func126, Try.ntmps126
  go_wp2_with fail
  refine (l01Next_any _ _ _ _ _ _ _ h).mono ?_
  rintro e w1 ⟨r, rfl, r0, r1, r2, hs1, hg1⟩
  have r1' : r ≤ 1000 := by
    by_cases h1 : 1 < (m : Int)
    · have := r1 h1; omega
    · have := r2 (by omega); omega
  clear r1 r2
  go_wp2_with fail
  refine (l01Next_any _ _ _ _ _ _ _ hs1).mono ?_
  rintro e w2 ⟨q, rfl, q0, q1, _, hs2, hg2⟩
  have q1' := q1 (by omega)
  clear q1
  have hq : q / 15 = 0 ∨ q / 15 = 1 := by omega
  go_wp2_with fail
  refine (l01Next_any _ _ _ _ _ _ _ hs2).mono ?_
  rintro e w3 ⟨t, rfl, t0, t1, _, hs3, hg3⟩
  have t1' := t1 (by omega)
  clear t1
  go_wp2_with fail
  go_ret
  exact ⟨_, rfl, wrap64_i64 _, hs3, only_trans hg1 (only_trans hg2 hg3)⟩

set_option maxRecDepth 100000 in
set_option maxHeartbeats 1000000 in
theorem l02Has_any (A : Option Addr) (n c : Nat) (zs : List Int) (x : Int) (w : World) (h : Ints w A n c zs) :
    Calls Try.prog 115 #[.slice A n c, .int .i64 x] w fun e w' => e = .returned (.bool (decide (x ∈ zs))) ∧ w = w' := by
  have hlen := h.len
  have hle := h.le
  have hcap := h.cap
  go_enter Try.func115, Try.ntmps115
  go_wp2_with fail
  go_loopw [5] (fun i wr => ∃ k : Nat, k ≤ n ∧ i = .int .i64 k ∧ Hid (∀ j, j < k → ig zs j ≠ x) ∧ w = wr) (fun i _ => n - (intOf i).toNat)
  case atStart => exact ⟨0, by omega, rfl, Lib.hid fun j hj => absurd hj (by omega), rfl⟩
  case round =>
    obtain ⟨k, hk, rfl, hno, rfl⟩ := hrel
    by_cases hlt : k < n
    · obtain ⟨b, off, rfl, hbl, hc⟩ := h.cells (by omega)
      have hck := hc k hlt
      clear hc
      have hki : (k : Int) < (n : Int) := by omega
      by_cases he : ig zs k = x
      · have hb : (ig zs k == x) = true := by simp [he]
        have hin : x ∈ zs := by rw [← he, ig_lt (by omega)]; exact List.getElem_mem _
        have HD : Hid (decide (x ∈ zs) = true) := Lib.hid (by simp [hin])
        clear he
        go_wp2_with fail
        go_ret
        exact ⟨by rw [HD.out]; rfl, rfl⟩
      · have hb : (ig zs k == x) = false := by simp [he]
        have HN : Hid (∀ j, j < k + 1 → ig zs j ≠ x) := Lib.hid fun j hj => by
          rcases Nat.lt_or_ge j k with h | h
          · exact hno.out j h
          · have : j = k := by omega
            subst this; exact he
        clear he
        go_wp2_with fail
        go_roundw
        case rel => exact ⟨k + 1, by omega, by go_num, HN, by trivial⟩
        case measure => simp [intOf]; omega
    · have HD : Hid (decide (x ∈ zs) = false) := Lib.hid (by
        simp only [decide_eq_false_iff_not]
        intro hin
        obtain ⟨j, hj, rfl⟩ := List.mem_iff_getElem.1 hin
        exact hno.out j (by omega) (ig_lt hj))
      have hki : ¬ (k : Int) < (n : Int) := by omega
      go_wp2_with fail
      go_ret
      exact ⟨by rw [HD.out]; rfl, rfl⟩

theorem Gr.choK_succ (g : Gr) (k : Nat) : g.choK (k + 1) = if g.Fb k then g.choK k else g.choK k ++ [k] := by
  unfold Gr.choK
  rw [List.range_succ, List.filter_append]
  cases h : g.Fb k <;> simp [h]
theorem Gr.choK_len (g : Gr) (k : Nat) : (g.choK k).length ≤ k := by
  have := List.length_filter_le (fun i => !g.Fb i) (List.range k)
  simpa [Gr.choK] using this
theorem mem_nl {l : List Nat} {k : Nat} : (k : Int) ∈ nl l ↔ k ∈ l := by
  unfold nl
  rw [List.mem_map]
  constructor
  · rintro ⟨a, ha, e⟩
    have : a = k := by have e' : (a : Int) = k := e; omega
    subst this; exact ha
  · intro h; exact ⟨k, h, rfl⟩

set_option maxRecDepth 100000 in
set_option maxHeartbeats 2000000 in
theorem l05Chords_any (A : Option Addr) (n c : Nat) (B : Option Addr) (m d : Nat) (net : Net) (w : World) (h : NetAt w A n c B m d net) (ok : NetOK net) :
    Calls Try.prog 65 #[.agg #[.slice A n c, .slice B m d]] w fun e w' => ∃ Af cf, e = .returned (.slice Af (netG net).chords.length cf) ∧ Own w' Af (netG net).chords.length cf (nl (netG net).chords) ∧ Fresh w.heap.size Af ∧ Below w.heap.size w w' := by
  have hm40 : m ≤ 40 := by have := ok.m40; have := h.pipes.len; omega
  have HMm : Hid ((netG net).m = m) := Lib.hid h.pipes.len
  have hple := h.pipes.le
  have hpcap := h.pipes.cap
  have HB := Lib.hid (bel1 w (.cells #[.slice A n c, .slice B m d] 27))
  obtain ⟨W, hW⟩ : ∃ W, W = (w.alloc (.cells #[.slice A n c, .slice B m d] 27)) := ⟨_, rfl⟩
  have bxW : BX W w.heap.size A n c B m d := ⟨by rw [hW]; exact heap_alloc_new w _⟩
  go_enter Try.func65, Try.ntmps65
  go_wp2_with fail
  rw [← hW] at HB ⊢
  clear hW
  refine (l04Forest_any _ _ _ _ _ _ net _ (h.later HB.out) ok).mono ?_
  rintro e w1 ⟨Af, cf, rfl, of, ff, b1⟩
  have o0 := own_lit0 w1
  go_wp2_with fail
  go_loopw [4, 5] (fun o i wr => ∃ (k : Nat) (Ac : Option Addr) (cc L : Nat), k ≤ m ∧ o = .slice Ac L cc ∧ i = .int .i64 k ∧ L = ((netG net).choK k).length ∧ Own wr Ac L cc (nl ((netG net).choK k)) ∧ Fresh w1.heap.size Ac ∧ Below w1.heap.size w1 wr) (fun _ i _ => m - (intOf i).toNat)
  case atStart => exact ⟨0, some ⟨w1.heap.size, 0, none⟩, 0, 0, by omega, rfl, rfl, rfl, o0, (fun a ha => by injection ha with ha; subst ha; exact Nat.le_refl _), bel1 _ _⟩
  case round =>
    obtain ⟨k, Ac, cc, L, hk, rfl, rfl, hL, oc, fc, hb⟩ := hrel
    clear o0
    have hbW := below_step b1 hb
    have x1 := (bxW.step hbW).c1
    have hL40 : L ≤ 40 := by have := Gr.choK_len (netG net) k; omega
    have HLK := Lib.hid hL
    have HS := Lib.hid (Gr.choK_succ (netG net) k)
    clear hL
    by_cases hlt : k < m
    · have hki : (k : Int) < (m : Int) := by omega
      have HF : Hid (decide ((k : Int) ∈ nl (netG net).forest) = (netG net).Fb k) := Lib.hid (by
        rw [Bool.eq_iff_iff, decide_eq_true_eq, mem_nl, Gr.mem_forest, Gr.Fb_iff, HMm.out]
        exact ⟨fun h => h.2, fun h => ⟨hlt, h⟩⟩)
      go_wp2_with fail
      refine (l02Has_any _ _ _ _ _ _ (of.later hb).ints).mono ?_
      rintro e w2 ⟨rfl, rfl⟩
      rw [HF.out]
      cases hfb : (netG net).Fb k
      · rw [hfb] at HS
        have oc2 := oc.later (bel1 _ (.cells #[.int .i64 (k : Int)] 2))
        go_wp2_with (at_builtin; refine law_append _ rfl _ _ rfl Ac L cc _ rfl oc2 _ _ (k : Int) ⟨by omega, by omega⟩ rfl (cell_new1 _ _ _) (by omega) ?_; intro A3 c3 w3 ho3 hg3 hb3)
        go_roundw
        case rel => exact ⟨k + 1, A3, c3, L + 1, by omega, rfl, by go_num, by rw [HS.out, HLK.out]; simp, by rw [HS.out]; simpa [nl_snoc] using ho3, fresh_app' fc (by have := hb.size; simpa using Nat.le_succ_of_le this) hb3, below_app (hb.alloc hb.size _) fc hg3⟩
        case measure => simp [intOf]; omega
      · rw [hfb] at HS
        go_wp2_with fail
        go_roundw
        case rel => exact ⟨k + 1, Ac, cc, L, by omega, rfl, by go_num, by rw [HS.out, HLK.out]; simp, by rw [HS.out]; simpa using oc, fc, hb⟩
        case measure => simp [intOf]; omega
    · have hki : ¬ (k : Int) < (m : Int) := by omega
      have hkm : k = m := by omega
      have HC : Hid ((netG net).chords = (netG net).choK k) := Lib.hid (by unfold Gr.chords; rw [HMm.out, hkm])
      clear hkm
      go_wp2_with fail
      go_ret
      rw [HC.out, ← HLK.out]
      exact ⟨Ac, cc, rfl, oc, fun a ha => by have := fc a ha; have := b1.size; have := HB.out.size; omega, below_step HB.out hbW⟩

end Go.Proofs.Ytfiikbcffpcbkaa
