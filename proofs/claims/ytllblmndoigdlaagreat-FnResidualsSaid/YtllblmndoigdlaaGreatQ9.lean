/- plain facts: relaxing -/
import Derived.Test.YtllblmndoigdlaaGreatQa
namespace Go.Proofs.YtllblmndoigdlaaGreat

abbrev Rst := List Int × Nat
/-- one cycle's turn with step z -/
def stp (net : Net) (z : Int) (s : Rst) (cs : List Int) : Rst := if s.2 < 5000 then (if lowB net s.1 cs z then (addL s.1 cs z, s.2 + 1) else if lowB net s.1 cs (-z) then (addL s.1 cs (-z), s.2 + 1) else s) else s
def pss (net : Net) (z : Int) (s : Rst) (bas : List (List Int)) : Rst := bas.foldl (stp net z) s
def pssK (net : Net) (z : Int) (s : Rst) (bas : List (List Int)) (j : Nat) : Rst := pss net z s (bas.take j)
theorem pssK_succ {net : Net} {z : Int} {s : Rst} {bas : List (List Int)} {j : Nat} {cs : List Int} (h : bas[j]? = some cs) : pssK net z s bas (j + 1) = stp net z (pssK net z s bas j) cs := by
  unfold pssK pss
  rw [List.take_add_one, h, List.foldl_append]; rfl
theorem pssK_zero (net : Net) (z : Int) (s : Rst) (bas : List (List Int)) : pssK net z s bas 0 = s := rfl
theorem pssK_end {net : Net} {z : Int} {s : Rst} {bas : List (List Int)} {j : Nat} (h : bas.length ≤ j) : pssK net z s bas j = pss net z s bas := by unfold pssK; rw [List.take_of_length_le h]
theorem stp_facts (net : Net) (z : Int) (s : Rst) (cs : List Int) : s.2 ≤ (stp net z s cs).2 ∧ ((stp net z s cs).2 = s.2 → stp net z s cs = s) ∧ (5000 ≤ s.2 → stp net z s cs = s) ∧ (s.2 ≤ 5000 → (stp net z s cs).2 ≤ 5000) := by
  unfold stp
  by_cases h : s.2 < 5000
  · rw [if_pos h]
    split
    · exact ⟨by simp, fun h => by simp at h, fun h => by omega, fun _ => by show s.2 + 1 ≤ 5000; omega⟩
    · split
      · exact ⟨by simp, fun h => by simp at h, fun h => by omega, fun _ => by show s.2 + 1 ≤ 5000; omega⟩
      · exact ⟨Nat.le_refl _, fun _ => rfl, fun _ => rfl, fun h => h⟩
  · rw [if_neg h]; exact ⟨Nat.le_refl _, fun _ => rfl, fun _ => rfl, fun h => h⟩
theorem pss_facts (net : Net) (z : Int) (bas : List (List Int)) : ∀ s : Rst, s.2 ≤ (pss net z s bas).2 ∧ ((pss net z s bas).2 = s.2 → pss net z s bas = s ∧ (s.2 < 5000 → ∀ cs ∈ bas, lowB net s.1 cs z = false ∧ lowB net s.1 cs (-z) = false)) ∧ (5000 ≤ s.2 → pss net z s bas = s) ∧ (s.2 ≤ 5000 → (pss net z s bas).2 ≤ 5000) := by
  induction bas with
  | nil => exact fun s => ⟨Nat.le_refl _, fun _ => ⟨rfl, fun _ cs h => by cases h⟩, fun _ => rfl, fun h => h⟩
  | cons c bas ih =>
    intro s
    obtain ⟨a1, a2, a3, a4⟩ := stp_facts net z s c
    obtain ⟨b1, b2, b3, b4⟩ := ih (stp net z s c)
    have e : pss net z s (c :: bas) = pss net z (stp net z s c) bas := rfl
    rw [e]
    refine ⟨by omega, fun h => ?_, fun h => ?_, fun h => b4 (a4 h)⟩
    · have h1 : stp net z s c = s := a2 (by omega)
      obtain ⟨h2, h3⟩ := b2 (by omega)
      rw [h1] at h2 h3 ⊢
      refine ⟨h2, fun hlt cs hcs => ?_⟩
      rcases List.mem_cons.1 hcs with rfl | hcs
      · unfold stp at h1
        rw [if_pos hlt] at h1
        split at h1
        · have := congrArg Prod.snd h1; simp at this
        · split at h1
          · have := congrArg Prod.snd h1; simp at this
          · rename_i x y; exact ⟨by simpa using x, by simpa using y⟩
      · exact h3 hlt cs hcs
    · rw [a3 h]; rw [a3 h] at b3; exact b3 h
theorem pssK_mono (net : Net) (z : Int) (s : Rst) (bas : List (List Int)) (j : Nat) : s.2 ≤ (pssK net z s bas j).2 := (pss_facts net z _ s).1
theorem pssK_lim {net : Net} {z : Int} {s : Rst} {bas : List (List Int)} (h : s.2 ≤ 5000) (j : Nat) : (pssK net z s bas j).2 ≤ 5000 := (pss_facts net z _ s).2.2.2 h
/-- once all moves are made, nothing changes -/
theorem pssK_full {net : Net} {z : Int} {s : Rst} {bas : List (List Int)} {j : Nat} (h : 5000 ≤ (pssK net z s bas j).2) : pss net z s bas = pssK net z s bas j := by
  have e : pss net z s bas = pss net z (pssK net z s bas j) (bas.drop j) := by
    unfold pssK pss
    rw [← List.foldl_append, List.take_append_drop]
  rw [e]
  exact (pss_facts net z _ _).2.2.1 h

def rlxF (net : Net) (bas : List (List Int)) : Nat → Nat → Rst → Rst
  | 0, _, s => s
  | f + 1, st, s => if st = 0 ∨ 5000 ≤ s.2 then s else if (pss net st s bas).2 = s.2 then rlxF net bas f (st / 2) s else rlxF net bas f st (pss net st s bas)
theorem rlxF_more (net : Net) (bas : List (List Int)) : ∀ (f st : Nat) (s : Rst), (5000 - s.2) + st ≤ f → rlxF net bas (f + 1) st s = rlxF net bas f st s := by
  intro f
  induction f with
  | zero =>
    intro st s h
    show (if st = 0 ∨ 5000 ≤ s.2 then s else _) = s
    rw [if_pos (.inl (by omega))]
  | succ f ih =>
    intro st s h
    show (if st = 0 ∨ 5000 ≤ s.2 then s else if (pss net st s bas).2 = s.2 then rlxF net bas (f + 1) (st / 2) s else rlxF net bas (f + 1) st (pss net st s bas)) = (if st = 0 ∨ 5000 ≤ s.2 then s else if (pss net st s bas).2 = s.2 then rlxF net bas f (st / 2) s else rlxF net bas f st (pss net st s bas))
    by_cases h0 : st = 0 ∨ 5000 ≤ s.2
    · rw [if_pos h0, if_pos h0]
    · rw [if_neg h0, if_neg h0]
      by_cases h1 : (pss net st s bas).2 = s.2
      · rw [if_pos h1, if_pos h1, ih _ _ (by omega)]
      · rw [if_neg h1, if_neg h1, ih _ _ (by have := (pss_facts net st bas s).1; omega)]
theorem rlxF_far (net : Net) (bas : List (List Int)) (st : Nat) (s : Rst) (k : Nat) : rlxF net bas ((5000 - s.2) + st + k) st s = rlxF net bas ((5000 - s.2) + st) st s := by
  induction k with
  | zero => rfl
  | succ k ih => rw [← Nat.add_assoc, rlxF_more _ _ _ _ _ (by omega), ih]
/-- a flow list relaxed from a step, and the number of moves -/
def rlx (net : Net) (bas : List (List Int)) (st : Nat) (s : Rst) : Rst := rlxF net bas ((5000 - s.2) + st) st s
theorem rlx_stop {net : Net} {bas : List (List Int)} {st : Nat} {s : Rst} (h : st = 0 ∨ 5000 ≤ s.2) : rlx net bas st s = s := by
  unfold rlx
  generalize (5000 - s.2) + st = f
  cases f with
  | zero => rfl
  | succ f => show (if st = 0 ∨ 5000 ≤ s.2 then s else _) = s; rw [if_pos h]
theorem rlx_go {net : Net} {bas : List (List Int)} {st : Nat} {s : Rst} (h0 : 0 < st) (h1 : s.2 < 5000) : rlx net bas st s = if (pss net st s bas).2 = s.2 then rlx net bas (st / 2) s else rlx net bas st (pss net st s bas) := by
  have hm := (pss_facts net st bas s).1
  have e : rlx net bas st s = rlxF net bas ((5000 - s.2) + st - 1 + 1) st s := by unfold rlx; congr 1; omega
  rw [e]
  show (if st = 0 ∨ 5000 ≤ s.2 then s else if (pss net st s bas).2 = s.2 then rlxF net bas _ (st / 2) s else rlxF net bas _ st (pss net st s bas)) = _
  rw [if_neg (by omega)]
  by_cases h2 : (pss net st s bas).2 = s.2
  · rw [if_pos h2, if_pos h2]
    obtain ⟨k, hk⟩ : ∃ k, (5000 - s.2) + st - 1 = (5000 - s.2) + st / 2 + k := ⟨(5000 - s.2) + st - 1 - ((5000 - s.2) + st / 2), by omega⟩
    rw [hk, rlxF_far]; rfl
  · rw [if_neg h2, if_neg h2]
    obtain ⟨k, hk⟩ : ∃ k, (5000 - s.2) + st - 1 = (5000 - (pss net st s bas).2) + st + k := ⟨(5000 - s.2) + st - 1 - ((5000 - (pss net st s bas).2) + st), by omega⟩
    rw [hk, rlxF_far]; rfl
/-- a pass without a move halves the step; one with a move goes on -/
theorem rlx_same {net : Net} {bas : List (List Int)} {st : Nat} {s : Rst} (h : (pss net st s bas).2 = s.2) : rlx net bas st s = rlx net bas (st / 2) s := by
  by_cases h0 : st = 0
  · subst h0; rfl
  · by_cases h1 : s.2 < 5000
    · rw [rlx_go (by omega) h1, if_pos h]
    · rw [rlx_stop (.inr (by omega)), rlx_stop (.inr (by omega))]
theorem rlx_moved {net : Net} {bas : List (List Int)} {st : Nat} {s : Rst} (h0 : 0 < st) (h : (pss net st s bas).2 ≠ s.2) : rlx net bas st s = rlx net bas st (pss net st s bas) := by
  by_cases h1 : s.2 < 5000
  · rw [rlx_go h0 h1, if_neg h]
  · exact absurd (congrArg Prod.snd ((pss_facts net st bas s).2.2.1 (by omega))) h
theorem rlx_pass {net : Net} {bas : List (List Int)} {st : Nat} {s : Rst} (h0 : 0 < st) : rlx net bas st s = rlx net bas st (pss net st s bas) := by
  by_cases h : (pss net st s bas).2 = s.2
  · rw [((pss_facts net st bas s).2.1 h).1]
  · exact rlx_moved h0 h
/-- all moves made in the midst of a pass -/
theorem rlx_full {net : Net} {bas : List (List Int)} {st j : Nat} {s : Rst} (h0 : 0 < st) (h : 5000 ≤ (pssK net st s bas j).2) : rlx net bas st s = pssK net st s bas j := by
  rw [rlx_pass h0, pssK_full h, rlx_stop (.inr h)]

/-! ### what relaxing keeps -/
structure RI (net : Net) (zs : List Int) (s : Rst) : Prop where
  flow : flowB net s.1 = true
  le : s.2 ≤ 5000
  en : (s.2 = 0 ∧ s.1 = zs) ∨ (0 < s.2 ∧ eng net.pipes s.1 net.pipes.length < eng net.pipes zs net.pipes.length)
  out : ∀ v, (netG net).out (ig s.1) v = (netG net).out (ig zs) v
structure Bas (net : Net) (bas : List (List Int)) : Prop where
  cyc : ∀ cs ∈ bas, Cyc net cs
  out : ∀ cs ∈ bas, ∀ v, (netG net).out (ig cs) v = 0
theorem basL_bas {net : Net} (ok : NetOK net) : Bas net (basL net) :=
  ⟨fun cs h => by obtain ⟨c, hc, rfl⟩ := List.mem_map.1 h; exact cycL_cyc ok hc, fun cs h => by obtain ⟨c, hc, rfl⟩ := List.mem_map.1 h; exact cycL_out ok hc⟩
theorem RI.start {net : Net} {zs : List Int} (h : flowB net zs = true) : RI net zs (zs, 0) := ⟨h, by simp, .inl ⟨rfl, rfl⟩, fun _ => rfl⟩
theorem RI.move {net : Net} {zs cs : List Int} {s : Rst} {a : Int} (h : RI net zs s) (hc : Cyc net cs) (ho : ∀ v, (netG net).out (ig cs) v = 0) (hlt : s.2 < 5000) (hl : lowB net s.1 cs a = true) : RI net zs (addL s.1 cs a, s.2 + 1) := by
  have h1 := lowB_flow h.flow hc.len hl
  refine ⟨h1.1, hlt, .inr ⟨by simp, ?_⟩, fun v => ?_⟩
  · show eng net.pipes (addL s.1 cs a) _ < _
    rcases h.en with ⟨_, e⟩ | ⟨_, e⟩
    · rw [← e]; exact h1.2
    · have := h1.2; omega
  · show (netG net).out (ig (addL s.1 cs a)) v = _
    rw [addL_out (by rw [hc.len, flowB_len h.flow]), ho v, h.out v]; simp
theorem RI.stp {net : Net} {zs cs : List Int} {s : Rst} {z : Int} (h : RI net zs s) (hc : Cyc net cs) (ho : ∀ v, (netG net).out (ig cs) v = 0) : RI net zs (stp net z s cs) := by
  unfold Proofs.YtllblmndoigdlaaGreat.stp
  by_cases hlt : s.2 < 5000
  · rw [if_pos hlt]
    by_cases h1 : lowB net s.1 cs z = true
    · rw [if_pos h1]; exact h.move hc ho hlt h1
    · rw [if_neg h1]
      by_cases h2 : lowB net s.1 cs (-z) = true
      · rw [if_pos h2]; exact h.move hc ho hlt h2
      · rw [if_neg h2]; exact h
  · rw [if_neg hlt]; exact h
theorem RI.pss {net : Net} {zs : List Int} {z : Int} {bas : List (List Int)} (hb : Bas net bas) : ∀ {s : Rst}, RI net zs s → RI net zs (pss net z s bas) := by
  induction bas with
  | nil => exact fun h => h
  | cons c bas ih =>
    intro s h
    have hb' : Bas net bas := ⟨fun cs h => hb.cyc cs (List.mem_cons_of_mem _ h), fun cs h => hb.out cs (List.mem_cons_of_mem _ h)⟩
    exact ih hb' (h.stp (hb.cyc c List.mem_cons_self) (hb.out c List.mem_cons_self))
theorem RI.pssK {net : Net} {zs : List Int} {z : Int} {bas : List (List Int)} (hb : Bas net bas) {s : Rst} (h : RI net zs s) (j : Nat) : RI net zs (pssK net z s bas j) :=
  RI.pss (bas := bas.take j) ⟨fun cs hc => hb.cyc cs (List.mem_of_mem_take hc), fun cs hc => hb.out cs (List.mem_of_mem_take hc)⟩ h
theorem rlxF_inv {net : Net} {zs : List Int} {bas : List (List Int)} (hb : Bas net bas) : ∀ (f st : Nat) (s : Rst), (5000 - s.2) + st ≤ f → RI net zs s → RI net zs (rlxF net bas f st s) ∧
    (1 ≤ st → (rlxF net bas f st s).2 = 5000 ∨ ∀ cs ∈ bas, lowB net (rlxF net bas f st s).1 cs 1 = false ∧ lowB net (rlxF net bas f st s).1 cs (-1) = false) := by
  intro f
  induction f with
  | zero => exact fun st s h hi => ⟨hi, fun h1 => absurd h1 (by omega)⟩
  | succ f ih =>
    intro st s h hi
    have hle := hi.le
    have hm := (pss_facts net st bas s).1
    have e : rlxF net bas (f + 1) st s = if st = 0 ∨ 5000 ≤ s.2 then s else if (Proofs.YtllblmndoigdlaaGreat.pss net st s bas).2 = s.2 then rlxF net bas f (st / 2) s else rlxF net bas f st (Proofs.YtllblmndoigdlaaGreat.pss net st s bas) := rfl
    rw [e]
    by_cases h0 : st = 0 ∨ 5000 ≤ s.2
    · rw [if_pos h0]
      exact ⟨hi, fun h1 => .inl (by omega)⟩
    · rw [if_neg h0]
      by_cases h1 : (Proofs.YtllblmndoigdlaaGreat.pss net st s bas).2 = s.2
      · rw [if_pos h1]
        obtain ⟨r1, r2⟩ := ih (st / 2) s (by omega) hi
        refine ⟨r1, fun _ => ?_⟩
        by_cases h2 : 1 ≤ st / 2
        · exact r2 h2
        · have h3 : st = 1 := by omega
          subst h3
          have e2 : rlxF net bas f (1 / 2) s = s := by
            cases f with
            | zero => rfl
            | succ f => show (if (1 / 2 : Nat) = 0 ∨ 5000 ≤ s.2 then s else _) = s; rw [if_pos (.inl rfl)]
          rw [e2]
          exact .inr (((pss_facts net ((1 : Nat) : Int) bas s).2.1 h1).2 (by omega))
      · rw [if_neg h1]
        exact ih st _ (by omega) (hi.pss hb)
theorem rlx_inv {net : Net} {zs : List Int} {bas : List (List Int)} (hb : Bas net bas) {st : Nat} {s : Rst} (h : RI net zs s) : RI net zs (rlx net bas st s) ∧
    (1 ≤ st → (rlx net bas st s).2 = 5000 ∨ ∀ cs ∈ bas, lowB net (rlx net bas st s).1 cs 1 = false ∧ lowB net (rlx net bas st s).1 cs (-1) = false) := rlxF_inv hb _ st s (Nat.le_refl _) h

/-! ### powers of two -/
def pw2 (n : Nat) : Bool := decide (1 ≤ n) && decide (n &&& (n - 1) = 0)

end Go.Proofs.YtllblmndoigdlaaGreat
