/- a region that draws its order: a head of operations that are forced one by one, then a group that only reads, then a forced tail -/
import Derived.StillTail
import Derived.StillTailTactics
import Derived.Below
import Derived.Deep.QuietTactic
import Derived.BigQuiet
namespace Go.Proofs.Ytioiebjgjimeiaa
open Go Go.RowKit

theorem letsOut_then {K : Act → World → Prop} {Q : Exit → Act → World → Prop} (h : LetsOut (Exit.then K Q)) : LetsOut Q := by
  obtain ⟨a, w, h⟩ := h
  exact ⟨a, w, h⟩

theorem wp_then {P : Program} {o : Oper} {a : Act} {w : World} {N K : Act → World → Prop} {Q : Exit → Act → World → Prop} (h : o.wp P a w N (Exit.then K Q)) : o.wp P a w N Q := by
  unfold Oper.wp at *
  generalize (execOp a.eval o).run P w = r at *
  cases r with
  | ok n w' =>
    cases n <;> simp only [Oper.upon] at h ⊢ <;> exact h
  | halt x w' =>
    cases x <;> simp only [Oper.upon] at h ⊢ <;> exact h

theorem wpOp_then {P : Program} {ops : Array Oper} {i : Nat} {a : Act} {w : World} {N K : Act → World → Prop} {Q : Exit → Act → World → Prop} (h : wpOp P ops (Exit.then K Q) i N a w) : wpOp P ops Q i N a w := by
  unfold wpOp at *
  split
  · rename_i ho; simp only [ho] at h; exact h
  · rename_i o ho
    simp only [ho] at h
    split
    · rename_i hw
      simp only [hw, if_true] at h
      rcases h with h | ⟨h1, h2⟩
      · exact .inl (wp_then h)
      · exact .inr ⟨h1, letsOut_then h2⟩
    · rename_i hw; simp only [hw] at h; exact h

/-- one after another, and what is listed then -/
def seqTo (md : Region.Mode) (ops : Array Oper) : Nat → Nat → Array Bool → Bool
  | 0, _, _ => true
  | g + 1, k, listed => decide (Region.ready md ops listed = [k]) && seqTo md ops g (k + 1) (listed.setIfInBounds k true)
def setTo : Nat → Nat → Array Bool → Array Bool
  | 0, _, listed => listed
  | g + 1, k, listed => setTo g (k + 1) (listed.setIfInBounds k true)

theorem wpAny_of_seqK {P : Program} {md : Region.Mode} {ops : Array Oper} {Q : Exit → Act → World → Prop} {K : Act → World → Prop} {g : Nat} :
    ∀ (l : List Oper) (k : Nat) (listed : Array Bool) (a : Act) (w : World), (∀ j, j < l.length → l[j]? = ops[k + j]?) → seqTo md ops l.length k listed = true →
      (∀ a w, K a w → wpAny P md ops Q g (setTo l.length k listed) a w) → wpList P ops (Exit.then K Q) l a w → wpAny P md ops Q (l.length + g) listed a w
  | [], _, _, _, _, _, _, hK, h => by rw [List.length_nil, Nat.zero_add]; exact hK _ _ h
  | o :: l, k, listed, a, w, hl, hB, hK, h => by
    have h0 : ops[k]? = some o := by simpa using (hl 0 (by simp)).symm
    simp only [List.length_cons, seqTo, Bool.and_eq_true, decide_eq_true_eq] at hB
    rw [show (o :: l).length + g = (l.length + g) + 1 by simp; omega]
    refine ⟨fun h1 => (by rw [hB.1] at h1; cases h1), fun i hi => ?_⟩
    rw [hB.1] at hi
    have hik : i = k := by simpa using hi
    subst hik
    have hw : wpOp P ops (Exit.then K Q) i (wpList P ops (Exit.then K Q) l) a w := by unfold wpOp; simp only [h0]; exact h
    exact wpOp_mono (fun a' w' h' => wpAny_of_seqK l (i + 1) _ a' w' (fun j hj => by have := hl (j + 1) (by simp; omega); simpa [Nat.add_assoc, Nat.add_comm 1 j] using this) hB.2 hK h') (wpOp_then hw)

/-- may the region be walked so -/
def headB (md : Region.Mode) (ops : Array Oper) (n : Nat) (listed : Array Bool) : Bool :=
  decide (listed.size = ops.size) &&
  ((List.range ops.size).all fun j => !listed.getD j false || (match ops[j]? with | some oj => oj.after.all fun e => !Region.binds md e || listed.getD e.on false | none => true)) &&
  ((List.range ops.size).all fun t => decide (t < n) || !listed.getD t true)
def stageB (ops : Array Oper) (m n : Nat) : Bool :=
  Region.noSelect ops && decide (n < ops.size) && decide (m ≤ n) && Region.sinkB .any ops n && Region.chainB .any ops n && seqTo .any ops m 0 (Array.replicate ops.size false) &&
  headB .any ops n (setTo m 0 (Array.replicate ops.size false)) && Region.lexHead .any ops (ops.size - n) (n - m) m (setTo m 0 (Array.replicate ops.size false))

theorem headInv_of {md : Region.Mode} {ops : Array Oper} {n : Nat} {listed : Array Bool} (h : headB md ops n listed = true) : HeadInv md ops n listed := by
  simp only [headB, Bool.and_eq_true, decide_eq_true_eq, List.all_eq_true, List.mem_range] at h
  obtain ⟨⟨h1, h2⟩, h3⟩ := h
  refine ⟨h1, fun j oj hj hl e he hb => ?_, fun t ht ht' => ?_⟩
  · have hjl : j < ops.size := (Array.getElem?_eq_some_iff.1 hj).1
    have := h2 j hjl
    rw [hl, hj] at this
    simp only [Bool.not_true, Bool.false_or, Array.all_eq_true'] at this
    have := this e he
    rw [hb] at this
    simpa using this
  · have := h3 t ht'
    simp only [Bool.or_eq_true, decide_eq_true_eq] at this
    rcases this with h | h
    · omega
    · simpa using h

theorem wp_region_stage {P : Program} {id : Nat} {Q : Exit → Act → World → Prop} {a : Act} {w : World} {l : List Oper} (m n : Nat) (hm : P.follows .mixedOrders = true) (hB : stageB l.toArray m n = true)
    (h : ∀ K : Act → World → Prop, Hid (∀ a' w', wpStill P l.toArray w' (fun a'' => wpList P l.toArray Q (l.drop n) a'' w') ((l.drop m).take (n - m)) a' → K a' w') → wpList P l.toArray (Exit.then K Q) (l.take m) a w.drew) : (Code.region id l.toArray true).wp P Q a w := by
  replace h := h _ (fun _ _ h => h)
  simp only [stageB, Bool.and_eq_true, decide_eq_true_eq] at hB
  obtain ⟨⟨⟨⟨⟨⟨⟨hsel, hn⟩, hmn⟩, hs⟩, hc⟩, hseq⟩, hhead⟩, hlex⟩ := hB
  have hn' : n < l.length := by simpa using hn
  have htl : (l.take m).length = m := by simp; omega
  have hgl : ((l.drop m).take (n - m)).length = n - m := by simp; omega
  have hdl : (l.drop n).length = l.toArray.size - n := by simp
  refine wp_region_any hm ?_
  have key := wpAny_of_seqK (P := P) (md := .any) (ops := l.toArray) (Q := Q) (g := l.toArray.size - m)
    (K := fun a' w' => wpStill P l.toArray w' (fun a'' => wpList P l.toArray Q (l.drop n) a'' w') ((l.drop m).take (n - m)) a') (l.take m) 0 (Array.replicate l.toArray.size false) a w.drew
    (fun j hj => by have : j < m := by rw [htl] at hj; exact hj
                    simp [this]) (by rw [htl]; exact hseq) (fun a' w' hK => ?_) h
  · rw [htl, show m + (l.toArray.size - m) = l.toArray.size by omega] at key
    exact key
  · rw [htl]
    have H := wpAnyL_lex (P := P) (md := .any) (w := w') (n := n) (g := l.toArray.size - n) hsel hs hc hn ((l.drop m).take (n - m)) m (setTo m 0 (Array.replicate l.toArray.size false)) a'
      (fun j hj => by
        have hj' : j < n - m := by rw [hgl] at hj; exact hj
        simp [hj', List.getElem?_drop]) (by rw [hgl]; omega) (headInv_of hhead) (by rw [hgl]; exact hlex) hK
    have := wpAny_of_head (Q' := Q) (g := l.toArray.size - n) (fun listed a'' hL => by
      have := wpAny_of_seq (md := .any) (Q' := Q) (l.drop n) n listed a'' w' (fun j => by simp [List.getElem?_drop]) (by rw [hdl]; exact hL.1) hL.2
      rwa [hdl] at this) _ _ _ H
    rw [hgl, show n - m + (l.toArray.size - n) = l.toArray.size - m by omega] at this
    exact this

theorem still_of_quiet {P : Program} {ops : Array Oper} {w : World} {Q : Act → Prop} : ∀ (l : List Oper) (a : Act), wpQuiet P ops (fun w' => w' = w) Q l a → wpStill P ops w Q l a
  | [], _, h => h
  | o :: l, a, h => by
    unfold wpQuiet at h
    unfold wpStill
    split
    · rename_i hw
      simp only [hw, if_true] at h
      obtain ⟨v, hv, hn⟩ := h
      have hv := hv w rfl
      unfold Oper.quietAt at hv
      unfold Oper.still
      generalize (execOp a.eval o).run P w = r at *
      cases r with
      | ok x w' =>
        cases x <;> simp only [Oper.quietUpon] at hv <;> simp only [Oper.stillUpon]
        case value u => exact ⟨hv.1, by rw [hv.2]; exact still_of_quiet l _ hn⟩
        case skip => exact ⟨hv.1, by rw [hv.2] at hn; exact still_of_quiet l _ hn⟩
        case enter f args => exact ⟨hv.1, v, hv.2, still_of_quiet l _ hn⟩
      | halt x w' => simp only [Oper.quietUpon] at hv
    · rename_i hw
      simp only [hw] at h
      exact still_of_quiet l _ h

/-- the same, the group by the quiet walk -/
theorem wp_region_stage_q {P : Program} {id : Nat} {Q : Exit → Act → World → Prop} {a : Act} {w : World} {l : List Oper} (m n : Nat) (hm : P.follows .mixedOrders = true) (hB : stageB l.toArray m n = true)
    (h : ∀ K : Act → World → Prop, Hid (∀ a' w', wpQuiet P l.toArray (fun w'' => w'' = w') (fun a'' => wpList P l.toArray Q (l.drop n) a'' w') ((l.drop m).take (n - m)) a' → K a' w') → wpList P l.toArray (Exit.then K Q) (l.take m) a w.drew) : (Code.region id l.toArray true).wp P Q a w :=
  wp_region_stage m n hm hB fun K hK => h K (fun a' w' hq => hK a' w' (still_of_quiet _ _ hq))

end Go.Proofs.Ytioiebjgjimeiaa
