/- a region that draws its order: a head of operations that are forced one by one, then a group that only reads, then a forced tail -/
import Derived.StillTail
import Derived.StillTailTactics
import Derived.Below
import Derived.Deep.QuietTactic
import Derived.BigQuiet
import Derived.KernelRfl
import Derived.Test.YtllblmndoigdlaaRows
import Derived.WalkKit
import Derived.WalkSpells
import Derived.WalkLawsBesides
import Derived.Lib.Hide
import Derived.Deep.Draws
import Derived.Maps.AppendAt
namespace Go.Proofs.Ytllblmndoigdlaa
open Go Go.RowKit

theorem letsOut_then {K : Act → World → Prop} {Q : Exit → Act → World → Prop} (h : LetsOut (Exit.then K Q)) : LetsOut Q := by
  obtain ⟨a, w, h⟩ := h
  exact ⟨a, w, h⟩

theorem wp_then {P : Program} {o : Oper} {a : Act} {w : World} {N K : Act → World → Prop} {Q : Exit → Act → World → Prop} (h : o.wp P a w N (Exit.then K Q)) : o.wp P a w N Q := by
  unfold Oper.wp at *
  generalize (execOp a.eval o).run P w = r at *
  cases r with
  | ok n w' =>
    cases n <;> simp only [Oper.upon] at h ⊢ <;> exact h
  | halt x w' =>
    cases x <;> simp only [Oper.upon] at h ⊢ <;> exact h

theorem wpOp_then {P : Program} {ops : Array Oper} {i : Nat} {a : Act} {w : World} {N K : Act → World → Prop} {Q : Exit → Act → World → Prop} (h : wpOp P ops (Exit.then K Q) i N a w) : wpOp P ops Q i N a w := by
  unfold wpOp at *
  split
  · rename_i ho; simp only [ho] at h; exact h
  · rename_i o ho
    simp only [ho] at h
    split
    · rename_i hw
      simp only [hw, if_true] at h
      rcases h with h | ⟨h1, h2⟩
      · exact .inl (wp_then h)
      · exact .inr ⟨h1, letsOut_then h2⟩
    · rename_i hw; simp only [hw] at h; exact h

/-- one after another, and what is listed then -/
def seqTo (md : Region.Mode) (ops : Array Oper) : Nat → Nat → Array Bool → Bool
  | 0, _, _ => true
  | g + 1, k, listed => decide (Region.ready md ops listed = [k]) && seqTo md ops g (k + 1) (listed.setIfInBounds k true)
def setTo : Nat → Nat → Array Bool → Array Bool
  | 0, _, listed => listed
  | g + 1, k, listed => setTo g (k + 1) (listed.setIfInBounds k true)

theorem wpAny_of_seqK {P : Program} {md : Region.Mode} {ops : Array Oper} {Q : Exit → Act → World → Prop} {K : Act → World → Prop} {g : Nat} :
    ∀ (l : List Oper) (k : Nat) (listed : Array Bool) (a : Act) (w : World), (∀ j, j < l.length → l[j]? = ops[k + j]?) → seqTo md ops l.length k listed = true →
      (∀ a w, K a w → wpAny P md ops Q g (setTo l.length k listed) a w) → wpList P ops (Exit.then K Q) l a w → wpAny P md ops Q (l.length + g) listed a w
  | [], _, _, _, _, _, _, hK, h => by rw [List.length_nil, Nat.zero_add]; exact hK _ _ h
  | o :: l, k, listed, a, w, hl, hB, hK, h => by
    have h0 : ops[k]? = some o := by simpa using (hl 0 (by simp)).symm
    simp only [List.length_cons, seqTo, Bool.and_eq_true, decide_eq_true_eq] at hB
    rw [show (o :: l).length + g = (l.length + g) + 1 by simp; omega]
    refine ⟨fun h1 => (by rw [hB.1] at h1; cases h1), fun i hi => ?_⟩
    rw [hB.1] at hi
    have hik : i = k := by simpa using hi
    subst hik
    have hw : wpOp P ops (Exit.then K Q) i (wpList P ops (Exit.then K Q) l) a w := by unfold wpOp; simp only [h0]; exact h
    exact wpOp_mono (fun a' w' h' => wpAny_of_seqK l (i + 1) _ a' w' (fun j hj => by have := hl (j + 1) (by simp; omega); simpa [Nat.add_assoc, Nat.add_comm 1 j] using this) hB.2 hK h') (wpOp_then hw)

/-- may the region be walked so -/
def headB (md : Region.Mode) (ops : Array Oper) (n : Nat) (listed : Array Bool) : Bool :=
  decide (listed.size = ops.size) &&
  ((List.range ops.size).all fun j => !listed.getD j false || (match ops[j]? with | some oj => oj.after.all fun e => !Region.binds md e || listed.getD e.on false | none => true)) &&
  ((List.range ops.size).all fun t => decide (t < n) || !listed.getD t true)
def stageB (ops : Array Oper) (m n : Nat) : Bool :=
  Region.noSelect ops && decide (n < ops.size) && decide (m ≤ n) && Region.sinkB .any ops n && Region.chainB .any ops n && seqTo .any ops m 0 (Array.replicate ops.size false) &&
  headB .any ops n (setTo m 0 (Array.replicate ops.size false)) && Region.lexHead .any ops (ops.size - n) (n - m) m (setTo m 0 (Array.replicate ops.size false))

theorem headInv_of {md : Region.Mode} {ops : Array Oper} {n : Nat} {listed : Array Bool} (h : headB md ops n listed = true) : HeadInv md ops n listed := by
  simp only [headB, Bool.and_eq_true, decide_eq_true_eq, List.all_eq_true, List.mem_range] at h
  obtain ⟨⟨h1, h2⟩, h3⟩ := h
  refine ⟨h1, fun j oj hj hl e he hb => ?_, fun t ht ht' => ?_⟩
  · have hjl : j < ops.size := (Array.getElem?_eq_some_iff.1 hj).1
    have := h2 j hjl
    rw [hl, hj] at this
    simp only [Bool.not_true, Bool.false_or, Array.all_eq_true'] at this
    have := this e he
    rw [hb] at this
    simpa using this
  · have := h3 t ht'
    simp only [Bool.or_eq_true, decide_eq_true_eq] at this
    rcases this with h | h
    · omega
    · simpa using h

theorem wp_region_stage {P : Program} {id : Nat} {Q : Exit → Act → World → Prop} {a : Act} {w : World} {l : List Oper} (m n : Nat) (hm : P.follows .mixedOrders = true) (hB : stageB l.toArray m n = true)
    (h : ∀ K : Act → World → Prop, Hid (∀ a' w', wpStill P l.toArray w' (fun a'' => wpList P l.toArray Q (l.drop n) a'' w') ((l.drop m).take (n - m)) a' → K a' w') → wpList P l.toArray (Exit.then K Q) (l.take m) a w.drew) : (Code.region id l.toArray true).wp P Q a w := by
  replace h := h _ (fun _ _ h => h)
  simp only [stageB, Bool.and_eq_true, decide_eq_true_eq] at hB
  obtain ⟨⟨⟨⟨⟨⟨⟨hsel, hn⟩, hmn⟩, hs⟩, hc⟩, hseq⟩, hhead⟩, hlex⟩ := hB
  have hn' : n < l.length := by simpa using hn
  have htl : (l.take m).length = m := by simp; omega
  have hgl : ((l.drop m).take (n - m)).length = n - m := by simp; omega
  have hdl : (l.drop n).length = l.toArray.size - n := by simp
  refine wp_region_any hm ?_
  have key := wpAny_of_seqK (P := P) (md := .any) (ops := l.toArray) (Q := Q) (g := l.toArray.size - m)
    (K := fun a' w' => wpStill P l.toArray w' (fun a'' => wpList P l.toArray Q (l.drop n) a'' w') ((l.drop m).take (n - m)) a') (l.take m) 0 (Array.replicate l.toArray.size false) a w.drew
    (fun j hj => by have : j < m := by rw [htl] at hj; exact hj
                    simp [this]) (by rw [htl]; exact hseq) (fun a' w' hK => ?_) h
  · rw [htl, show m + (l.toArray.size - m) = l.toArray.size by omega] at key
    exact key
  · rw [htl]
    have H := wpAnyL_lex (P := P) (md := .any) (w := w') (n := n) (g := l.toArray.size - n) hsel hs hc hn ((l.drop m).take (n - m)) m (setTo m 0 (Array.replicate l.toArray.size false)) a'
      (fun j hj => by
        have hj' : j < n - m := by rw [hgl] at hj; exact hj
        simp [hj', List.getElem?_drop]) (by rw [hgl]; omega) (headInv_of hhead) (by rw [hgl]; exact hlex) hK
    have := wpAny_of_head (Q' := Q) (g := l.toArray.size - n) (fun listed a'' hL => by
      have := wpAny_of_seq (md := .any) (Q' := Q) (l.drop n) n listed a'' w' (fun j => by simp [List.getElem?_drop]) (by rw [hdl]; exact hL.1) hL.2
      rwa [hdl] at this) _ _ _ H
    rw [hgl, show n - m + (l.toArray.size - n) = l.toArray.size - m by omega] at this
    exact this

theorem still_of_quiet {P : Program} {ops : Array Oper} {w : World} {Q : Act → Prop} : ∀ (l : List Oper) (a : Act), wpQuiet P ops (fun w' => w' = w) Q l a → wpStill P ops w Q l a
  | [], _, h => h
  | o :: l, a, h => by
    unfold wpQuiet at h
    unfold wpStill
    split
    · rename_i hw
      simp only [hw, if_true] at h
      obtain ⟨v, hv, hn⟩ := h
      have hv := hv w rfl
      unfold Oper.quietAt at hv
      unfold Oper.still
      generalize (execOp a.eval o).run P w = r at *
      cases r with
      | ok x w' =>
        cases x <;> simp only [Oper.quietUpon] at hv <;> simp only [Oper.stillUpon]
        case value u => exact ⟨hv.1, by rw [hv.2]; exact still_of_quiet l _ hn⟩
        case skip => exact ⟨hv.1, by rw [hv.2] at hn; exact still_of_quiet l _ hn⟩
        case enter f args => exact ⟨hv.1, v, hv.2, still_of_quiet l _ hn⟩
      | halt x w' => simp only [Oper.quietUpon] at hv
    · rename_i hw
      simp only [hw] at h
      exact still_of_quiet l _ h

/-- the same, the group by the quiet walk -/
theorem wp_region_stage_q {P : Program} {id : Nat} {Q : Exit → Act → World → Prop} {a : Act} {w : World} {l : List Oper} (m n : Nat) (hm : P.follows .mixedOrders = true) (hB : stageB l.toArray m n = true)
    (h : ∀ K : Act → World → Prop, Hid (∀ a' w', wpQuiet P l.toArray (fun w'' => w'' = w') (fun a'' => wpList P l.toArray Q (l.drop n) a'' w') ((l.drop m).take (n - m)) a' → K a' w') → wpList P l.toArray (Exit.then K Q) (l.take m) a w.drew) : (Code.region id l.toArray true).wp P Q a w :=
  wp_region_stage m n hm hB fun K hK => h K (fun a' w' hq => hK a' w' (still_of_quiet _ _ hq))

end Go.Proofs.Ytllblmndoigdlaa

/- plain arithmetic: the whole root of a number. -/
namespace Go.Proofs.Ytllblmndoigdlaa

def isqrt : Nat → Nat
  | 0 => 0
  | n + 1 => if (isqrt n + 1) * (isqrt n + 1) ≤ n + 1 then isqrt n + 1 else isqrt n

theorem isqrt_le (n : Nat) : isqrt n * isqrt n ≤ n := by
  induction n with
  | zero => simp [isqrt]
  | succ n ih =>
    unfold isqrt
    split
    · assumption
    · omega

theorem isqrt_lt (n : Nat) : n < (isqrt n + 1) * (isqrt n + 1) := by
  induction n with
  | zero => simp [isqrt]
  | succ n ih =>
    unfold isqrt
    split
    · have h : (isqrt n + 1 + 1) * (isqrt n + 1 + 1) = (isqrt n + 1) * (isqrt n + 1) + 2 * (isqrt n + 1) + 1 := by
        rw [Nat.add_mul (isqrt n + 1) 1, Nat.mul_add (isqrt n + 1)]; omega
      omega
    · omega

theorem mul_self_lt {a b : Nat} (h : a < b) : a * a < b * b := Nat.mul_lt_mul'' h h

/-- the whole root of an integer that is not negative -/
def rt (n : Int) : Int := (isqrt n.toNat : Nat)

theorem rt_nonneg (n : Int) : 0 ≤ rt n := by unfold rt; omega

theorem rt_sq_le {n : Int} (h : 0 ≤ n) : rt n * rt n ≤ n := by
  have := isqrt_le n.toNat
  unfold rt
  have e : ((isqrt n.toNat * isqrt n.toNat : Nat) : Int) ≤ (n.toNat : Int) := Int.ofNat_le.2 this
  rw [Int.natCast_mul] at e
  omega

theorem rt_sq_lt {n : Int} (h : 0 ≤ n) : n < (rt n + 1) * (rt n + 1) := by
  have := isqrt_lt n.toNat
  unfold rt
  have e : (n.toNat : Int) < (((isqrt n.toNat + 1) * (isqrt n.toNat + 1) : Nat) : Int) := Int.ofNat_lt.2 this
  push_cast at e
  omega

theorem sq_le_sq {a b : Int} (h0 : 0 ≤ a) (h : a ≤ b) : a * a ≤ b * b := Int.mul_le_mul h h h0 (by omega)

theorem rt_unique {n r : Int} (h0 : 0 ≤ r) (h1 : r * r ≤ n) (h2 : n < (r + 1) * (r + 1)) : r = rt n := by
  have hn : 0 ≤ n := Int.le_trans (Int.mul_nonneg h0 h0) h1
  have a := rt_sq_le hn
  have b := rt_sq_lt hn
  have c := rt_nonneg n
  rcases Int.lt_trichotomy r (rt n) with h | h | h
  · have := sq_le_sq (a := r + 1) (b := rt n) (by omega) (by omega)
    omega
  · exact h
  · have := sq_le_sq (a := rt n + 1) (b := r) (by omega) (by omega)
    omega

theorem le_rt {n r : Int} (h0 : 0 ≤ r) (h1 : r * r ≤ n) : r ≤ rt n := by
  have hn : 0 ≤ n := Int.le_trans (Int.mul_nonneg h0 h0) h1
  have b := rt_sq_lt hn
  have c := rt_nonneg n
  rcases Int.lt_or_le (rt n) r with h | h
  · have := sq_le_sq (a := rt n + 1) (b := r) (by omega) (by omega)
    omega
  · exact h

theorem rt_lt {n r : Int} (hn : 0 ≤ n) (h0 : 0 ≤ r) (h1 : n < r * r) : rt n < r := by
  have a := rt_sq_le hn
  rcases Int.lt_or_le (rt n) r with h | h
  · exact h
  · have := sq_le_sq h0 h
    omega

theorem rt_mono {m n : Int} (hm : 0 ≤ m) (h : m ≤ n) : rt m ≤ rt n :=
  le_rt (rt_nonneg m) (Int.le_trans (rt_sq_le hm) h)

theorem rt_le_of {n b : Int} (hn : 0 ≤ n) (h0 : 0 ≤ b) (h : n < (b + 1) * (b + 1)) : rt n ≤ b := by
  have := rt_lt hn (r := b + 1) (by omega) h
  omega

attribute [irreducible] rt

end Go.Proofs.Ytllblmndoigdlaa

/- words for memory: a slice of int64 that reads as a list; a slice of the call's own; make, append -/
namespace Go.Proofs.Ytllblmndoigdlaa
open Go.RowKit

theorem ret_int {k : IntKind} {a b : Int} (h : a = b) : Ending.returned (.int k a) = .returned (.int k b) := by rw [h]

theorem ret_bool {a b : Bool} (h : a = b) : Ending.returned (.bool a) = .returned (.bool b) := by rw [h]

def ig (zs : List Int) (j : Nat) : Int := zs.getD j 0
def I64 (z : Int) : Prop := -9223372036854775808 ≤ z ∧ z ≤ 9223372036854775807

theorem ig_lt {zs : List Int} {j : Nat} (h : j < zs.length) : ig zs j = zs[j] := by
  unfold ig; rw [List.getD_eq_getElem?_getD, List.getElem?_eq_getElem h]; rfl
theorem ig_ge {zs : List Int} {j : Nat} (h : zs.length ≤ j) : ig zs j = 0 := by
  unfold ig; rw [List.getD_eq_getElem?_getD, List.getElem?_eq_none h]; rfl
theorem ig_get {zs : List Int} {j : Nat} (h : j < zs.length) : zs[j]? = some (ig zs j) := by
  rw [ig_lt h]; exact List.getElem?_eq_getElem h
theorem i64_ig {zs : List Int} (h : ∀ z ∈ zs, I64 z) (j : Nat) : I64 (ig zs j) := by
  rcases Nat.lt_or_ge j zs.length with hj | hj
  · rw [ig_lt hj]; exact h _ (List.getElem_mem hj)
  · rw [ig_ge hj]; exact ⟨by omega, by omega⟩

/-- '.slice A n c' reads as the numbers zs -/
structure Ints (w : World) (A : Option Addr) (n c : Nat) (zs : List Int) : Prop where
  len : zs.length = n
  le : n ≤ c
  cap : c ≤ 9223372036854775807
  rng : ∀ z ∈ zs, I64 z
  cells : 0 < n → ∃ b off, A = some ⟨b, off, none⟩ ∧ b < w.heap.size ∧ ∀ j, j < n → w.cell? ⟨b, off + j, none⟩ = some (.int .i64 (ig zs j))

/-- '.slice A n c' is nil or lies at the head of a row that nobody has frozen, and reads as the numbers zs -/
structure Own (w : World) (A : Option Addr) (n c : Nat) (zs : List Int) : Prop where
  row : w.ownsRow 0 2 1 (.slice A n c) n (zs.map (Value.int .i64))
  rng : ∀ z ∈ zs, I64 z

/-- the row lies in a block from B on -/
def Fresh (B : Nat) (A : Option Addr) : Prop := ∀ a, A = some a → B ≤ a.block

section
variable {w w' : World} {A : Option Addr} {n c B : Nat} {zs : List Int}
theorem Ints.keep (h : Ints w A n c zs) (hs : w.heap.size ≤ w'.heap.size) (hk : ∀ a, A = some a → w'.heap[a.block]? = w.heap[a.block]?) : Ints w' A n c zs :=
  ⟨h.len, h.le, h.cap, h.rng, fun hn => by
    obtain ⟨b, off, rfl, hb, hc⟩ := h.cells hn
    exact ⟨b, off, rfl, by omega, fun j hj => (World.cell?_of_block (a := ⟨b, off + j, none⟩) (hk ⟨b, off, none⟩ rfl)).trans (hc j hj)⟩⟩
theorem Ints.later (h : Ints w A n c zs) (hb : Below w.heap.size w w') : Ints w' A n c zs :=
  ⟨h.len, h.le, h.cap, h.rng, fun hn => by
    obtain ⟨b, off, rfl, hlt, hc⟩ := h.cells hn
    exact ⟨b, off, rfl, by have := hb.size; omega, fun j hj => (hb.cell (p := ⟨b, off + j, none⟩) hlt).trans (hc j hj)⟩⟩
theorem Ints.i64 (h : Ints w A n c zs) (j : Nat) : I64 (ig zs j) := i64_ig h.rng j
theorem Ints.nil : Ints w none 0 0 [] := ⟨rfl, by omega, by omega, by simp, fun h => absurd h (by omega)⟩

theorem Own.len (h : Own w A n c zs) : zs.length = n := by have := h.row.1; simpa using this
theorem Own.form (h : Own w A n c zs) : (A = none ∧ n = 0 ∧ c = 0) ∨ ∃ g, A = some ⟨g, 0, none⟩ ∧ g < w.heap.size ∧ n ≤ c ∧ c ≤ 9223372036854775807 := by
  rcases h.row.2 with ⟨h1, h2⟩ | ⟨g, cap, cur, h1, _, hg, h3, h4, _⟩
  · injection h1 with a b c; exact .inl ⟨a, h2, c⟩
  · injection h1 with a b c; subst c
    exact .inr ⟨g, a, (Array.getElem?_eq_some_iff.1 hg).1, h3, h4⟩
theorem Own.lt (h : Own w A n c zs) : ∀ a, A = some a → a.block < w.heap.size := by
  intro a ha
  rcases h.form with ⟨h1, _⟩ | ⟨g, h1, h2, _⟩
  · rw [h1] at ha; cases ha
  · rw [h1] at ha; injection ha with ha; subst ha; exact h2
theorem Own.ints (h : Own w A n c zs) : Ints w A n c zs := by
  rcases h.form with ⟨rfl, rfl, rfl⟩ | ⟨g, rfl, hg, hn, hc⟩
  · have := h.len
    cases zs with
    | nil => exact Ints.nil
    | cons => simp at this
  · refine ⟨h.len, hn, hc, h.rng, fun _ => ⟨g, 0, rfl, hg, fun j hj => ?_⟩⟩
    have := h.row.cellAt j (by omega)
    have hl := h.len
    rw [Nat.zero_add, this, List.getElem?_map, ig_get (by omega)]; rfl
theorem Own.keep (h : Own w A n c zs) (hk : ∀ a, A = some a → w'.heap[a.block]? = w.heap[a.block]?) : Own w' A n c zs := by
  refine ⟨⟨h.row.1, ?_⟩, h.rng⟩
  rcases h.row.2 with hn | ⟨g, cap, cur, h1, hb, hgg, rest⟩
  · exact .inl hn
  · refine .inr ⟨g, cap, cur, h1, hb, ?_, rest⟩
    injection h1 with a _ _
    have := hk _ a
    rw [← hgg]; exact this
theorem Own.later (h : Own w A n c zs) (hb : Below w.heap.size w w') : Own w' A n c zs := h.keep fun a ha => hb.block _ (h.lt a ha)
theorem Own.below (h : Own w A n c zs) (hb : Below B w w') (hl : ∀ a, A = some a → a.block < B) : Own w' A n c zs := h.keep fun a ha => hb.block _ (hl a ha)
theorem Own.far (h : Own w A n c zs) {p : Addr} (hp : ∀ a, A = some a → a.block ≠ p.block) (u : Value) : Own (w.setCell p u) A n c zs :=
  h.keep fun a ha => Below.heap_setCell w p u _ (hp a ha)
theorem Own.i64 (h : Own w A n c zs) (j : Nat) : I64 (ig zs j) := i64_ig h.rng j
theorem Own.nil : Own w none 0 0 [] := ⟨⟨by simp, .inl ⟨rfl, rfl⟩⟩, by simp⟩
theorem Own.pos (h : Own w A n c zs) (hn : 0 < n) : ∃ g, A = some ⟨g, 0, none⟩ ∧ g < w.heap.size := by
  rcases h.form with ⟨_, h0, _⟩ | ⟨g, h1, h2, _⟩
  · omega
  · exact ⟨g, h1, h2⟩
/-- a store into a row of the call's own -/
theorem Own.store {g : Nat} (h : Own w (some ⟨g, 0, none⟩) n c zs) (j : Nat) {z : Int} (hz : I64 z) : Own (w.setCell ⟨g, j, none⟩ (.int .i64 z)) (some ⟨g, 0, none⟩) n c (zs.set j z) := by
  refine ⟨?_, fun x hx => ?_⟩
  · rw [List.map_set]; exact (h.row.stored j _).1
  · rcases List.mem_or_eq_of_mem_set hx with hx | rfl
    · exact h.rng x hx
    · exact hz
theorem Own.cell {g : Nat} (h : Own w (some ⟨g, 0, none⟩) n c zs) {j : Nat} (hj : j < n) : w.cell? ⟨g, j, none⟩ = some (.int .i64 (ig zs j)) := by
  have hl := h.len
  rw [h.row.cellAt j (by omega), List.getElem?_map, ig_get (by omega)]; rfl
theorem Own.unfrozen {g : Nat} (h : Own w (some ⟨g, 0, none⟩) n c zs) (j : Nat) : w.frozen? ⟨g, j, none⟩ = false := h.row.frozenAt j

end

theorem i64_of_wf {n : Int} (h : (Lit.int .i64 n).wf = true) : I64 n := by
  have : -9223372036854775808 ≤ n ∧ n ≤ 9223372036854775807 := by simpa [Lit.wf, IntKind.min, IntKind.max, IntKind.signed, IntKind.bits] using h
  exact this

/-- a slice of int64 that came in -/
theorem ints_of_cells {w : World} {x : Addr} {len cap : Nat} {zs : List Int} (hl : len ≤ cap) (hm : cap ≤ maxLen) (hz : zs.length = cap)
    (hcell : ∀ i, i < zs.length → w.cell? (x.add i) = some (.int .i64 (zs.getD i 0))) (hw : ∀ n ∈ zs, (Lit.int .i64 n).wf = true) : Ints w (some x) len cap (zs.take len) := by
  refine ⟨by rw [List.length_take]; omega, hl, by unfold maxLen at hm; omega, fun z hz => i64_of_wf (hw z (List.mem_of_mem_take hz)), fun hn => ?_⟩
  obtain ⟨b, off, spot⟩ := x
  have h0 := hcell 0 (by omega)
  have hspot : spot = none := by simpa [Addr.add] using World.cell?_spot h0
  subst hspot
  refine ⟨b, off, rfl, by simpa [Addr.add] using World.block_lt_of_cell? _ _ h0, fun j hj => ?_⟩
  have e : ig (zs.take len) j = zs.getD j 0 := by
    unfold ig; rw [List.getD_eq_getElem?_getD, List.getElem?_take_of_lt hj, List.getD_eq_getElem?_getD]
  rw [e, ← hcell j (by omega)]
  unfold Addr.add
  split
  · rename_i h; rw [h]; rfl
  · rfl

theorem below_drew {B : Nat} {a w : World} (h : Below B a w) (n : Nat) : Below B a (w.drewN n) := ⟨h.os, h.tape, h.output, h.size, h.block⟩
theorem below_step {w0 w w' : World} (h : Below w0.heap.size w0 w) (h' : Below w.heap.size w w') : Below w0.heap.size w0 w' := h.trans (h'.mono h.size)

theorem heap_set {w : World} {g : Nat} {cs : Array Value} {t : TypeId} (h : w.heap[g]? = some (.cells cs t (0, 0))) (i : Nat) (u : Value) :
    (w.setCell ⟨g, i, none⟩ u).heap[g]? = some (.cells (cs.setIfInBounds i u) t (0, 0)) := by
  simp [World.setCell, Array.getElem?_modify, h]
theorem cell_blk {w : World} {g : Nat} {cs : Array Value} {t : TypeId} (h : w.heap[g]? = some (.cells cs t (0, 0))) (i : Nat) : w.cell? ⟨g, i, none⟩ = cs[i]? := cell_of_row w g i cs t (0, 0) h
theorem frozen_blk {w : World} {g : Nat} {cs : Array Value} {t : TypeId} (h : w.heap[g]? = some (.cells cs t (0, 0))) (i : Nat) : w.frozen? ⟨g, i, none⟩ = false := by simp [World.frozen?, h]

theorem info_int64 : (Try.prog.info? 2).map (fun i => (i.zero, i.size, i.bytes)) = some (some (.int .i64 0), 1, 8) := by kernel_rfl

/-- make([]int64, n) -/
theorem law_make (w : World) {ops : Array Oper} {rest : List Oper} {o : Oper} {a : Act} {Q : Exit → Act → World → Prop}
    (hg : o.guard = none) (l c : Operand) (hop : o.op = Op.makeSlice 28 l c) (n : Nat) (L C : Int) (hl : a.eval l = .int .i64 L) (hc : a.eval c = .int .i64 C) (hL : L = (n : Int)) (hC : C = (n : Int))
    (hn : n ≤ 17592186044416) (hK : ∀ w', Own w' (some ⟨w.heap.size, 0, none⟩) n n (List.replicate n 0) → Below w.heap.size w w' → w.heap.size < w'.heap.size → wpList Try.prog ops Q rest (a.put o.dst (.slice (some ⟨w.heap.size, 0, none⟩) n n)) w') :
    wpList Try.prog ops Q (o :: rest) a w := by
  obtain ⟨i, hi, h1, h2, h3⟩ := info_parts info_int64
  refine wpList_make_full w hg l c _ hop 0 2 i (.int .i64 0) 1 Try.underlying28 hi h1 h2 .i64 .i64 L C n hl hc hL hC (by rw [h3]; omega) (by unfold maxLen; omega) (Nat.zero_le _) fun w' ho hgr => ?_
  have ho' : Own w' (some ⟨w.heap.size, 0, none⟩) n n (List.replicate n 0) := by
    refine ⟨?_, fun z hz => ?_⟩
    · have e : (madeCells (Value.int .i64 0).cells (n * 1)).toList = (List.replicate n (0 : Int)).map (Value.int .i64) := by
        rw [Nat.mul_one, List.map_replicate]; exact toList_madeCells_one _ _
      rw [← e]; exact ho
    · rw [List.eq_of_mem_replicate hz]; exact ⟨by omega, by omega⟩
  exact hK w' ho' ((Below.refl _ _).grown hgr (Nat.le_refl _) (by simp)) (ho'.lt _ rfl)

/-- append(s, x), s a slice of the call's own -/
theorem law_append (w : World) {ops : Array Oper} {rest : List Oper} {o : Oper} {a : Act} {Q : Exit → Act → World → Prop}
    (hg : o.guard = none) (s x : Operand) (hop : o.op = Op.call { callee := Callee.builtin Builtin.append, args := #[s, x], argTypes := #[28, 28] })
    (A : Option Addr) (n c : Nat) (zs : List Int) (hs : a.eval s = .slice A n c) (hown : Own w A n c zs)
    (g m' : Nat) (z : Int) (hz : I64 z) (hx : a.eval x = .slice (some ⟨g, 0, none⟩) 1 m') (hc : w.cell? ⟨g, 0, none⟩ = some (.int .i64 z)) (hn : n ≤ 17592186044000)
    (hK : ∀ A' c' w', Own w' A' (n + 1) c' (zs ++ [z]) → w.grownBy w' (A.map (·.block)) → (A'.map (·.block) = A.map (·.block) ∨ A'.map (·.block) = some w.heap.size) → wpList Try.prog ops Q rest (a.put o.dst (.slice A' (n + 1) c')) w') :
    wpList Try.prog ops Q (o :: rest) a w := by
  obtain ⟨i, hi, h1, h2, h3⟩ := info_parts info_int64
  have hcells : ∀ j u, [Value.int .i64 z][j]? = some u → w.cell? ((⟨g, 0, none⟩ : Addr).add j) = some u := by
    intro j u hu
    match j with
    | 0 => simp at hu; subst hu; exact hc
    | j + 1 => simp at hu
  obtain ⟨v', w', hrun, k2, k3, _, k5⟩ := run_append_own_at (P := Try.prog) w 0 28 o.type 2 i (.int .i64 0) 1 8 Try.underlying28 hi h1 h2 h3 rfl (by omega) _ n _ hown.row ⟨g, 0, none⟩ 1 m' [.int .i64 z] rfl hcells (by simp [Value.oneCell']) (by unfold maxLen; omega) (by omega) (Nat.zero_le _)
  have hv' : ∃ A' c', v' = .slice A' (n + 1) c' := by
    rcases k2.2 with ⟨h, h'⟩ | ⟨g', cap, cur, h, _⟩
    · omega
    · exact ⟨_, _, h⟩
  obtain ⟨A', c', rfl⟩ := hv'
  have hb : ∀ (X : Option Addr) (p q : Nat), (Value.slice X p q).ownBlock = X.map (·.block) := by intro X p q; cases X <;> rfl
  rw [hb] at k3
  rw [hb, hb] at k5
  refine wpList_plain hg fun K hK' => ?_
  unfold Oper.wp
  simp only [execOp, hop, resolve, invoke, builtin, Sem.run_bind, Sem.run_pure, Result.andThen_ok, List.map_toArray, List.map_cons, List.map_nil, hs, hx, hrun]
  refine hK' _ _ (hK A' c' w' ⟨by rw [List.map_append]; exact k2, fun y hy => ?_⟩ k3 k5)
  rcases List.mem_append.1 hy with hy | hy
  · exact hown.rng y hy
  · rw [List.mem_singleton.1 hy]; exact hz

end Go.Proofs.Ytllblmndoigdlaa
