/- steps of a region that draws its order -/
import Derived.Test.YtahmhmicegjdkaaTrack
import Derived.Test.YtahmhmicegjdkaaMark
namespace Go.Proofs.Ytahmhmicegjdkaa
open Go Go.RowKit

section
variable {P : Program}
theorem wpList_none {ops : Array Oper} {Q : Exit → Act → World → Prop} {a : Act} {w : World} : wpList P ops Q [] a w = Q .normal a w := rfl
theorem opok_gen {N0 : Value → World → Prop} {r : Result Next} (h : ∀ N : Value → World → Prop, Hid (∀ v w', N0 v w' → N v w') → OpOK P N r) : OpOK P N0 r := h N0 (Lib.hid fun _ _ h => h)
theorem opok_val {N : Value → World → Prop} {v : Value} {w' : World} (h : N v w') : OpOK P N (.ok (.value v) w') := h
theorem opok_call {N : Value → World → Prop} {f : FuncId} {args : Array Value} {w' : World} (h : Calls P f args w' (fun e w'' => ∃ v, e = .returned v ∧ N v w'')) : OpOK P N (.ok (.enter f args) w') := h
theorem opok_move {ev : Operand → Value} {N : Value → World → Prop} {o : Oper} {w : World} (x : Operand) (h : o.op = .move x) (hk : N (ev x) w) : OpOK P N ((execOp ev o).run P w) := by
  simp only [execOp, h, Sem.run_pure]; exact hk
theorem opok_assign {ev : Operand → Value} {N : Value → World → Prop} {o : Oper} {w : World} (x : Operand) (h : o.op = .assign x) (hk : N (ev x) w) : OpOK P N ((execOp ev o).run P w) := by
  simp only [execOp, h, Sem.run_pure]; exact hk
def Stb (S : World → World → Prop) (p : VP) : Prop := ∀ v w w', S w w' → p v w → p v w'
def StbL (S : World → World → Prop) : List VP → Prop
  | [] => True
  | p :: V => Stb S p ∧ StbL S V
theorem StbL.nth {S : World → World → Prop} : ∀ {V : List VP}, StbL S V → ∀ j v w w', S w w' → nthV V j v w → nthV V j v w'
  | [], _, _, _, _, _, _, _ => trivial
  | _ :: _, h, 0, v, w, w', hs, hv => h.1 v w w' hs hv
  | _ :: V, h, j + 1, v, w, w', hs, hv => by
    have := StbL.nth (V := V) h.2 j v w w' hs (by simpa [nthV] using hv)
    simpa [nthV] using this
theorem stb_eqv {S : World → World → Prop} (c : Value) : Stb S (eqv c) := fun _ _ _ _ h => h

end

/-- worlds that grow -/
def Grw (w w' : World) : Prop := Below w.heap.size w w'
/-- a row of the call's own, in a block from B on -/
def isRow (B n c : Nat) (zs : List Int) : VP := fun v w => ∃ b, v = .slice (some ⟨b, 0, none⟩) n c ∧ Own w (some ⟨b, 0, none⟩) n c zs ∧ B ≤ b
theorem stb_row {B n c : Nat} {zs : List Int} : Stb Grw (isRow B n c zs) := by
  rintro v w w' h ⟨b, rfl, ho, hb⟩
  exact ⟨b, rfl, ho.later h, hb⟩
/-- a box in a block from B on -/
def isBox (B : Nat) (cs : Array Value) (T : TypeId) : VP := fun v w => ∃ b, v = .pointer (some ⟨b, 0, none⟩) ∧ w.heap[b]? = some (.cells cs T (0, 0)) ∧ B ≤ b
theorem stb_box {B : Nat} {cs : Array Value} {T : TypeId} : Stb Grw (isBox B cs T) := by
  rintro v w w' h ⟨b, rfl, hh, hb⟩
  exact ⟨b, rfl, (h.block b (Array.getElem?_eq_some_iff.1 hh).1).trans hh, hb⟩
/-- the block of a row or a box -/
def blkOf : Value → Option Nat
  | .slice (some a) _ _ => some a.block
  | .pointer (some a) => some a.block
  | _ => none
theorem row_blk {B n c : Nat} {zs : List Int} {v : Value} {w : World} (h : isRow B n c zs v w) : ∃ b, blkOf v = some b ∧ b < w.heap.size := by
  obtain ⟨b, rfl, ho, _⟩ := h
  exact ⟨b, rfl, ho.lt _ rfl⟩
theorem box_blk {B : Nat} {cs : Array Value} {T : TypeId} {v : Value} {w : World} (h : isBox B cs T v w) : ∃ b, blkOf v = some b ∧ b < w.heap.size := by
  obtain ⟨b, rfl, hh, _⟩ := h
  exact ⟨b, rfl, (Array.getElem?_eq_some_iff.1 hh).1⟩

/-- make([]int64, n) -/
theorem opok_make {ev : Operand → Value} {o : Oper} {w : World} {N : Value → World → Prop} (l c : Operand) (hop : o.op = Op.makeSlice 26 l c) (n : Nat) (hl : ev l = .int .i64 n) (hc : ev c = .int .i64 n) (hn : n ≤ 17592186044416)
    (h : ∀ w', Own w' (some ⟨w.heap.size, 0, none⟩) n n (List.replicate n 0) → Below w.heap.size w w' → N (.slice (some ⟨w.heap.size, 0, none⟩) n n) w') : OpOK Try.prog N ((execOp ev o).run Try.prog w) := by
  obtain ⟨i, hi, h1, h2, h3⟩ := info_parts info_int64
  obtain ⟨w', hr, ho, hgr⟩ := run_make_full (P := Try.prog) w 0 26 2 i (.int .i64 0) 1 Try.underlying26 hi h1 h2 .i64 .i64 n (by rw [h3]; omega) (by unfold maxLen; omega) (Nat.zero_le _)
  simp only [execOp, hop, hl, hc, Sem.run_bind, hr, Result.andThen_ok, Sem.run_pure]
  refine h w' ⟨?_, fun z hz => ?_⟩ ((Below.refl _ _).grown hgr (Nat.le_refl _) (by simp))
  · have e : (madeCells (Value.int .i64 0).cells (n * 1)).toList = (List.replicate n (0 : Int)).map (Value.int .i64) := by
      rw [Nat.mul_one, List.map_replicate]; exact toList_madeCells_one _ _
    rw [← e]; exact ho
  · rw [List.eq_of_mem_replicate hz]; exact ⟨by omega, by omega⟩
theorem own_lit (w : World) (z : Int) (hz : I64 z) : Own (w.alloc (.cells #[.int .i64 z] 2)) (some ⟨w.heap.size, 0, none⟩) 1 1 [z] :=
  ⟨⟨by simp, .inr ⟨w.heap.size, 1, #[.int .i64 z], rfl, Nat.zero_le _, heap_alloc_new w _, Nat.le_refl _, by decide, rfl, rfl⟩⟩, by simpa using hz⟩

end Go.Proofs.Ytahmhmicegjdkaa
