/- a region that draws its order: what each operation leaves, whatever the order -/
import Derived.StillTail
import Derived.Below
import Derived.KernelRfl
import Derived.Test.YtllblmndoigdlaaMark
namespace Go.Proofs.Ytllblmndoigdlaa
open Go Go.RowKit

/-- a value and the world, what is known of them -/
abbrev VP := Value → World → Prop
def eqv (c : Value) : VP := fun v _ => v = c
def nthV (V : List VP) (j : Nat) : VP := V.getD j (fun _ _ => True)

/-- what an operation must come to -/
def OpOK (P : Program) (N : Value → World → Prop) : Result Next → Prop
  | .ok (.value v) w' => N v w'
  | .ok (.enter f args) w' => Calls P f args w' (fun e w'' => ∃ v, e = .returned v ∧ N v w'')
  | _ => False

def StepOK (P : Program) (a : Act) (ds : List Nat) (V : List VP) (I : World → Prop) (S : World → World → Prop) (i : Nat) (o : Oper) : Prop :=
  ∀ (ev : Operand → Value) (w : World), (∀ t, t ∉ ds → ev (.tmp t) = a.eval (.tmp t)) → (∀ c, ev (.const c) = c) → (∀ g, ev (.global g) = .pointer (some ⟨g, 0, none⟩)) → (∀ f, ev (.func f) = .func (.func f) #[] #[]) → I w →
    (∀ j d, ds[j]? = some d → (o.op.operands.toList.any fun x => match x with | .tmp t => t == d | _ => false) = true → nthV V j (ev (.tmp d)) w) →
    OpOK P (fun v w' => I w' ∧ S w w' ∧ nthV V i v w') ((execOp ev o).run P w)
def StepsOK (P : Program) (a : Act) (ds : List Nat) (V : List VP) (I : World → Prop) (S : World → World → Prop) : Nat → List Oper → Prop
  | _, [] => True
  | i, o :: l => StepOK P a ds V I S i o ∧ StepsOK P a ds V I S (i + 1) l
/-- what is known of two values besides -/
abbrev PP := Nat → Nat → Value → Value → Prop
def StepOK2 (P : Program) (a : Act) (ds : List Nat) (V : List VP) (D : PP) (I : World → Prop) (S : World → World → Prop) (i : Nat) (o : Oper) : Prop :=
  ∀ (ev : Operand → Value) (w : World), (∀ t, t ∉ ds → ev (.tmp t) = a.eval (.tmp t)) → (∀ c, ev (.const c) = c) → (∀ g, ev (.global g) = .pointer (some ⟨g, 0, none⟩)) → (∀ f, ev (.func f) = .func (.func f) #[] #[]) → I w →
    (∀ j d, ds[j]? = some d → (o.op.operands.toList.any fun x => match x with | .tmp t => t == d | _ => false) = true → nthV V j (ev (.tmp d)) w) →
    OpOK P (fun v w' => I w' ∧ S w w' ∧ nthV V i v w' ∧ ∀ j d, ds[j]? = some d → j ≠ i → nthV V j (ev (.tmp d)) w → D i j v (ev (.tmp d))) ((execOp ev o).run P w)
def StepsOK2 (P : Program) (a : Act) (ds : List Nat) (V : List VP) (D : PP) (I : World → Prop) (S : World → World → Prop) : Nat → List Oper → Prop
  | _, [] => True
  | i, o :: l => StepOK2 P a ds V D I S i o ∧ StepsOK2 P a ds V D I S (i + 1) l
/-- operation i waits for operation j -/
def depB (ops : Array Oper) (i j : Nat) : Bool := match ops[i]? with
  | some o => o.after.any fun e => Region.binds .any e && e.on == j
  | none => false
/-- behind the region: each slot with what is known of it -/
def Lasts (w : World) (G : List Value → Act → Prop) : List VP → List Nat → List Value → Act → Prop
  | v :: vs, d :: ds, xs, a => ∀ x, v x w → Lasts w G vs ds (xs ++ [x]) (a.put (some d) x)
  | _, _, xs, a => G xs a

/-- operation i waits for operation j, directly or through others -/
def tdepB (ops : Array Oper) : Nat → Nat → Nat → Bool
  | 0, _, _ => false
  | f + 1, i, j => match ops[i]? with
    | some o => o.after.any fun e => Region.binds .any e && (e.on == j || tdepB ops f e.on j)
    | none => false
def trackB (ops : Array Oper) (ds : List Nat) : Bool :=
  decide (ds.length ≤ ops.size) && ((List.range ops.size).all fun t => decide (t < ds.length) || (List.range t).all fun j => tdepB ops ops.size t j) && decide ds.Nodup &&
  ((List.range ops.size).all fun i => match ops[i]? with
    | some o => o.guard.isNone && (o.after.all fun e => decide (e.on < i)) && (match ds[i]? with
      | some d => o.dst == some d && ((List.range ds.length).all fun j => match ds[j]? with
        | some dj => !(o.op.operands.toList.any fun x => match x with | .tmp t => t == dj | _ => false) || o.after.any fun e => Region.binds .any e && e.on == j
        | none => true)
      | none => true)
    | none => true)

section
variable {P : Program} {l : List Oper} {Q : Exit → Act → World → Prop} {a : Act} {ds : List Nat} {V : List VP} {I : World → Prop} {S : World → World → Prop}

theorem OpOK.mono {N N' : Value → World → Prop} (h : ∀ v w, N v w → N' v w) : ∀ {r : Result Next}, OpOK P N r → OpOK P N' r
  | .ok (.value v) w', hr => h v w' hr
  | .ok (.enter _ _) _, hr => Calls.mono hr (fun _ w'' ⟨v, he, hn⟩ => ⟨v, he, h v w'' hn⟩)
theorem steps_two (D : PP) (hD : ∀ i j v x, D i j v x) : ∀ {l : List Oper} {i : Nat}, StepsOK P a ds V I S i l → StepsOK2 P a ds V D I S i l
  | [], _, _ => trivial
  | _ :: _, _, h => ⟨fun ev w h1 h2 h3 h4 h5 h6 => OpOK.mono (fun _ _ ⟨x, y, z⟩ => ⟨x, y, z, fun _ _ _ _ _ => hD _ _ _ _⟩) (h.1 ev w h1 h2 h3 h4 h5 h6), steps_two D hD h.2⟩
theorem steps_at {D : PP} {k : Nat} : ∀ {l : List Oper} {i : Nat}, StepsOK2 P a ds V D I S i l → ∀ {o : Oper}, l[k]? = some o → StepOK2 P a ds V D I S (i + k) o := by
  induction k with
  | zero =>
    intro l i h o ho
    cases l with
    | nil => simp at ho
    | cons x l => simp at ho; subst ho; exact h.1
  | succ k ih =>
    intro l i h o ho
    cases l with
    | nil => simp at ho
    | cons x l =>
      have := ih (l := l) (i := i + 1) h.2 (by simpa using ho)
      rwa [show i + 1 + k = i + (k + 1) by omega] at this

theorem count_set {l : List Bool} {i : Nat} (h : l[i]? = some false) : (l.set i true).count false + 1 = l.count false := by
  induction l generalizing i with
  | nil => simp at h
  | cons x l ih =>
    cases i with
    | zero => simp at h; subst h; simp
    | succ i =>
      have := ih (i := i) (by simpa using h)
      cases x <;> simp <;> omega
theorem count_zero {l : List Bool} (h : l.count false = 0) {i : Nat} (hi : i < l.length) : l[i]? = some true := by
  rw [List.count_eq_zero] at h
  rw [List.getElem?_eq_getElem hi]
  cases e : l[i] with
  | true => rfl
  | false => exact absurd (e ▸ List.getElem_mem hi) h

structure TrackInv (ops : Array Oper) (a : Act) (ds : List Nat) (V : List VP) (D : PP) (I : World → Prop) (listed : Array Bool) (a' : Act) (w' : World) : Prop where
  inv : I w'
  size : listed.size = ops.size
  defers : a'.defers = a.defers
  tmps : a'.tmps.size = a.tmps.size
  out : ∀ t, t ∉ ds → a'.tmps[t]? = a.tmps[t]?
  got : ∀ j d, ds[j]? = some d → listed.getD j false = true → nthV V j (a'.eval (.tmp d)) w'
  tail : ∀ j, ds.length ≤ j → j < ops.size → listed.getD j true = false
  pair : ∀ i j di dj, ds[i]? = some di → ds[j]? = some dj → i ≠ j → listed.getD i false = true → listed.getD j false = true → (depB ops i j = true → D i j (a'.eval (.tmp di)) (a'.eval (.tmp dj))) ∧ (D i j (a'.eval (.tmp di)) (a'.eval (.tmp dj)) ∨ D j i (a'.eval (.tmp dj)) (a'.eval (.tmp di)))
  closed : ∀ i j, listed.getD i false = true → depB ops i j = true → listed.getD j false = true

theorem eval_out {a a' : Act} {t : Nat} (h : a'.tmps[t]? = a.tmps[t]?) : a'.eval (.tmp t) = a.eval (.tmp t) := by
  show a'.tmps.getD t undef = a.tmps.getD t undef
  rw [Array.getD_eq_getD_getElem?, Array.getD_eq_getD_getElem?, h]
theorem eval_put {a : Act} {d t : Nat} {v : Value} (hd : d < a.tmps.size) : (a.put (some d) v).eval (.tmp t) = if d = t then v else a.eval (.tmp t) := by
  show (a.tmps.setIfInBounds d v).getD t undef = _
  rw [Array.getD_eq_getD_getElem?, Array.getElem?_setIfInBounds]
  by_cases e : d = t
  · subst e; simp [hd]
  · simp only [e, if_false]
    show _ = a.tmps.getD t undef
    rw [Array.getD_eq_getD_getElem?]

theorem lasts_elim {G : List Value → Act → Prop} {w : World} : ∀ (V : List VP) (ds : List Nat) (xs : List Value) (a b : Act), Lasts w G V ds xs a → V.length = ds.length → ds.Nodup → b.defers = a.defers → b.tmps.size = a.tmps.size → (∀ d ∈ ds, d < a.tmps.size) →
    (∀ t, t ∉ ds → b.tmps[t]? = a.tmps[t]?) → (∀ j d, ds[j]? = some d → nthV V j (b.eval (.tmp d)) w) → G (xs ++ ds.map fun d => b.eval (.tmp d)) b
  | [], [], xs, a, b, h, _, _, hd, _, _, ho, _ => by
    have : b = a := by
      cases a; cases b
      simp only at hd
      subst hd
      congr 1
      exact Array.ext_getElem? fun t => ho t (by simp)
    rw [this]; simpa [Lasts] using h
  | v :: vs, d :: ds, xs, a, b, h, hl, hn, hd, hs, hlt, ho, hg => by
    have h0 := hg 0 d rfl
    have hda : d < a.tmps.size := hlt d List.mem_cons_self
    obtain ⟨hnd, hn'⟩ := List.nodup_cons.1 hn
    have key : G ((xs ++ [b.eval (.tmp d)]) ++ ds.map fun d => b.eval (.tmp d)) b := ?_
    · simpa using key
    refine lasts_elim vs ds (xs ++ [b.eval (.tmp d)]) (a.put (some d) (b.eval (.tmp d))) b (h _ h0) (by simpa using hl) hn' hd ?_ ?_ ?_ ?_
    · show b.tmps.size = (a.tmps.setIfInBounds d _).size; simp [hs]
    · intro x hx; show x < (a.tmps.setIfInBounds d _).size; simp; exact hlt x (List.mem_cons_of_mem _ hx)
    · intro t ht
      show b.tmps[t]? = (a.tmps.setIfInBounds d _)[t]?
      rw [Array.getElem?_setIfInBounds]
      by_cases e : d = t
      · subst e
        rw [if_pos rfl, if_pos hda]
        show _ = some (b.tmps.getD d undef)
        rw [Array.getD_eq_getD_getElem?, Array.getElem?_eq_getElem (by omega)]; rfl
      · rw [if_neg e]; exact ho t (by simp [ht]; exact Ne.symm e)
    · intro j d' hj
      have := hg (j + 1) d' (by simpa using hj)
      simpa [nthV] using this
  | [], _ :: _, _, _, _, _, hl, _, _, _, _, _, _ => by simp at hl
  | _ :: _, [], _, _, _, _, hl, _, _, _, _, _, _ => by simp at hl

theorem tdep_listed {ops : Array Oper} {listed : Array Bool} (hc : ∀ i j, listed.getD i false = true → depB ops i j = true → listed.getD j false = true) : ∀ (f i j : Nat), listed.getD i false = true → tdepB ops f i j = true → listed.getD j false = true
  | 0, _, _, _, h => by simp [tdepB] at h
  | f + 1, i, j, hi, h => by
    unfold tdepB at h
    rcases ho : ops[i]? with _ | o
    · rw [ho] at h; simp at h
    · rw [ho] at h
      simp only [Array.any_eq_true', Bool.and_eq_true, Bool.or_eq_true, beq_iff_eq] at h
      obtain ⟨e, he, hb, h⟩ := h
      have hd : depB ops i e.on = true := by
        unfold depB
        rw [ho]
        simp only [Array.any_eq_true', Bool.and_eq_true, beq_iff_eq]
        exact ⟨e, he, hb, rfl⟩
      have h1 := hc i e.on hi hd
      rcases h with rfl | h
      · exact h1
      · exact tdep_listed hc f e.on j h1 h
theorem tdep_ready {ops : Array Oper} {listed : Array Bool} (hc : ∀ i j, listed.getD i false = true → depB ops i j = true → listed.getD j false = true) {f t j : Nat} (ht : t ∈ Region.ready .any ops listed) (h : tdepB ops f t j = true) : listed.getD j false = true := by
  cases f with
  | zero => simp [tdepB] at h
  | succ f =>
    unfold tdepB at h
    unfold Region.ready at ht
    rw [List.mem_filter] at ht
    obtain ⟨_, ht⟩ := ht
    rw [Bool.and_eq_true] at ht
    rcases ho : ops[t]? with _ | o
    · rw [ho] at h; simp at h
    · rw [ho] at h
      have h2 := ht.2
      rw [ho] at h2
      simp only [Option.map_some, Option.getD_some, Array.all_eq_true', Bool.or_eq_true] at h2
      simp only [Array.any_eq_true', Bool.and_eq_true, Bool.or_eq_true, beq_iff_eq] at h
      obtain ⟨e, he, hb, h⟩ := h
      have h1 : listed.getD e.on false = true := by
        rcases h2 e he with h3 | h3
        · rw [hb] at h3; cases h3
        · exact h3
      rcases h with rfl | h
      · exact h1
      · exact tdep_listed hc f e.on j h1 h

theorem any_track2 {w : World} (ds : List Nat) (V : List VP) (D : PP) (I : World → Prop) (S : World → World → Prop) (hB : trackB l.toArray ds = true) (hVl : V.length = ds.length)
    (hsz : (ds.all fun d => decide (d < a.tmps.size)) = true) (hst : ∀ j v w w', I w → S w w' → nthV V j v w → nthV V j v w') (hI : I w.drew) (hs : StepsOK2 P a ds V D I S 0 (l.take ds.length))
    (hl : ∀ w', I w' → Lasts w' (fun xs a' => (∀ i j, i < ds.length → j < ds.length → i ≠ j → (depB l.toArray i j = true → D i j (xs.getD i undef) (xs.getD j undef)) ∧ (D i j (xs.getD i undef) (xs.getD j undef) ∨ D j i (xs.getD j undef) (xs.getD i undef))) → wpList P l.toArray Q (l.drop ds.length) a' w') V ds [] a) : wpAny P .any l.toArray Q l.toArray.size (Array.replicate l.toArray.size false) a { w with drawn := w.drawn + 1 } := by
  simp only [trackB, Bool.and_eq_true, Bool.or_eq_true, decide_eq_true_eq, List.all_eq_true, List.mem_range] at hB
  obtain ⟨⟨⟨hsize, htail⟩, hnd⟩, hops⟩ := hB
  have hdlt : ∀ d ∈ ds, d < a.tmps.size := fun d hd => by simpa using (List.all_eq_true.1 hsz) d hd
  -- all listed: the rest
  have hfin : ∀ listed a' w', TrackInv l.toArray a ds V D I listed a' w' → (∀ j, j < ds.length → listed.getD j false = true) → wpList P l.toArray Q (l.drop ds.length) a' w' := by
    intro listed a' w' hJ hall
    refine lasts_elim V ds [] a a' (hl w' hJ.inv) hVl hnd hJ.defers hJ.tmps hdlt hJ.out (fun j d hj => hJ.got j d hj (hall j ?_)) ?_
    · exact (List.getElem?_eq_some_iff.1 hj).1
    · intro i j hi hj hne
      have e : ∀ k (hk : k < ds.length), (([] : List Value) ++ ds.map fun d => a'.eval (.tmp d)).getD k undef = a'.eval (.tmp ds[k]) := by
        intro k hk
        rw [List.nil_append, List.getD_eq_getElem?_getD, List.getElem?_map, List.getElem?_eq_getElem hk]; rfl
      rw [e i hi, e j hj]
      exact hJ.pair i j _ _ (List.getElem?_eq_getElem hi) (List.getElem?_eq_getElem hj) hne (hall i hi) (hall j hj)
  have main : ∀ (fuel : Nat) (listed : Array Bool) (a' : Act) (w' : World), TrackInv l.toArray a ds V D I listed a' w' → listed.toList.count false = fuel → wpAny P .any l.toArray Q fuel listed a' w' := by
    intro fuel
    induction fuel with
    | zero =>
      intro listed a' w' hJ hc
      have hall : ∀ j, j < l.toArray.size → listed.getD j false = true := by
        intro j hj
        have := count_zero hc (i := j) (by rw [Array.length_toList, hJ.size]; exact hj)
        rw [Array.getD_eq_getD_getElem?, ← Array.getElem?_toList, this]; rfl
      have hr : Region.ready .any l.toArray listed = [] := by
        unfold Region.ready
        rw [List.filter_eq_nil_iff]
        intro i hi
        have hi' : i < l.toArray.size := List.mem_range.1 hi
        have := count_zero hc (i := i) (by rw [Array.length_toList, hJ.size]; exact hi')
        simp [Array.getD_eq_getD_getElem?, ← Array.getElem?_toList, this]
      refine ⟨hr, ?_⟩
      rcases Nat.lt_or_ge ds.length l.toArray.size with hn | hn
      · have h1 := hJ.tail ds.length (Nat.le_refl _) hn
        have := count_zero hc (i := ds.length) (by have := hJ.size; have h2 : listed.toList.length = listed.size := Array.length_toList; omega)
        rw [Array.getD_eq_getD_getElem?, ← Array.getElem?_toList, this] at h1
        cases h1
      · have := hfin listed a' w' hJ fun j hj => hall j (by omega)
        rw [List.drop_of_length_le (by simpa using hn)] at this
        exact this
    | succ fuel ih =>
      intro listed a' w' hJ hc
      refine ⟨fun hr => ?_, fun i hi => ?_⟩
      · -- nothing is ready: but the first that is not listed is
        exfalso
        obtain ⟨i, hi, hmin⟩ : ∃ i, (i < l.toArray.size ∧ listed.getD i true = false) ∧ ∀ j, j < i → listed.getD j false = true := by
          have hex : ∃ i, i < l.toArray.size ∧ listed.getD i true = false := by
            have : false ∈ listed.toList := by
              rw [← List.count_pos_iff]; omega
            obtain ⟨i, hi, e⟩ := List.getElem_of_mem this
            refine ⟨i, by rw [← hJ.size]; simpa using hi, ?_⟩
            rw [Array.getD_eq_getD_getElem?, ← Array.getElem?_toList, List.getElem?_eq_getElem hi, e]; rfl
          have key : ∀ n, (∃ i, i < n ∧ i < l.toArray.size ∧ listed.getD i true = false) → ∃ i, (i < l.toArray.size ∧ listed.getD i true = false) ∧ ∀ j, j < i → listed.getD j false = true := by
            intro n
            induction n with
            | zero => rintro ⟨i, hi, _⟩; omega
            | succ n ihn =>
              rintro ⟨i, hi, h1, h2⟩
              by_cases hex' : ∃ i, i < n ∧ i < l.toArray.size ∧ listed.getD i true = false
              · exact ihn hex'
              · have hin : i = n := by
                  rcases Nat.lt_or_ge i n with h | h
                  · exact absurd ⟨i, h, h1, h2⟩ hex'
                  · omega
                subst hin
                refine ⟨i, ⟨h1, h2⟩, fun j hj => ?_⟩
                have hjs : j < listed.size := by rw [hJ.size]; omega
                have : listed.getD j true ≠ false := fun e => hex' ⟨j, hj, by omega, e⟩
                rw [Array.getD_eq_getD_getElem?, Array.getElem?_eq_getElem hjs] at this ⊢
                simpa using this
          obtain ⟨i, h1, h2⟩ := hex
          exact key (i + 1) ⟨i, by omega, h1, h2⟩
        have hmem : i ∈ Region.ready .any l.toArray listed := by
          unfold Region.ready
          rw [List.mem_filter]
          refine ⟨List.mem_range.2 hi.1, ?_⟩
          have hoi := hops i hi.1
          rw [Array.getElem?_eq_getElem hi.1] at hoi ⊢
          simp only [Bool.and_eq_true, Array.all_eq_true', decide_eq_true_eq] at hoi
          simp only [hi.2, Bool.not_false, Bool.true_and, Option.map_some, Option.getD_some, Array.all_eq_true']
          intro e he
          simp only [Bool.or_eq_true]
          exact .inr (hmin _ (hoi.1.2 e he))
        rw [hr] at hmem
        cases hmem
      · unfold Region.ready at hi
        rw [List.mem_filter, List.mem_range] at hi
        obtain ⟨hil, hi⟩ := hi
        rw [Bool.and_eq_true] at hi
        obtain ⟨hun, hdep⟩ := hi
        have hun' : listed.getD i true = false := by simpa using hun
        have hlisti : listed.toList[i]? = some false := by
          have his : i < listed.size := by rw [hJ.size]; exact hil
          rw [Array.getD_eq_getD_getElem?, Array.getElem?_eq_getElem his] at hun'
          rw [Array.getElem?_toList, Array.getElem?_eq_getElem his]
          simpa using hun'
        have hcnt : (listed.setIfInBounds i true).toList.count false = fuel := by
          have := count_set hlisti
          rw [Array.toList_setIfInBounds]; omega
        have hoi := hops i hil
        have hget : l.toArray[i]? = some l.toArray[i] := Array.getElem?_eq_getElem hil
        rw [hget] at hoi hdep
        simp only [Bool.and_eq_true, Array.all_eq_true', decide_eq_true_eq] at hoi
        simp only [Option.map_some, Option.getD_some, Array.all_eq_true', Bool.or_eq_true] at hdep
        obtain ⟨⟨hguard, _⟩, hdst⟩ := hoi
        generalize l.toArray[i] = o at *
        have hwant : Region.wanted o (yielded l.toArray a'.tmps) = true := by
          unfold Region.wanted
          cases hg : o.guard with
          | none => rfl
          | some g => rw [hg] at hguard; simp at hguard
        unfold wpOp
        simp only [hget, hwant, if_true]
        rcases Nat.lt_or_ge i ds.length with hin | hin
        · -- one of the head
          left
          have hdi : ds[i]? = some ds[i] := List.getElem?_eq_getElem hin
          rw [hdi] at hdst
          simp only [Bool.and_eq_true, List.all_eq_true, List.mem_range] at hdst
          obtain ⟨hd1, hd2⟩ := hdst
          have hd1' : o.dst = some ds[i] := by simpa using hd1
          have hstep := steps_at (k := i) hs (o := o) (by rw [List.getElem?_take_of_lt hin]; simpa using hget) 
          rw [Nat.zero_add] at hstep
          have hok := hstep a'.eval w' (fun t ht => eval_out (hJ.out t ht)) (fun _ => rfl) (fun _ => rfl) (fun _ => rfl) hJ.inv (fun j d hj hop => by
            have hjl : j < ds.length := (List.getElem?_eq_some_iff.1 hj).1
            have := hd2 j hjl
            rw [hj] at this
            simp only [hop, Bool.not_true, Bool.false_or, Array.any_eq_true', Bool.and_eq_true, beq_iff_eq] at this
            obtain ⟨e, he, hb, he2⟩ := this
            rcases hdep e he with h | h
            · rw [hb] at h; cases h
            · rw [he2] at h; exact hJ.got j d hj h)
          have hnext : ∀ v w'', I w'' → S w' w'' → nthV V i v w'' → (∀ j d, ds[j]? = some d → j ≠ i → nthV V j (a'.eval (.tmp d)) w' → D i j v (a'.eval (.tmp d))) → wpAny P .any l.toArray Q fuel (listed.setIfInBounds i true) (a'.put o.dst v) w'' := by
            intro v w'' h1 h2 h3 h4
            rw [hd1']
            have hdi' : ds[i] < a'.tmps.size := by rw [hJ.tmps]; exact hdlt _ (List.getElem_mem hin)
            refine ih _ _ _ ⟨h1, by simp [hJ.size], hJ.defers, ?_, ?_, ?_, ?_, ?_, ?_⟩ hcnt
            · show (a'.tmps.setIfInBounds _ _).size = _; simp [hJ.tmps]
            · intro t ht
              show (a'.tmps.setIfInBounds _ _)[t]? = _
              rw [Array.getElem?_setIfInBounds, if_neg (by rintro rfl; exact ht (List.getElem_mem hin))]
              exact hJ.out t ht
            · intro j d hj hlj
              rw [eval_put hdi']
              by_cases e : ds[i] = d
              · have hij : i = j := by
                  have hjl : j < ds.length := (List.getElem?_eq_some_iff.1 hj).1
                  have hj' : ds[j] = d := (List.getElem?_eq_some_iff.1 hj).2
                  exact (List.getElem_inj hnd).1 (e.trans hj'.symm)
                subst hij
                rw [if_pos e]; exact h3
              · rw [if_neg e]
                have hij : i ≠ j := by
                  rintro rfl
                  exact e (List.getElem?_eq_some_iff.1 hj).2
                refine hst j _ w' w'' hJ.inv h2 (hJ.got j d hj ?_)
                rw [Array.getD_eq_getD_getElem?, Array.getElem?_setIfInBounds, if_neg hij] at hlj
                rw [Array.getD_eq_getD_getElem?]; exact hlj
            · intro j hj1 hj2
              have := hJ.tail j hj1 hj2
              rw [Array.getD_eq_getD_getElem?] at this ⊢
              rw [Array.getElem?_setIfInBounds, if_neg (by omega)]; exact this
            · intro p q dp dq hp hq hpq hlp hlq
              have same : ∀ k dk, ds[k]? = some dk → (ds[i] = dk ↔ i = k) := by
                intro k dk hk
                obtain ⟨hkl, hk'⟩ := List.getElem?_eq_some_iff.1 hk
                constructor
                · intro e; exact (List.getElem_inj hnd).1 (e.trans hk'.symm)
                · rintro rfl; exact hk'
              have was : ∀ k, i ≠ k → (listed.setIfInBounds i true).getD k false = true → listed.getD k false = true := by
                intro k hk h
                rw [Array.getD_eq_getD_getElem?, Array.getElem?_setIfInBounds, if_neg hk] at h
                rw [Array.getD_eq_getD_getElem?]; exact h
              rw [eval_put hdi', eval_put hdi']
              by_cases e1 : i = p
              · have e2 : i ≠ q := by omega
                rw [if_pos ((same p dp hp).2 e1), if_neg (fun h => e2 ((same q dq hq).1 h))]
                subst e1
                have h5 := h4 q dq hq (Ne.symm e2) (hJ.got q dq hq (was q e2 hlq))
                exact ⟨fun _ => h5, .inl h5⟩
              · rw [if_neg (fun h => e1 ((same p dp hp).1 h))]
                by_cases e2 : i = q
                · rw [if_pos ((same q dq hq).2 e2)]
                  subst e2
                  refine ⟨fun hdep2 => ?_, .inr (h4 p dp hp (Ne.symm e1) (hJ.got p dp hp (was p e1 hlp)))⟩
                  have := hJ.closed p i (was p e1 hlp) hdep2
                  rw [Array.getD_eq_getD_getElem?, ← Array.getElem?_toList, hlisti] at this
                  cases this
                · rw [if_neg (fun h => e2 ((same q dq hq).1 h))]
                  exact hJ.pair p q dp dq hp hq hpq (was p e1 hlp) (was q e2 hlq)
            · intro p q hlp hdq
              have his : i < listed.size := by rw [hJ.size]; exact hil
              have set_or : ∀ k, listed.getD k false = true → (listed.setIfInBounds i true).getD k false = true := by
                intro k hk
                rw [Array.getD_eq_getD_getElem?, Array.getElem?_setIfInBounds]
                by_cases e : i = k
                · subst e; simp [his]
                · rw [if_neg e, ← Array.getD_eq_getD_getElem?]; exact hk
              by_cases e : i = p
              · subst e
                unfold depB at hdq
                rw [hget] at hdq
                simp only [Array.any_eq_true', Bool.and_eq_true, beq_iff_eq] at hdq
                obtain ⟨e, he, hb, rfl⟩ := hdq
                rcases hdep e he with h | h
                · rw [hb] at h; cases h
                · exact set_or _ h
              · refine set_or q (hJ.closed p q ?_ hdq)
                rw [Array.getD_eq_getD_getElem?, Array.getElem?_setIfInBounds, if_neg e, ← Array.getD_eq_getD_getElem?] at hlp
                exact hlp
          unfold Oper.wp
          revert hok
          generalize (execOp a'.eval o).run P w' = r
          intro hok
          cases r with
          | ok n w'' =>
            cases n with
            | value v => exact hnext v w'' hok.1 hok.2.1 hok.2.2.1 hok.2.2.2
            | enter f args =>
              refine Calls.mono hok ?_
              rintro e w3 ⟨v, rfl, h1, h2, h3, h4⟩
              exact hnext v w3 h1 h2 h3 h4
            | _ => exact hok.elim
          | halt x w'' => exact hok.elim
        · -- the tail
          have hrdy : i ∈ Region.ready .any l.toArray listed := by
            unfold Region.ready
            rw [List.mem_filter]
            refine ⟨List.mem_range.2 hil, ?_⟩
            rw [hget]
            simp only [hun', Bool.not_false, Bool.true_and, Option.map_some, Option.getD_some, Array.all_eq_true', Bool.or_eq_true]
            exact hdep
          have hti := htail i hil
          rcases hti with hti | hti
          · omega
          · have hall : ∀ j, j < i → listed.getD j false = true := fun j hj => tdep_ready hJ.closed hrdy (hti j hj)
            have hie : i = ds.length := by
              rcases Nat.lt_or_ge ds.length i with h | h
              · have h1 := hall _ h
                have h2 := hJ.tail ds.length (Nat.le_refl _) (by omega)
                rw [Array.getD_eq_getD_getElem?] at h1 h2
                cases hx : listed[ds.length]? with
                | none => rw [hx] at h1; cases h1
                | some x => rw [hx] at h1 h2; simp at h1 h2; rw [h1] at h2; cases h2
              · omega
            have h := hfin listed a' w' hJ (fun j hj => hall j (by omega))
            have seq : ∀ (t : Nat) (listed : Array Bool) (b : Act) (v : World), t ≤ l.toArray.size → ds.length ≤ t → listed.size = l.toArray.size → (∀ j, j < t → listed.getD j false = true) → (∀ j, t ≤ j → j < l.toArray.size → listed.getD j true = false) → wpList P l.toArray Q (l.drop t) b v → wpAny P .any l.toArray Q (l.toArray.size - t) listed b v := by
              intro t
              generalize hk : l.toArray.size - t = k
              induction k generalizing t with
              | zero =>
                intro listed b v ht hdt hls h1 h2 hw
                have hte : t = l.toArray.size := by omega
                have hr : Region.ready .any l.toArray listed = [] := by
                  unfold Region.ready
                  rw [List.filter_eq_nil_iff]
                  intro j hj
                  have hj' : j < l.toArray.size := List.mem_range.1 hj
                  have h3 := h1 j (by omega)
                  have hjs : j < listed.size := by omega
                  rw [Array.getD_eq_getD_getElem?, Array.getElem?_eq_getElem hjs] at h3
                  have h4 : listed.getD j true = true := by rw [Array.getD_eq_getD_getElem?, Array.getElem?_eq_getElem hjs]; simpa using h3
                  simp [h4]
                refine ⟨hr, ?_⟩
                rw [List.drop_of_length_le (by simpa using Nat.le_of_eq hte.symm)] at hw
                exact hw
              | succ k ihk =>
                intro listed b v ht hdt hls h1 h2 hw
                have htl : t < l.toArray.size := by omega
                have hgt : l.toArray[t]? = some l.toArray[t] := Array.getElem?_eq_getElem htl
                have hot := hops t htl
                rw [hgt] at hot
                simp only [Bool.and_eq_true, Array.all_eq_true', decide_eq_true_eq] at hot
                have hcl : ∀ i j, listed.getD i false = true → depB l.toArray i j = true → listed.getD j false = true := by
                  intro i j hi hd
                  unfold depB at hd
                  rcases Nat.lt_or_ge i l.toArray.size with hil2 | hil2
                  · have hit : i < t := by
                      rcases Nat.lt_or_ge i t with h | h
                      · exact h
                      · have h3 := h2 i h hil2
                        rw [Array.getD_eq_getD_getElem?] at hi h3
                        cases hx : listed[i]? with
                        | none => rw [hx] at hi; cases hi
                        | some x => rw [hx] at hi h3; simp at hi h3; rw [hi] at h3; cases h3
                    have hgi : l.toArray[i]? = some l.toArray[i] := Array.getElem?_eq_getElem hil2
                    rw [hgi] at hd
                    have hoi2 := hops i hil2
                    rw [hgi] at hoi2
                    simp only [Bool.and_eq_true, Array.all_eq_true', decide_eq_true_eq] at hoi2
                    simp only [Array.any_eq_true', Bool.and_eq_true, beq_iff_eq] at hd
                    obtain ⟨e, he, hb, rfl⟩ := hd
                    exact h1 _ (by have := hoi2.1.2 e he; omega)
                  · rw [Array.getElem?_eq_none (by omega)] at hd; cases hd
                have hr : ∀ j ∈ Region.ready .any l.toArray listed, j = t := by
                  intro j hj
                  have hj' := hj
                  unfold Region.ready at hj
                  rw [List.mem_filter, List.mem_range, Bool.and_eq_true] at hj
                  rcases Nat.lt_trichotomy j t with h | h | h
                  · have h3 := h1 j h
                    have hjs : j < listed.size := by omega
                    have h4 := hj.2.1
                    rw [Array.getD_eq_getD_getElem?, Array.getElem?_eq_getElem hjs] at h3 h4
                    simp at h3 h4; rw [h3] at h4; cases h4
                  · exact h
                  · rcases htail j hj.1 with h5 | h5
                    · omega
                    · have h6 := tdep_ready hcl hj' (h5 t h)
                      have h7 := h2 t (Nat.le_refl _) htl
                      rw [Array.getD_eq_getD_getElem?] at h6 h7
                      cases hx : listed[t]? with
                      | none => rw [hx] at h6; cases h6
                      | some x => rw [hx] at h6 h7; simp at h6 h7; rw [h6] at h7; cases h7
                refine ⟨fun hr0 => ?_, fun j hj => ?_⟩
                · exfalso
                  have : t ∈ Region.ready .any l.toArray listed := by
                    unfold Region.ready
                    rw [List.mem_filter]
                    refine ⟨List.mem_range.2 htl, ?_⟩
                    rw [hgt]
                    simp only [h2 t (Nat.le_refl _) htl, Bool.not_false, Bool.true_and, Option.map_some, Option.getD_some, Array.all_eq_true', Bool.or_eq_true]
                    exact fun e he => .inr (h1 _ (hot.1.2 e he))
                  rw [hr0] at this; cases this
                · have hjt := hr j hj
                  subst hjt
                  have hdrop : l.drop j = l.toArray[j] :: l.drop (j + 1) := by
                    rw [List.drop_eq_getElem_cons (by simpa using htl)]; simp
                  rw [hdrop] at hw
                  unfold wpOp
                  simp only [hgt]
                  unfold wpList at hw
                  have next : ∀ b' v', wpList P l.toArray Q (l.drop (j + 1)) b' v' → wpAny P .any l.toArray Q k (listed.setIfInBounds j true) b' v' := by
                    intro b' v' hq
                    refine ihk (j + 1) (by omega) _ b' v' (by omega) (by omega) (by simp [hls]) ?_ ?_ hq
                    · intro q hqj
                      rw [Array.getD_eq_getD_getElem?, Array.getElem?_setIfInBounds]
                      by_cases e : j = q
                      · subst e; rw [if_pos rfl, if_pos (by omega)]; rfl
                      · rw [if_neg e, ← Array.getD_eq_getD_getElem?]; exact h1 q (by omega)
                    · intro q hq1 hq2
                      rw [Array.getD_eq_getD_getElem?, Array.getElem?_setIfInBounds, if_neg (by omega), ← Array.getD_eq_getD_getElem?]
                      exact h2 q (by omega) hq2
                  split at hw
                  · rename_i hwn
                    simp only [hwn, if_true]
                    exact hw.imp (Oper.wp_mono next) (fun h => h)
                  · rename_i hwn
                    simp only [hwn]
                    exact next _ _ hw
            have hlst : ∀ j, ds.length ≤ j → j < l.toArray.size → listed.getD j true = false := hJ.tail
            have hany := seq ds.length listed a' w' (by omega) (Nat.le_refl _) hJ.size (fun j hj => hall j (by omega)) hlst h
            have hfu : l.toArray.size - ds.length = fuel + 1 := by
              have hcc : listed.toList.count false = l.toArray.size - ds.length := by
                have : listed.toList = List.replicate ds.length true ++ List.replicate (l.toArray.size - ds.length) false := by
                  refine List.ext_getElem? fun j => ?_
                  rw [Array.getElem?_toList]
                  rcases Nat.lt_or_ge j l.toArray.size with hj | hj
                  · have hjs : j < listed.size := by rw [hJ.size]; exact hj
                    rw [Array.getElem?_eq_getElem hjs]
                    rcases Nat.lt_or_ge j ds.length with hjd | hjd
                    · have h3 := hall j (by omega)
                      rw [Array.getD_eq_getD_getElem?, Array.getElem?_eq_getElem hjs] at h3
                      rw [List.getElem?_append_left (by simpa using hjd), List.getElem?_replicate, if_pos hjd]
                      simpa using h3
                    · have h3 := hlst j hjd hj
                      rw [Array.getD_eq_getD_getElem?, Array.getElem?_eq_getElem hjs] at h3
                      rw [List.getElem?_append_right (by simpa using hjd), List.getElem?_replicate, List.length_replicate, if_pos (by omega)]
                      simpa using h3
                  · rw [Array.getElem?_eq_none (by rw [hJ.size]; exact hj), List.getElem?_eq_none (by rw [List.length_append, List.length_replicate, List.length_replicate]; omega)]
                rw [this, List.count_append, List.count_replicate, List.count_replicate]; simp
              omega
            rw [hfu] at hany
            have := hany.2 i hrdy
            unfold wpOp at this
            simp only [hget, hwant, if_true] at this
            exact this
  refine main _ _ _ _ ⟨hI, by simp, rfl, rfl, fun _ _ => rfl, fun j d hj h => ?_, fun j h1 h2 => ?_, fun i j _ _ _ _ _ h => ?_, fun i j h => ?_⟩ ?_
  · rw [Array.getD_eq_getD_getElem?, Array.getElem?_replicate] at h
    split at h <;> cases h
  · rw [Array.getD_eq_getD_getElem?, Array.getElem?_replicate, if_pos h2]; rfl
  · rw [Array.getD_eq_getD_getElem?, Array.getElem?_replicate] at h
    split at h <;> cases h
  · rw [Array.getD_eq_getD_getElem?, Array.getElem?_replicate] at h
    split at h <;> cases h
  · simp

theorem wp_region_track2 {id : Nat} {w : World} (ds : List Nat) (V : List VP) (D : PP) (I : World → Prop) (S : World → World → Prop) (hm : P.follows .mixedOrders = true) (hB : trackB l.toArray ds = true) (hVl : V.length = ds.length)
    (hsz : (ds.all fun d => decide (d < a.tmps.size)) = true) (hst : ∀ j v w w', I w → S w w' → nthV V j v w → nthV V j v w') (hI : I w.drew) (hs : StepsOK2 P a ds V D I S 0 (l.take ds.length))
    (hl : ∀ w', I w' → Lasts w' (fun xs a' => (∀ i j, i < ds.length → j < ds.length → i ≠ j → (depB l.toArray i j = true → D i j (xs.getD i undef) (xs.getD j undef)) ∧ (D i j (xs.getD i undef) (xs.getD j undef) ∨ D j i (xs.getD j undef) (xs.getD i undef))) → wpList P l.toArray Q (l.drop ds.length) a' w') V ds [] a) : (Code.region id l.toArray true).wp P Q a w :=
  wp_region_any hm (any_track2 ds V D I S hB hVl hsz hst hI hs hl)

theorem lasts_one {w : World} {G : Act → Prop} {G' : List Value → Act → Prop} (h : ∀ xs a, G a → G' xs a) : ∀ (V : List VP) (ds : List Nat) (xs : List Value) (a : Act), Lasts w (fun _ => G) V ds xs a → Lasts w G' V ds xs a
  | [], _, _, _, hl => h _ _ hl
  | _ :: _, [], _, _, hl => h _ _ hl
  | _ :: vs, _ :: ds, _, _, hl => fun x hx => lasts_one h vs ds _ _ (hl x hx)
theorem wp_region_track {id : Nat} {w : World} (ds : List Nat) (V : List VP) (I : World → Prop) (S : World → World → Prop) (hm : P.follows .mixedOrders = true) (hB : trackB l.toArray ds = true) (hVl : V.length = ds.length)
    (hsz : (ds.all fun d => decide (d < a.tmps.size)) = true) (hst : ∀ j v w w', I w → S w w' → nthV V j v w → nthV V j v w') (hI : I w.drew) (hs : StepsOK P a ds V I S 0 (l.take ds.length))
    (hl : ∀ w', I w' → Lasts w' (fun _ a' => wpList P l.toArray Q (l.drop ds.length) a' w') V ds [] a) : (Code.region id l.toArray true).wp P Q a w :=
  wp_region_track2 ds V (fun _ _ _ _ => True) I S hm hB hVl hsz hst hI (steps_two _ (fun _ _ _ _ => trivial) hs) (fun w' h => lasts_one (fun _ _ hg _ => hg) _ _ _ _ (hl w' h))
theorem any_track {w : World} (ds : List Nat) (V : List VP) (I : World → Prop) (S : World → World → Prop) (hB : trackB l.toArray ds = true) (hVl : V.length = ds.length)
    (hsz : (ds.all fun d => decide (d < a.tmps.size)) = true) (hst : ∀ j v w w', I w → S w w' → nthV V j v w → nthV V j v w') (hI : I w.drew) (hs : StepsOK P a ds V I S 0 (l.take ds.length))
    (hl : ∀ w', I w' → Lasts w' (fun _ a' => wpList P l.toArray Q (l.drop ds.length) a' w') V ds [] a) : wpAny P .any l.toArray Q l.toArray.size (Array.replicate l.toArray.size false) a { w with drawn := w.drawn + 1 } :=
  any_track2 ds V (fun _ _ _ _ => True) I S hB hVl hsz hst hI (steps_two _ (fun _ _ _ _ => trivial) hs) (fun w' h => lasts_one (fun _ _ hg _ => hg) _ _ _ _ (hl w' h))

end
end Go.Proofs.Ytllblmndoigdlaa

/- steps of a region that draws its order -/
namespace Go.Proofs.Ytllblmndoigdlaa
open Go Go.RowKit

section
variable {P : Program}
theorem wpList_none {ops : Array Oper} {Q : Exit → Act → World → Prop} {a : Act} {w : World} : wpList P ops Q [] a w = Q .normal a w := rfl
theorem opok_gen {N0 : Value → World → Prop} {r : Result Next} (h : ∀ N : Value → World → Prop, Hid (∀ v w', N0 v w' → N v w') → OpOK P N r) : OpOK P N0 r := h N0 (Lib.hid fun _ _ h => h)
theorem opok_val {N : Value → World → Prop} {v : Value} {w' : World} (h : N v w') : OpOK P N (.ok (.value v) w') := h
theorem opok_call {N : Value → World → Prop} {f : FuncId} {args : Array Value} {w' : World} (h : Calls P f args w' (fun e w'' => ∃ v, e = .returned v ∧ N v w'')) : OpOK P N (.ok (.enter f args) w') := h
theorem opok_move {ev : Operand → Value} {N : Value → World → Prop} {o : Oper} {w : World} (x : Operand) (h : o.op = .move x) (hk : N (ev x) w) : OpOK P N ((execOp ev o).run P w) := by
  simp only [execOp, h, Sem.run_pure]; exact hk
theorem opok_assign {ev : Operand → Value} {N : Value → World → Prop} {o : Oper} {w : World} (x : Operand) (h : o.op = .assign x) (hk : N (ev x) w) : OpOK P N ((execOp ev o).run P w) := by
  simp only [execOp, h, Sem.run_pure]; exact hk
def Stb (S : World → World → Prop) (p : VP) : Prop := ∀ v w w', S w w' → p v w → p v w'
def StbL (S : World → World → Prop) : List VP → Prop
  | [] => True
  | p :: V => Stb S p ∧ StbL S V
theorem StbL.nth {S : World → World → Prop} : ∀ {V : List VP}, StbL S V → ∀ j v w w', S w w' → nthV V j v w → nthV V j v w'
  | [], _, _, _, _, _, _, _ => trivial
  | _ :: _, h, 0, v, w, w', hs, hv => h.1 v w w' hs hv
  | _ :: V, h, j + 1, v, w, w', hs, hv => by
    have := StbL.nth (V := V) h.2 j v w w' hs (by simpa [nthV] using hv)
    simpa [nthV] using this
theorem stb_eqv {S : World → World → Prop} (c : Value) : Stb S (eqv c) := fun _ _ _ _ h => h

end

/-- worlds that grow -/
def Grw (w w' : World) : Prop := Below w.heap.size w w'
/-- a row of the call's own, in a block from B on -/
def isRow (B n c : Nat) (zs : List Int) : VP := fun v w => ∃ b, v = .slice (some ⟨b, 0, none⟩) n c ∧ Own w (some ⟨b, 0, none⟩) n c zs ∧ B ≤ b
theorem stb_row {B n c : Nat} {zs : List Int} : Stb Grw (isRow B n c zs) := by
  rintro v w w' h ⟨b, rfl, ho, hb⟩
  exact ⟨b, rfl, ho.later h, hb⟩
/-- a box in a block from B on -/
def isBox (B : Nat) (cs : Array Value) (T : TypeId) : VP := fun v w => ∃ b, v = .pointer (some ⟨b, 0, none⟩) ∧ w.heap[b]? = some (.cells cs T (0, 0)) ∧ B ≤ b
theorem stb_box {B : Nat} {cs : Array Value} {T : TypeId} : Stb Grw (isBox B cs T) := by
  rintro v w w' h ⟨b, rfl, hh, hb⟩
  exact ⟨b, rfl, (h.block b (Array.getElem?_eq_some_iff.1 hh).1).trans hh, hb⟩
/-- the block of a row or a box -/
def blkOf : Value → Option Nat
  | .slice (some a) _ _ => some a.block
  | .pointer (some a) => some a.block
  | _ => none
theorem row_blk {B n c : Nat} {zs : List Int} {v : Value} {w : World} (h : isRow B n c zs v w) : ∃ b, blkOf v = some b ∧ b < w.heap.size := by
  obtain ⟨b, rfl, ho, _⟩ := h
  exact ⟨b, rfl, ho.lt _ rfl⟩
theorem box_blk {B : Nat} {cs : Array Value} {T : TypeId} {v : Value} {w : World} (h : isBox B cs T v w) : ∃ b, blkOf v = some b ∧ b < w.heap.size := by
  obtain ⟨b, rfl, hh, _⟩ := h
  exact ⟨b, rfl, (Array.getElem?_eq_some_iff.1 hh).1⟩

/-- make([]int64, n) -/
theorem opok_make {ev : Operand → Value} {o : Oper} {w : World} {N : Value → World → Prop} (l c : Operand) (hop : o.op = Op.makeSlice 28 l c) (n : Nat) (hl : ev l = .int .i64 n) (hc : ev c = .int .i64 n) (hn : n ≤ 17592186044416)
    (h : ∀ w', Own w' (some ⟨w.heap.size, 0, none⟩) n n (List.replicate n 0) → Below w.heap.size w w' → N (.slice (some ⟨w.heap.size, 0, none⟩) n n) w') : OpOK Try.prog N ((execOp ev o).run Try.prog w) := by
  obtain ⟨i, hi, h1, h2, h3⟩ := info_parts info_int64
  obtain ⟨w', hr, ho, hgr⟩ := run_make_full (P := Try.prog) w 0 28 2 i (.int .i64 0) 1 Try.underlying28 hi h1 h2 .i64 .i64 n (by rw [h3]; omega) (by unfold maxLen; omega) (Nat.zero_le _)
  simp only [execOp, hop, hl, hc, Sem.run_bind, hr, Result.andThen_ok, Sem.run_pure]
  refine h w' ⟨?_, fun z hz => ?_⟩ ((Below.refl _ _).grown hgr (Nat.le_refl _) (by simp))
  · have e : (madeCells (Value.int .i64 0).cells (n * 1)).toList = (List.replicate n (0 : Int)).map (Value.int .i64) := by
      rw [Nat.mul_one, List.map_replicate]; exact toList_madeCells_one _ _
    rw [← e]; exact ho
  · rw [List.eq_of_mem_replicate hz]; exact ⟨by omega, by omega⟩
theorem own_lit (w : World) (z : Int) (hz : I64 z) : Own (w.alloc (.cells #[.int .i64 z] 2)) (some ⟨w.heap.size, 0, none⟩) 1 1 [z] :=
  ⟨⟨by simp, .inr ⟨w.heap.size, 1, #[.int .i64 z], rfl, Nat.zero_le _, heap_alloc_new w _, Nat.le_refl _, by decide, rfl, rfl⟩⟩, by simpa using hz⟩

end Go.Proofs.Ytllblmndoigdlaa
