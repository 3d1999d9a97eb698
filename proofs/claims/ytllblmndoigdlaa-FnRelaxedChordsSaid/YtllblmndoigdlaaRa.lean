/- regions that draw their order, tracked: with edges that bind in one order alone -/
import Derived.Test.YtllblmndoigdlaaTrk
import Derived.Test.YtllblmndoigdlaaR5
import Derived.Test.YtllblmndoigdlaaR8
import Derived.Test.YtllblmndoigdlaaF6
import Derived.Test.YtllblmndoigdlaaJ4
namespace Go.Proofs.Ytllblmndoigdlaa
open Go Go.RowKit

def trackC (ops : Array Oper) (ds : List Nat) : Bool :=
  decide (ds.length ≤ ops.size) && ((List.range ops.size).all fun t => decide (t < ds.length) || (List.range t).all fun j => tdepB ops ops.size t j) && decide ds.Nodup &&
  ((List.range ops.size).all fun i => match ops[i]? with
    | some o => o.guard.isNone && (o.after.all fun e => !Region.binds .any e || decide (e.on < i)) && (match ds[i]? with
      | some d => o.dst == some d && ((List.range ds.length).all fun j => match ds[j]? with
        | some dj => !(o.op.operands.toList.any fun x => match x with | .tmp t => t == dj | _ => false) || o.after.any fun e => Region.binds .any e && e.on == j
        | none => true)
      | none => true)
    | none => true)

section
variable {P : Program} {l : List Oper} {Q : Exit → Act → World → Prop} {a : Act} {ds : List Nat} {V : List VP} {I : World → Prop} {S : World → World → Prop}

theorem any_trackC {w : World} (ds : List Nat) (V : List VP) (D : PP) (I : World → Prop) (S : World → World → Prop) (hB : trackC l.toArray ds = true) (hVl : V.length = ds.length)
    (hsz : (ds.all fun d => decide (d < a.tmps.size)) = true) (hst : ∀ j v w w', I w → S w w' → nthV V j v w → nthV V j v w') (hI : I w.drew) (hs : StepsOK2 P a ds V D I S 0 (l.take ds.length))
    (hl : ∀ w', I w' → Lasts w' (fun xs a' => (∀ i j, i < ds.length → j < ds.length → i ≠ j → (depB l.toArray i j = true → D i j (xs.getD i undef) (xs.getD j undef)) ∧ (D i j (xs.getD i undef) (xs.getD j undef) ∨ D j i (xs.getD j undef) (xs.getD i undef))) → wpList P l.toArray Q (l.drop ds.length) a' w') V ds [] a) : wpAny P .any l.toArray Q l.toArray.size (Array.replicate l.toArray.size false) a { w with drawn := w.drawn + 1 } := by
  simp only [trackC, Bool.and_eq_true, Bool.or_eq_true, decide_eq_true_eq, List.all_eq_true, List.mem_range] at hB
  obtain ⟨⟨⟨hsize, htail⟩, hnd⟩, hops⟩ := hB
  have hdlt : ∀ d ∈ ds, d < a.tmps.size := fun d hd => by simpa using (List.all_eq_true.1 hsz) d hd
  -- all listed: the rest
  have hfin : ∀ listed a' w', TrackInv l.toArray a ds V D I listed a' w' → (∀ j, j < ds.length → listed.getD j false = true) → wpList P l.toArray Q (l.drop ds.length) a' w' := by
    intro listed a' w' hJ hall
    refine lasts_elim V ds [] a a' (hl w' hJ.inv) hVl hnd hJ.defers hJ.tmps hdlt hJ.out (fun j d hj => hJ.got j d hj (hall j ?_)) ?_
    · exact (List.getElem?_eq_some_iff.1 hj).1
    · intro i j hi hj hne
      have e : ∀ k (hk : k < ds.length), (([] : List Value) ++ ds.map fun d => a'.eval (.tmp d)).getD k undef = a'.eval (.tmp ds[k]) := by
        intro k hk
        rw [List.nil_append, List.getD_eq_getElem?_getD, List.getElem?_map, List.getElem?_eq_getElem hk]; rfl
      rw [e i hi, e j hj]
      exact hJ.pair i j _ _ (List.getElem?_eq_getElem hi) (List.getElem?_eq_getElem hj) hne (hall i hi) (hall j hj)
  have main : ∀ (fuel : Nat) (listed : Array Bool) (a' : Act) (w' : World), TrackInv l.toArray a ds V D I listed a' w' → listed.toList.count false = fuel → wpAny P .any l.toArray Q fuel listed a' w' := by
    intro fuel
    induction fuel with
    | zero =>
      intro listed a' w' hJ hc
      have hall : ∀ j, j < l.toArray.size → listed.getD j false = true := by
        intro j hj
        have := count_zero hc (i := j) (by rw [Array.length_toList, hJ.size]; exact hj)
        rw [Array.getD_eq_getD_getElem?, ← Array.getElem?_toList, this]; rfl
      have hr : Region.ready .any l.toArray listed = [] := by
        unfold Region.ready
        rw [List.filter_eq_nil_iff]
        intro i hi
        have hi' : i < l.toArray.size := List.mem_range.1 hi
        have := count_zero hc (i := i) (by rw [Array.length_toList, hJ.size]; exact hi')
        simp [Array.getD_eq_getD_getElem?, ← Array.getElem?_toList, this]
      refine ⟨hr, ?_⟩
      rcases Nat.lt_or_ge ds.length l.toArray.size with hn | hn
      · have h1 := hJ.tail ds.length (Nat.le_refl _) hn
        have := count_zero hc (i := ds.length) (by have := hJ.size; have h2 : listed.toList.length = listed.size := Array.length_toList; omega)
        rw [Array.getD_eq_getD_getElem?, ← Array.getElem?_toList, this] at h1
        cases h1
      · have := hfin listed a' w' hJ fun j hj => hall j (by omega)
        rw [List.drop_of_length_le (by simpa using hn)] at this
        exact this
    | succ fuel ih =>
      intro listed a' w' hJ hc
      refine ⟨fun hr => ?_, fun i hi => ?_⟩
      · -- nothing is ready: but the first that is not listed is
        exfalso
        obtain ⟨i, hi, hmin⟩ : ∃ i, (i < l.toArray.size ∧ listed.getD i true = false) ∧ ∀ j, j < i → listed.getD j false = true := by
          have hex : ∃ i, i < l.toArray.size ∧ listed.getD i true = false := by
            have : false ∈ listed.toList := by
              rw [← List.count_pos_iff]; omega
            obtain ⟨i, hi, e⟩ := List.getElem_of_mem this
            refine ⟨i, by rw [← hJ.size]; simpa using hi, ?_⟩
            rw [Array.getD_eq_getD_getElem?, ← Array.getElem?_toList, List.getElem?_eq_getElem hi, e]; rfl
          have key : ∀ n, (∃ i, i < n ∧ i < l.toArray.size ∧ listed.getD i true = false) → ∃ i, (i < l.toArray.size ∧ listed.getD i true = false) ∧ ∀ j, j < i → listed.getD j false = true := by
            intro n
            induction n with
            | zero => rintro ⟨i, hi, _⟩; omega
            | succ n ihn =>
              rintro ⟨i, hi, h1, h2⟩
              by_cases hex' : ∃ i, i < n ∧ i < l.toArray.size ∧ listed.getD i true = false
              · exact ihn hex'
              · have hin : i = n := by
                  rcases Nat.lt_or_ge i n with h | h
                  · exact absurd ⟨i, h, h1, h2⟩ hex'
                  · omega
                subst hin
                refine ⟨i, ⟨h1, h2⟩, fun j hj => ?_⟩
                have hjs : j < listed.size := by rw [hJ.size]; omega
                have : listed.getD j true ≠ false := fun e => hex' ⟨j, hj, by omega, e⟩
                rw [Array.getD_eq_getD_getElem?, Array.getElem?_eq_getElem hjs] at this ⊢
                simpa using this
          obtain ⟨i, h1, h2⟩ := hex
          exact key (i + 1) ⟨i, by omega, h1, h2⟩
        have hmem : i ∈ Region.ready .any l.toArray listed := by
          unfold Region.ready
          rw [List.mem_filter]
          refine ⟨List.mem_range.2 hi.1, ?_⟩
          have hoi := hops i hi.1
          rw [Array.getElem?_eq_getElem hi.1] at hoi ⊢
          simp only [Bool.and_eq_true, Array.all_eq_true'] at hoi
          simp only [hi.2, Bool.not_false, Bool.true_and, Option.map_some, Option.getD_some, Array.all_eq_true']
          intro e he
          simp only [Bool.or_eq_true]
          have h9 := hoi.1.2 e he
          rw [Bool.or_eq_true] at h9
          rcases h9 with h9 | h9
          · exact .inl h9
          · exact .inr (hmin _ (of_decide_eq_true h9))
        rw [hr] at hmem
        cases hmem
      · unfold Region.ready at hi
        rw [List.mem_filter, List.mem_range] at hi
        obtain ⟨hil, hi⟩ := hi
        rw [Bool.and_eq_true] at hi
        obtain ⟨hun, hdep⟩ := hi
        have hun' : listed.getD i true = false := by simpa using hun
        have hlisti : listed.toList[i]? = some false := by
          have his : i < listed.size := by rw [hJ.size]; exact hil
          rw [Array.getD_eq_getD_getElem?, Array.getElem?_eq_getElem his] at hun'
          rw [Array.getElem?_toList, Array.getElem?_eq_getElem his]
          simpa using hun'
        have hcnt : (listed.setIfInBounds i true).toList.count false = fuel := by
          have := count_set hlisti
          rw [Array.toList_setIfInBounds]; omega
        have hoi := hops i hil
        have hget : l.toArray[i]? = some l.toArray[i] := Array.getElem?_eq_getElem hil
        rw [hget] at hoi hdep
        simp only [Bool.and_eq_true, Array.all_eq_true'] at hoi
        simp only [Option.map_some, Option.getD_some, Array.all_eq_true', Bool.or_eq_true] at hdep
        obtain ⟨⟨hguard, _⟩, hdst⟩ := hoi
        generalize l.toArray[i] = o at *
        have hwant : Region.wanted o (yielded l.toArray a'.tmps) = true := by
          unfold Region.wanted
          cases hg : o.guard with
          | none => rfl
          | some g => rw [hg] at hguard; simp at hguard
        unfold wpOp
        simp only [hget, hwant, if_true]
        rcases Nat.lt_or_ge i ds.length with hin | hin
        · -- one of the head
          left
          have hdi : ds[i]? = some ds[i] := List.getElem?_eq_getElem hin
          rw [hdi] at hdst
          simp only [Bool.and_eq_true, List.all_eq_true, List.mem_range] at hdst
          obtain ⟨hd1, hd2⟩ := hdst
          have hd1' : o.dst = some ds[i] := by simpa using hd1
          have hstep := steps_at (k := i) hs (o := o) (by rw [List.getElem?_take_of_lt hin]; simpa using hget) 
          rw [Nat.zero_add] at hstep
          have hok := hstep a'.eval w' (fun t ht => eval_out (hJ.out t ht)) (fun _ => rfl) (fun _ => rfl) (fun _ => rfl) hJ.inv (fun j d hj hop => by
            have hjl : j < ds.length := (List.getElem?_eq_some_iff.1 hj).1
            have := hd2 j hjl
            rw [hj] at this
            have hop' : (o.op.operands.toList.any fun x => match x with | .tmp t => t == d | _ => false) = true := hop
            simp only [hop', Bool.not_true, Bool.false_or, Array.any_eq_true', Bool.and_eq_true, beq_iff_eq] at this
            obtain ⟨e, he, hb, he2⟩ := this
            rcases hdep e he with h | h
            · rw [hb] at h; cases h
            · rw [he2] at h; exact hJ.got j d hj h)
          have hnext : ∀ v w'', I w'' → S w' w'' → nthV V i v w'' → (∀ j d, ds[j]? = some d → j ≠ i → nthV V j (a'.eval (.tmp d)) w' → D i j v (a'.eval (.tmp d))) → wpAny P .any l.toArray Q fuel (listed.setIfInBounds i true) (a'.put o.dst v) w'' := by
            intro v w'' h1 h2 h3 h4
            rw [hd1']
            have hdi' : ds[i] < a'.tmps.size := by rw [hJ.tmps]; exact hdlt _ (List.getElem_mem hin)
            refine ih _ _ _ ⟨h1, by simp [hJ.size], hJ.defers, ?_, ?_, ?_, ?_, ?_, ?_⟩ hcnt
            · show (a'.tmps.setIfInBounds _ _).size = _; simp [hJ.tmps]
            · intro t ht
              show (a'.tmps.setIfInBounds _ _)[t]? = _
              rw [Array.getElem?_setIfInBounds, if_neg (by rintro rfl; exact ht (List.getElem_mem hin))]
              exact hJ.out t ht
            · intro j d hj hlj
              rw [eval_put hdi']
              by_cases e : ds[i] = d
              · have hij : i = j := by
                  have hjl : j < ds.length := (List.getElem?_eq_some_iff.1 hj).1
                  have hj' : ds[j] = d := (List.getElem?_eq_some_iff.1 hj).2
                  exact (List.getElem_inj hnd).1 (e.trans hj'.symm)
                subst hij
                rw [if_pos e]; exact h3
              · rw [if_neg e]
                have hij : i ≠ j := by
                  rintro rfl
                  exact e (List.getElem?_eq_some_iff.1 hj).2
                refine hst j _ w' w'' hJ.inv h2 (hJ.got j d hj ?_)
                rw [Array.getD_eq_getD_getElem?, Array.getElem?_setIfInBounds, if_neg hij] at hlj
                rw [Array.getD_eq_getD_getElem?]; exact hlj
            · intro j hj1 hj2
              have := hJ.tail j hj1 hj2
              rw [Array.getD_eq_getD_getElem?] at this ⊢
              rw [Array.getElem?_setIfInBounds, if_neg (by omega)]; exact this
            · intro p q dp dq hp hq hpq hlp hlq
              have same : ∀ k dk, ds[k]? = some dk → (ds[i] = dk ↔ i = k) := by
                intro k dk hk
                obtain ⟨hkl, hk'⟩ := List.getElem?_eq_some_iff.1 hk
                constructor
                · intro e; exact (List.getElem_inj hnd).1 (e.trans hk'.symm)
                · rintro rfl; exact hk'
              have was : ∀ k, i ≠ k → (listed.setIfInBounds i true).getD k false = true → listed.getD k false = true := by
                intro k hk h
                rw [Array.getD_eq_getD_getElem?, Array.getElem?_setIfInBounds, if_neg hk] at h
                rw [Array.getD_eq_getD_getElem?]; exact h
              rw [eval_put hdi', eval_put hdi']
              by_cases e1 : i = p
              · have e2 : i ≠ q := by omega
                rw [if_pos ((same p dp hp).2 e1), if_neg (fun h => e2 ((same q dq hq).1 h))]
                subst e1
                have h5 := h4 q dq hq (Ne.symm e2) (hJ.got q dq hq (was q e2 hlq))
                exact ⟨fun _ => h5, .inl h5⟩
              · rw [if_neg (fun h => e1 ((same p dp hp).1 h))]
                by_cases e2 : i = q
                · rw [if_pos ((same q dq hq).2 e2)]
                  subst e2
                  refine ⟨fun hdep2 => ?_, .inr (h4 p dp hp (Ne.symm e1) (hJ.got p dp hp (was p e1 hlp)))⟩
                  have := hJ.closed p i (was p e1 hlp) hdep2
                  rw [Array.getD_eq_getD_getElem?, ← Array.getElem?_toList, hlisti] at this
                  cases this
                · rw [if_neg (fun h => e2 ((same q dq hq).1 h))]
                  exact hJ.pair p q dp dq hp hq hpq (was p e1 hlp) (was q e2 hlq)
            · intro p q hlp hdq
              have his : i < listed.size := by rw [hJ.size]; exact hil
              have set_or : ∀ k, listed.getD k false = true → (listed.setIfInBounds i true).getD k false = true := by
                intro k hk
                rw [Array.getD_eq_getD_getElem?, Array.getElem?_setIfInBounds]
                by_cases e : i = k
                · subst e; simp [his]
                · rw [if_neg e, ← Array.getD_eq_getD_getElem?]; exact hk
              by_cases e : i = p
              · subst e
                unfold depB at hdq
                rw [hget] at hdq
                simp only [Array.any_eq_true', Bool.and_eq_true, beq_iff_eq] at hdq
                obtain ⟨e, he, hb, rfl⟩ := hdq
                rcases hdep e he with h | h
                · rw [hb] at h; cases h
                · exact set_or _ h
              · refine set_or q (hJ.closed p q ?_ hdq)
                rw [Array.getD_eq_getD_getElem?, Array.getElem?_setIfInBounds, if_neg e, ← Array.getD_eq_getD_getElem?] at hlp
                exact hlp
          unfold Oper.wp
          revert hok
          generalize (execOp a'.eval o).run P w' = r
          intro hok
          cases r with
          | ok n w'' =>
            cases n with
            | value v => exact hnext v w'' hok.1 hok.2.1 hok.2.2.1 hok.2.2.2
            | enter f args =>
              refine Calls.mono hok ?_
              rintro e w3 ⟨v, rfl, h1, h2, h3, h4⟩
              exact hnext v w3 h1 h2 h3 h4
            | _ => exact hok.elim
          | halt x w'' => exact hok.elim
        · -- the tail
          have hrdy : i ∈ Region.ready .any l.toArray listed := by
            unfold Region.ready
            rw [List.mem_filter]
            refine ⟨List.mem_range.2 hil, ?_⟩
            rw [hget]
            simp only [hun', Bool.not_false, Bool.true_and, Option.map_some, Option.getD_some, Array.all_eq_true', Bool.or_eq_true]
            exact hdep
          have hti := htail i hil
          rcases hti with hti | hti
          · omega
          · have hall : ∀ j, j < i → listed.getD j false = true := fun j hj => tdep_ready hJ.closed hrdy (hti j hj)
            have hie : i = ds.length := by
              rcases Nat.lt_or_ge ds.length i with h | h
              · have h1 := hall _ h
                have h2 := hJ.tail ds.length (Nat.le_refl _) (by omega)
                rw [Array.getD_eq_getD_getElem?] at h1 h2
                cases hx : listed[ds.length]? with
                | none => rw [hx] at h1; cases h1
                | some x => rw [hx] at h1 h2; simp at h1 h2; rw [h1] at h2; cases h2
              · omega
            have h := hfin listed a' w' hJ (fun j hj => hall j (by omega))
            have seq : ∀ (t : Nat) (listed : Array Bool) (b : Act) (v : World), t ≤ l.toArray.size → ds.length ≤ t → listed.size = l.toArray.size → (∀ j, j < t → listed.getD j false = true) → (∀ j, t ≤ j → j < l.toArray.size → listed.getD j true = false) → wpList P l.toArray Q (l.drop t) b v → wpAny P .any l.toArray Q (l.toArray.size - t) listed b v := by
              intro t
              generalize hk : l.toArray.size - t = k
              induction k generalizing t with
              | zero =>
                intro listed b v ht hdt hls h1 h2 hw
                have hte : t = l.toArray.size := by omega
                have hr : Region.ready .any l.toArray listed = [] := by
                  unfold Region.ready
                  rw [List.filter_eq_nil_iff]
                  intro j hj
                  have hj' : j < l.toArray.size := List.mem_range.1 hj
                  have h3 := h1 j (by omega)
                  have hjs : j < listed.size := by omega
                  rw [Array.getD_eq_getD_getElem?, Array.getElem?_eq_getElem hjs] at h3
                  have h4 : listed.getD j true = true := by rw [Array.getD_eq_getD_getElem?, Array.getElem?_eq_getElem hjs]; simpa using h3
                  simp [h4]
                refine ⟨hr, ?_⟩
                rw [List.drop_of_length_le (by simpa using Nat.le_of_eq hte.symm)] at hw
                exact hw
              | succ k ihk =>
                intro listed b v ht hdt hls h1 h2 hw
                have htl : t < l.toArray.size := by omega
                have hgt : l.toArray[t]? = some l.toArray[t] := Array.getElem?_eq_getElem htl
                have hot := hops t htl
                rw [hgt] at hot
                simp only [Bool.and_eq_true, Array.all_eq_true'] at hot
                have hcl : ∀ i j, listed.getD i false = true → depB l.toArray i j = true → listed.getD j false = true := by
                  intro i j hi hd
                  unfold depB at hd
                  rcases Nat.lt_or_ge i l.toArray.size with hil2 | hil2
                  · have hit : i < t := by
                      rcases Nat.lt_or_ge i t with h | h
                      · exact h
                      · have h3 := h2 i h hil2
                        rw [Array.getD_eq_getD_getElem?] at hi h3
                        cases hx : listed[i]? with
                        | none => rw [hx] at hi; cases hi
                        | some x => rw [hx] at hi h3; simp at hi h3; rw [hi] at h3; cases h3
                    have hgi : l.toArray[i]? = some l.toArray[i] := Array.getElem?_eq_getElem hil2
                    rw [hgi] at hd
                    have hoi2 := hops i hil2
                    rw [hgi] at hoi2
                    simp only [Bool.and_eq_true, Array.all_eq_true'] at hoi2
                    simp only [Array.any_eq_true', Bool.and_eq_true, beq_iff_eq] at hd
                    obtain ⟨e, he, hb, rfl⟩ := hd
                    exact h1 _ (by have h9 := hoi2.1.2 e he; rw [hb, Bool.not_true, Bool.false_or] at h9; have := of_decide_eq_true h9; omega)
                  · rw [Array.getElem?_eq_none (by omega)] at hd; cases hd
                have hr : ∀ j ∈ Region.ready .any l.toArray listed, j = t := by
                  intro j hj
                  have hj' := hj
                  unfold Region.ready at hj
                  rw [List.mem_filter, List.mem_range, Bool.and_eq_true] at hj
                  rcases Nat.lt_trichotomy j t with h | h | h
                  · have h3 := h1 j h
                    have hjs : j < listed.size := by omega
                    have h4 := hj.2.1
                    rw [Array.getD_eq_getD_getElem?, Array.getElem?_eq_getElem hjs] at h3 h4
                    simp at h3 h4; rw [h3] at h4; cases h4
                  · exact h
                  · rcases htail j hj.1 with h5 | h5
                    · omega
                    · have h6 := tdep_ready hcl hj' (h5 t h)
                      have h7 := h2 t (Nat.le_refl _) htl
                      rw [Array.getD_eq_getD_getElem?] at h6 h7
                      cases hx : listed[t]? with
                      | none => rw [hx] at h6; cases h6
                      | some x => rw [hx] at h6 h7; simp at h6 h7; rw [h6] at h7; cases h7
                refine ⟨fun hr0 => ?_, fun j hj => ?_⟩
                · exfalso
                  have : t ∈ Region.ready .any l.toArray listed := by
                    unfold Region.ready
                    rw [List.mem_filter]
                    refine ⟨List.mem_range.2 htl, ?_⟩
                    rw [hgt]
                    simp only [h2 t (Nat.le_refl _) htl, Bool.not_false, Bool.true_and, Option.map_some, Option.getD_some, Array.all_eq_true', Bool.or_eq_true]
                    exact fun e he => by
                      have h9 := hot.1.2 e he
                      rw [Bool.or_eq_true] at h9
                      exact h9.imp id (fun h => h1 _ (of_decide_eq_true h))
                  rw [hr0] at this; cases this
                · have hjt := hr j hj
                  subst hjt
                  have hdrop : l.drop j = l.toArray[j] :: l.drop (j + 1) := by
                    rw [List.drop_eq_getElem_cons (by simpa using htl)]; simp
                  rw [hdrop] at hw
                  unfold wpOp
                  simp only [hgt]
                  unfold wpList at hw
                  have next : ∀ b' v', wpList P l.toArray Q (l.drop (j + 1)) b' v' → wpAny P .any l.toArray Q k (listed.setIfInBounds j true) b' v' := by
                    intro b' v' hq
                    refine ihk (j + 1) (by omega) _ b' v' (by omega) (by omega) (by simp [hls]) ?_ ?_ hq
                    · intro q hqj
                      rw [Array.getD_eq_getD_getElem?, Array.getElem?_setIfInBounds]
                      by_cases e : j = q
                      · subst e; rw [if_pos rfl, if_pos (by omega)]; rfl
                      · rw [if_neg e, ← Array.getD_eq_getD_getElem?]; exact h1 q (by omega)
                    · intro q hq1 hq2
                      rw [Array.getD_eq_getD_getElem?, Array.getElem?_setIfInBounds, if_neg (by omega), ← Array.getD_eq_getD_getElem?]
                      exact h2 q (by omega) hq2
                  split at hw
                  · rename_i hwn
                    simp only [hwn, if_true]
                    exact hw.imp (Oper.wp_mono next) (fun h => h)
                  · rename_i hwn
                    simp only [hwn]
                    exact next _ _ hw
            have hlst : ∀ j, ds.length ≤ j → j < l.toArray.size → listed.getD j true = false := hJ.tail
            have hany := seq ds.length listed a' w' (by omega) (Nat.le_refl _) hJ.size (fun j hj => hall j (by omega)) hlst h
            have hfu : l.toArray.size - ds.length = fuel + 1 := by
              have hcc : listed.toList.count false = l.toArray.size - ds.length := by
                have : listed.toList = List.replicate ds.length true ++ List.replicate (l.toArray.size - ds.length) false := by
                  refine List.ext_getElem? fun j => ?_
                  rw [Array.getElem?_toList]
                  rcases Nat.lt_or_ge j l.toArray.size with hj | hj
                  · have hjs : j < listed.size := by rw [hJ.size]; exact hj
                    rw [Array.getElem?_eq_getElem hjs]
                    rcases Nat.lt_or_ge j ds.length with hjd | hjd
                    · have h3 := hall j (by omega)
                      rw [Array.getD_eq_getD_getElem?, Array.getElem?_eq_getElem hjs] at h3
                      rw [List.getElem?_append_left (by simpa using hjd), List.getElem?_replicate, if_pos hjd]
                      simpa using h3
                    · have h3 := hlst j hjd hj
                      rw [Array.getD_eq_getD_getElem?, Array.getElem?_eq_getElem hjs] at h3
                      rw [List.getElem?_append_right (by simpa using hjd), List.getElem?_replicate, List.length_replicate, if_pos (by omega)]
                      simpa using h3
                  · rw [Array.getElem?_eq_none (by rw [hJ.size]; exact hj), List.getElem?_eq_none (by rw [List.length_append, List.length_replicate, List.length_replicate]; omega)]
                rw [this, List.count_append, List.count_replicate, List.count_replicate]; simp
              omega
            rw [hfu] at hany
            have := hany.2 i hrdy
            unfold wpOp at this
            simp only [hget, hwant, if_true] at this
            exact this
  refine main _ _ _ _ ⟨hI, by simp, rfl, rfl, fun _ _ => rfl, fun j d hj h => ?_, fun j h1 h2 => ?_, fun i j _ _ _ _ _ h => ?_, fun i j h => ?_⟩ ?_
  · rw [Array.getD_eq_getD_getElem?, Array.getElem?_replicate] at h
    split at h <;> cases h
  · rw [Array.getD_eq_getD_getElem?, Array.getElem?_replicate, if_pos h2]; rfl
  · rw [Array.getD_eq_getD_getElem?, Array.getElem?_replicate] at h
    split at h <;> cases h
  · rw [Array.getD_eq_getD_getElem?, Array.getElem?_replicate] at h
    split at h <;> cases h
  · simp

theorem wp_region_trackC2 {id : Nat} {w : World} (ds : List Nat) (V : List VP) (D : PP) (I : World → Prop) (S : World → World → Prop) (hm : P.follows .mixedOrders = true) (hB : trackC l.toArray ds = true) (hVl : V.length = ds.length)
    (hsz : (ds.all fun d => decide (d < a.tmps.size)) = true) (hst : ∀ j v w w', I w → S w w' → nthV V j v w → nthV V j v w') (hI : I w.drew) (hs : StepsOK2 P a ds V D I S 0 (l.take ds.length))
    (hl : ∀ w', I w' → Lasts w' (fun xs a' => (∀ i j, i < ds.length → j < ds.length → i ≠ j → (depB l.toArray i j = true → D i j (xs.getD i undef) (xs.getD j undef)) ∧ (D i j (xs.getD i undef) (xs.getD j undef) ∨ D j i (xs.getD j undef) (xs.getD i undef))) → wpList P l.toArray Q (l.drop ds.length) a' w') V ds [] a) : (Code.region id l.toArray true).wp P Q a w :=
  wp_region_any hm (any_trackC ds V D I S hB hVl hsz hst hI hs hl)

theorem wp_region_trackC {id : Nat} {w : World} (ds : List Nat) (V : List VP) (I : World → Prop) (S : World → World → Prop) (hm : P.follows .mixedOrders = true) (hB : trackC l.toArray ds = true) (hVl : V.length = ds.length)
    (hsz : (ds.all fun d => decide (d < a.tmps.size)) = true) (hst : ∀ j v w w', I w → S w w' → nthV V j v w → nthV V j v w') (hI : I w.drew) (hs : StepsOK P a ds V I S 0 (l.take ds.length))
    (hl : ∀ w', I w' → Lasts w' (fun _ a' => wpList P l.toArray Q (l.drop ds.length) a' w') V ds [] a) : (Code.region id l.toArray true).wp P Q a w :=
  wp_region_trackC2 ds V (fun _ _ _ _ => True) I S hm hB hVl hsz hst hI (steps_two _ (fun _ _ _ _ => trivial) hs) (fun w' h => lasts_one (fun _ _ hg _ => hg) _ _ _ _ (hl w' h))

end
end Go.Proofs.Ytllblmndoigdlaa

/- energyChange; residuals of one chord -/
namespace Go.Proofs.Ytllblmndoigdlaa
open Go.RowKit

theorem w64_id {z : Int} (h : I64 z) : wrap64 z = z := by unfold I64 at h; unfold wrap64; omega

set_option maxRecDepth 100000 in
set_option maxHeartbeats 4000000 in
theorem energyChange_any (A : Option Addr) (n c : Nat) (B : Option Addr) (m d : Nat) (net : Net) (C : Option Addr) (l e : Nat) (zs : List Int) (C2 : Option Addr) (l2 e2 : Nat) (cs : List Int) (a : Int) (w : World) (h : NetAt w A n c B m d net) (hz : Ints w C l e zs) (hz2 : Ints w C2 l2 e2 cs) (hv : netB net = true) (hf : flowB net zs = true) (hc : Cyc net cs) (ha : -100000 ≤ a ∧ a ≤ 100000) :
    Calls Try.prog 77 #[.agg #[.slice A n c, .slice B m d], .slice C l e, .slice C2 l2 e2, .int .i64 a] w fun e w' => e = .returned (.tuple #[.int .i64 (chgR net zs cs a).1, .bool (chgR net zs cs a).2]) ∧ Below w.heap.size w w' := by
  have HB := Lib.hid (bel1 w (.cells #[.slice A n c, .slice B m d] 27))
  have hlm : l = m := by have := flowB_len hf; have := h.pipes.len; have := hz.len; omega
  have hl2m : l2 = m := by have := hc.len; have := h.pipes.len; have := hz2.len; omega
  subst hlm
  subst hl2m
  have hm40 : l2 ≤ 40 := by have := (netB_sizes hv).2.2; have := h.pipes.len; omega
  have HM := Lib.hid h.pipes.len
  have HS := Lib.hid hf
  have HV := Lib.hid hv
  have HC := Lib.hid hc
  have hple := h.pipes.le
  have hpcap := h.pipes.cap
  have hzle := hz.le
  have hzcap := hz.cap
  clear hf hv hc
  have bx0 : BX (w.alloc (.cells #[.slice A n c, .slice B l2 d] 27)) w.heap.size A n c B l2 d := ⟨heap_alloc_new w _⟩
  obtain ⟨W, hW⟩ : ∃ W, W = w.alloc (.cells #[.slice A n c, .slice B l2 d] 27) := ⟨_, rfl⟩
  have hWs : W.heap.size = w.heap.size + 1 := by rw [hW]; simp
  go_enter Try.func77, Try.ntmps77
  go_wp2_with fail
  rw [← hW] at bx0 HB ⊢
  clear hW
  go_loopw [10, 16] (fun s i wr => ∃ k : Nat, k ≤ l2 ∧ s = .int .i64 (chg net zs cs a k) ∧ i = .int .i64 k ∧ okK zs cs a k = true ∧ Below W.heap.size W wr) (fun _ i _ => l2 - (intOf i).toNat)
  case atStart => exact ⟨0, by omega, rfl, rfl, rfl, Below.refl _ _⟩
  case round =>
    obtain ⟨k, hk, rfl, rfl, hok, hb⟩ := hrel
    have hbw := below_step HB.out hb
    by_cases hlt : k < l2
    · obtain ⟨b2, off2, rfl, hbl2, hc2⟩ := (hz2.later hbw).cells (by omega)
      have hck2 := hc2 k hlt
      clear hc2
      have HT := Lib.hid (chg_succ net zs cs a k)
      have HO := Lib.hid (okK_succ zs cs a k)
      by_cases h0 : ig cs k = 0
      · have g0 : (ig cs k == 0) = true := by simp [h0]
        have HT2 : Hid (chg net zs cs a (k + 1) = chg net zs cs a k) := Lib.hid (by rw [HT.out]; unfold chT; rw [if_pos h0]; omega)
        have HO2 : Hid (okK zs cs a (k + 1) = true) := Lib.hid (by rw [HO.out, hok, h0]; rfl)
        rw [h0] at hck2
        clear h0 g0 hok HT HO
        go_wp2_with fail
        go_roundw
        case rel => exact ⟨k + 1, by omega, by rw [HT2.out], by go_num, HO2.out, hb⟩
        case measure => simp [intOf]; omega
      · have g0 : (ig cs k == 0) = false := by simp [h0]
        obtain ⟨bz, offz, rfl, hblz, hcz⟩ := (hz.later hbw).cells (by omega)
        have hckz := hcz k hlt
        obtain ⟨bp, offp, rfl, hblp, hcp⟩ := (h.pipes.later hbw).cells (by omega)
        obtain ⟨c0, c1, c2, c3, c4⟩ := hcp k hlt
        clear hcz hcp
        have hu := HC.out.bnd k
        have hq := flowB_all HS.out k
        have hp : -100000 ≤ ig cs k * a ∧ ig cs k * a ≤ 100000 := by
          rcases HC.out.u k with h | h | h <;> rw [h] <;> omega
        have hk1 := netB_pipe_at HV.out (j := k) (by rw [HM.out]; omega)
        have hb1 := chg_bnd HV.out HS.out (k := k) (a := a) (cs := cs) (by rw [HM.out]; omega) hok
        have hbs := hb.size
        by_cases hin : -30000 ≤ ig zs k + ig cs k * a ∧ ig zs k + ig cs k * a ≤ 30000
        · have hinB : inB (ig zs k + ig cs k * a) (-30000) 30000 = true := inB_iff'.2 hin
          have HO2 : Hid (okK zs cs a (k + 1) = true) := Lib.hid (by rw [HO.out, hok, hinB]; simp)
          have hb2 := chg_bnd HV.out HS.out (k := k + 1) (a := a) (cs := cs) (by rw [HM.out]; omega) HO2.out
          have ht := chT_bnd HV.out HS.out (m := k + 1) (by rw [HM.out]; omega) HO2.out (j := k) (by omega)
          have HT2 : Hid (chg net zs cs a (k + 1) = chg net zs cs a k + (enr (pp net.pipes k).k (ig zs k + ig cs k * a) - enr (pp net.pipes k).k (ig zs k))) := Lib.hid (by rw [HT.out]; unfold chT; rw [if_neg h0])
          have he1 := enr_bnd (k := (pp net.pipes k).k) (q := ig zs k + ig cs k * a) (by omega) (by omega) hin.1 hin.2
          have he2 := enr_bnd (k := (pp net.pipes k).k) (q := ig zs k) (by omega) (by omega) hq.1 hq.2
          rw [HT2.out] at hb2
          clear hok ht HT HO h0
          generalize ig cs k = Z at *
          generalize ig zs k = Q at *
          generalize chg net zs cs a k = G at *
          have kx := bx0.step hb
          have k0 := kx.c0
          have k1 := kx.c1
          have KX := Lib.hid kx
          go_wp2_with fail
          refine (within_is _ _ _ true _ hinB).mono ?_
          rintro e w' ⟨rfl, rfl⟩
          go_wp2_with fail
          apply wp_region_track [34, 35, 36, 37, 38, 39, 40, 41, 42, 43, 44, 45, 46, 47, 48, 49, 50, 51, 52] [eqv _, eqv _, eqv _, eqv _, eqv _, eqv _, eqv _, eqv _, eqv _, eqv _, eqv _, eqv _, eqv _, eqv _, eqv _, eqv _, eqv _, eqv _, eqv _]
            (fun w' => Below wr.heap.size wr w') Grw (by kernel_rfl) (by kernel_rfl) rfl (by kernel_rfl)
          case hs =>
            refine ⟨?_, ?_, ?_, ?_, ?_, ?_, ?_, ?_, ?_, ?_, ?_, ?_, ?_, ?_, ?_, ?_, ?_, ?_, ?_, trivial⟩
            · intro ev wt ht hc hg hf hI hd
              have e10 : ev (.tmp 10) = .int .i64 G := ht 10 (by decide)
              exact opok_move _ rfl ⟨hI, Below.refl _ _, e10⟩
            · intro ev wt ht hc hg hf hI hd
              have e4 : ev (.tmp 4) = .pointer (some ⟨w.heap.size, 0, none⟩) := ht 4 (by decide)
              refine opok_gen fun N hN => ?_
              clear hd ht
              go_simp
              exact hN.out _ _ ⟨hI, Below.refl _ _, rfl⟩
            · intro ev wt ht hc hg hf hI hd
              have e35 : ev (.tmp 35) = _ := hd 1 35 rfl rfl
              have y0 := (KX.out.step hI).c0
              have y1 := (KX.out.step hI).c1
              have yz := (hI.cell (p := ⟨bz, offz + k, none⟩) hblz).trans hckz
              have x0 := (hI.cell (p := ⟨bp, offp + k * 5, none⟩) hblp).trans c0
              have x1 := (hI.cell (p := ⟨bp, offp + k * 5 + 1, none⟩) hblp).trans c1
              have x2 := (hI.cell (p := ⟨bp, offp + k * 5 + 2, none⟩) hblp).trans c2
              have x3 := (hI.cell (p := ⟨bp, offp + k * 5 + 3, none⟩) hblp).trans c3
              have x4 := (hI.cell (p := ⟨bp, offp + k * 5 + 4, none⟩) hblp).trans c4
              refine opok_gen fun N hN => ?_
              clear hd ht
              go_simp
              exact hN.out _ _ ⟨hI, Below.refl _ _, rfl⟩
            · intro ev wt ht hc hg hf hI hd
              have e11 : ev (.tmp 11) = .int .i64 k := ht 11 (by decide)
              exact opok_move _ rfl ⟨hI, Below.refl _ _, e11⟩
            · intro ev wt ht hc hg hf hI hd
              have e36 : ev (.tmp 36) = _ := hd 2 36 rfl rfl
              have e37 : ev (.tmp 37) = _ := hd 3 37 rfl rfl
              refine opok_gen fun N hN => ?_
              clear hd ht
              go_simp
              exact hN.out _ _ ⟨hI, Below.refl _ _, rfl⟩
            · intro ev wt ht hc hg hf hI hd
              have e38 : ev (.tmp 38) = _ := hd 4 38 rfl rfl
              have y0 := (KX.out.step hI).c0
              have y1 := (KX.out.step hI).c1
              have yz := (hI.cell (p := ⟨bz, offz + k, none⟩) hblz).trans hckz
              have x0 := (hI.cell (p := ⟨bp, offp + k * 5, none⟩) hblp).trans c0
              have x1 := (hI.cell (p := ⟨bp, offp + k * 5 + 1, none⟩) hblp).trans c1
              have x2 := (hI.cell (p := ⟨bp, offp + k * 5 + 2, none⟩) hblp).trans c2
              have x3 := (hI.cell (p := ⟨bp, offp + k * 5 + 3, none⟩) hblp).trans c3
              have x4 := (hI.cell (p := ⟨bp, offp + k * 5 + 4, none⟩) hblp).trans c4
              refine opok_gen fun N hN => ?_
              clear hd ht
              go_simp
              exact hN.out _ _ ⟨hI, Below.refl _ _, rfl⟩
            · intro ev wt ht hc hg hf hI hd
              have e13 : ev (.tmp 13) = .int .i64 (Q + Z * a) := ht 13 (by decide)
              exact opok_move _ rfl ⟨hI, Below.refl _ _, e13⟩
            · intro ev wt ht hc hg hf hI hd
              have e39 : ev (.tmp 39) = _ := hd 5 39 rfl rfl
              have e40 : ev (.tmp 40) = _ := hd 6 40 rfl rfl
              refine opok_gen fun N hN => ?_
              clear hd ht
              go_simp
              refine (energyOf_any _ _ _ _ _ _ _ (by omega) (by omega)).mono ?_
              rintro e wz ⟨rfl, bz_⟩
              exact ⟨_, rfl, hN.out _ _ ⟨below_step hI bz_, bz_, rfl⟩⟩
            · intro ev wt ht hc hg hf hI hd
              have e4 : ev (.tmp 4) = .pointer (some ⟨w.heap.size, 0, none⟩) := ht 4 (by decide)
              refine opok_gen fun N hN => ?_
              clear hd ht
              go_simp
              exact hN.out _ _ ⟨hI, Below.refl _ _, rfl⟩
            · intro ev wt ht hc hg hf hI hd
              have e42 : ev (.tmp 42) = _ := hd 8 42 rfl rfl
              have y0 := (KX.out.step hI).c0
              have y1 := (KX.out.step hI).c1
              have yz := (hI.cell (p := ⟨bz, offz + k, none⟩) hblz).trans hckz
              have x0 := (hI.cell (p := ⟨bp, offp + k * 5, none⟩) hblp).trans c0
              have x1 := (hI.cell (p := ⟨bp, offp + k * 5 + 1, none⟩) hblp).trans c1
              have x2 := (hI.cell (p := ⟨bp, offp + k * 5 + 2, none⟩) hblp).trans c2
              have x3 := (hI.cell (p := ⟨bp, offp + k * 5 + 3, none⟩) hblp).trans c3
              have x4 := (hI.cell (p := ⟨bp, offp + k * 5 + 4, none⟩) hblp).trans c4
              refine opok_gen fun N hN => ?_
              clear hd ht
              go_simp
              exact hN.out _ _ ⟨hI, Below.refl _ _, rfl⟩
            · intro ev wt ht hc hg hf hI hd
              have e11 : ev (.tmp 11) = .int .i64 k := ht 11 (by decide)
              exact opok_move _ rfl ⟨hI, Below.refl _ _, e11⟩
            · intro ev wt ht hc hg hf hI hd
              have e43 : ev (.tmp 43) = _ := hd 9 43 rfl rfl
              have e44 : ev (.tmp 44) = _ := hd 10 44 rfl rfl
              refine opok_gen fun N hN => ?_
              clear hd ht
              go_simp
              exact hN.out _ _ ⟨hI, Below.refl _ _, rfl⟩
            · intro ev wt ht hc hg hf hI hd
              have e45 : ev (.tmp 45) = _ := hd 11 45 rfl rfl
              have y0 := (KX.out.step hI).c0
              have y1 := (KX.out.step hI).c1
              have yz := (hI.cell (p := ⟨bz, offz + k, none⟩) hblz).trans hckz
              have x0 := (hI.cell (p := ⟨bp, offp + k * 5, none⟩) hblp).trans c0
              have x1 := (hI.cell (p := ⟨bp, offp + k * 5 + 1, none⟩) hblp).trans c1
              have x2 := (hI.cell (p := ⟨bp, offp + k * 5 + 2, none⟩) hblp).trans c2
              have x3 := (hI.cell (p := ⟨bp, offp + k * 5 + 3, none⟩) hblp).trans c3
              have x4 := (hI.cell (p := ⟨bp, offp + k * 5 + 4, none⟩) hblp).trans c4
              refine opok_gen fun N hN => ?_
              clear hd ht
              go_simp
              exact hN.out _ _ ⟨hI, Below.refl _ _, rfl⟩
            · intro ev wt ht hc hg hf hI hd
              have e1 : ev (.tmp 1) = .slice (some ⟨bz, offz, none⟩) l2 e := ht 1 (by decide)
              exact opok_move _ rfl ⟨hI, Below.refl _ _, e1⟩
            · intro ev wt ht hc hg hf hI hd
              have e11 : ev (.tmp 11) = .int .i64 k := ht 11 (by decide)
              exact opok_move _ rfl ⟨hI, Below.refl _ _, e11⟩
            · intro ev wt ht hc hg hf hI hd
              have e47 : ev (.tmp 47) = _ := hd 13 47 rfl rfl
              have e48 : ev (.tmp 48) = _ := hd 14 48 rfl rfl
              refine opok_gen fun N hN => ?_
              clear hd ht
              go_simp
              exact hN.out _ _ ⟨hI, Below.refl _ _, rfl⟩
            · intro ev wt ht hc hg hf hI hd
              have e49 : ev (.tmp 49) = _ := hd 15 49 rfl rfl
              have y0 := (KX.out.step hI).c0
              have y1 := (KX.out.step hI).c1
              have yz := (hI.cell (p := ⟨bz, offz + k, none⟩) hblz).trans hckz
              have x0 := (hI.cell (p := ⟨bp, offp + k * 5, none⟩) hblp).trans c0
              have x1 := (hI.cell (p := ⟨bp, offp + k * 5 + 1, none⟩) hblp).trans c1
              have x2 := (hI.cell (p := ⟨bp, offp + k * 5 + 2, none⟩) hblp).trans c2
              have x3 := (hI.cell (p := ⟨bp, offp + k * 5 + 3, none⟩) hblp).trans c3
              have x4 := (hI.cell (p := ⟨bp, offp + k * 5 + 4, none⟩) hblp).trans c4
              refine opok_gen fun N hN => ?_
              clear hd ht
              go_simp
              exact hN.out _ _ ⟨hI, Below.refl _ _, rfl⟩
            · intro ev wt ht hc hg hf hI hd
              have e46 : ev (.tmp 46) = _ := hd 12 46 rfl rfl
              have e50 : ev (.tmp 50) = _ := hd 16 50 rfl rfl
              refine opok_gen fun N hN => ?_
              clear hd ht
              go_simp
              refine (energyOf_any _ _ _ _ _ _ _ (by omega) (by omega)).mono ?_
              rintro e wz ⟨rfl, bz_⟩
              exact ⟨_, rfl, hN.out _ _ ⟨below_step hI bz_, bz_, rfl⟩⟩
            · intro ev wt ht hc hg hf hI hd
              have e41 : ev (.tmp 41) = _ := hd 7 41 rfl rfl
              have e51 : ev (.tmp 51) = _ := hd 17 51 rfl rfl
              refine opok_gen fun N hN => ?_
              clear hd ht
              go_simp
              exact hN.out _ _ ⟨hI, Below.refl _ _, rfl⟩
          case hst =>
            refine fun j v w w' _ h1 h2 => StbL.nth (S := Grw) ?_ j v w w' h1 h2
            exact ⟨stb_eqv _, stb_eqv _, stb_eqv _, stb_eqv _, stb_eqv _, stb_eqv _, stb_eqv _, stb_eqv _, stb_eqv _, stb_eqv _, stb_eqv _, stb_eqv _, stb_eqv _, stb_eqv _, stb_eqv _, stb_eqv _, stb_eqv _, stb_eqv _, stb_eqv _, trivial⟩
          case hI => exact (Below.refl _ _).drew
          case hl =>
            rintro wt hI _ rfl _ rfl _ rfl _ rfl _ rfl _ rfl _ rfl _ rfl _ rfl _ rfl _ rfl _ rfl _ rfl _ rfl _ rfl _ rfl _ rfl _ rfl _ rfl
            simp only [Lasts, List.length_cons, List.length_nil, Nat.reduceAdd, List.drop_succ_cons, List.drop_zero, Act.put, List.setIfInBounds_toArray, List.set_cons_succ, List.set_cons_zero]
            clear c0 c1 c2 c3 c4 hckz
            have hb3 := below_step hb hI
            go_wp2_with fail
            go_roundw
            case rel => exact ⟨k + 1, by omega, by rw [HT2.out], by go_num, HO2.out, hb3⟩
            case measure => simp [intOf]; omega
        · have hinB : inB (ig zs k + ig cs k * a) (-30000) 30000 = false := by
            cases hx : inB (ig zs k + ig cs k * a) (-30000) 30000
            · rfl
            · exact absurd (inB_iff'.1 hx) hin
          have HR : Hid (chgR net zs cs a = (0, false)) := Lib.hid (by unfold chgR; rw [okK_no (by rw [HM.out]; exact hlt) h0 hinB]; rfl)
          clear hok HT HO h0 hin
          generalize ig cs k = Z at *
          generalize ig zs k = Q at *
          generalize chg net zs cs a k = G at *
          go_wp2_with fail
          refine (within_is _ _ _ false _ hinB).mono ?_
          rintro e w' ⟨rfl, rfl⟩
          go_wp2_with fail
          go_ret2
          exact ⟨by rw [HR.out]; rfl, hbw⟩
    · have hkl : l2 = k := by omega
      have HR : Hid (chgR net zs cs a = (chg net zs cs a k, true)) := Lib.hid (by unfold chgR; rw [HM.out, hkl, hok]; rfl)
      clear hkl hok
      generalize chg net zs cs a k = G at *
      go_wp2_with fail
      go_ret2
      exact ⟨by rw [HR.out]; rfl, hbw⟩

set_option maxRecDepth 100000 in
set_option maxHeartbeats 4000000 in
theorem residualOf_any (A : Option Addr) (n c : Nat) (B : Option Addr) (m d : Nat) (net : Net) (C : Option Addr) (l e : Nat) (zs : List Int) (q : Nat) (w : World) (h : NetAt w A n c B m d net) (hz : Ints w C l e zs) (hv : netB net = true) (hf : flowB net zs = true) (hq : q ∈ (netG net).chords) :
    Calls Try.prog 90 #[.agg #[.slice A n c, .slice B m d], .slice C l e, .int .i64 (q : Int)] w fun e w' => e = .returned (.int .i64 (res net zs (cycL net q) net.pipes.length)) ∧ Below w.heap.size w w' := by
  have HB := Lib.hid (bel1 w (.cells #[.slice A n c, .slice B m d] 27))
  have ok := NetOK.of hv
  have hlm : l = m := by have := flowB_len hf; have := h.pipes.len; have := hz.len; omega
  subst hlm
  have hm40 : l ≤ 40 := by have := (netB_sizes hv).2.2; have := h.pipes.len; omega
  have HM := Lib.hid h.pipes.len
  have HS := Lib.hid hf
  have HV := Lib.hid hv
  have HQ := Lib.hid hq
  have HC := Lib.hid (cycL_cyc ok hq)
  have hple := h.pipes.le
  have hpcap := h.pipes.cap
  have hzle := hz.le
  have hzcap := hz.cap
  clear hf hv hq
  have bx0 : BX (w.alloc (.cells #[.slice A n c, .slice B l d] 27)) w.heap.size A n c B l d := ⟨heap_alloc_new w _⟩
  obtain ⟨W, hW⟩ : ∃ W, W = w.alloc (.cells #[.slice A n c, .slice B l d] 27) := ⟨_, rfl⟩
  go_enter Try.func90, Try.ntmps90
  go_wp2_with fail
  rw [← hW] at bx0 HB ⊢
  clear hW
  refine (cycleOf_any _ _ _ _ _ _ net q _ (h.later HB.out) ok HQ.out).mono ?_
  rintro e w1 ⟨Ac, rfl, oc, fc, b1⟩
  have bx1 := bx0.step b1
  have T1 := Lib.hid (below_step HB.out b1)
  clear bx0 b1 fc
  obtain ⟨cs, hcs⟩ : ∃ cs, cycL net q = cs := ⟨_, rfl⟩
  rw [hcs] at oc HC
  have HCS := Lib.hid hcs
  clear hcs
  go_wp2_with fail
  go_loopw [7, 14] (fun s i wr => ∃ k : Nat, k ≤ l ∧ s = .int .i64 (res net zs cs k) ∧ i = .int .i64 k ∧ Below w1.heap.size w1 wr) (fun _ i _ => l - (intOf i).toNat)
  case atStart => exact ⟨0, by omega, rfl, rfl, Below.refl _ _⟩
  case round =>
    obtain ⟨k, hk, rfl, rfl, hb⟩ := hrel
    have hbw := below_step T1.out hb
    by_cases hlt : k < l
    · have oc1 := oc.later hb
      obtain ⟨gc, rfl, hgc⟩ := oc1.pos (by omega)
      have cc := oc1.cell hlt
      obtain ⟨bz, offz, rfl, hblz, hcz⟩ := (hz.later hbw).cells (by omega)
      have hckz := hcz k hlt
      obtain ⟨bp, offp, rfl, hblp, hcp⟩ := (h.pipes.later hbw).cells (by omega)
      obtain ⟨c0, c1, c2, c3, c4⟩ := hcp k hlt
      clear hcz hcp oc1
      have hq1 := flowB_all HS.out k
      have hk1 := netB_pipe_at HV.out (j := k) (by rw [HM.out]; omega)
      have ht : -900000000000 ≤ ig cs k * drp (pp net.pipes k).k (ig zs k) ∧ ig cs k * drp (pp net.pipes k).k (ig zs k) ≤ 900000000000 := resT_bnd HV.out HS.out HC.out k
      have hr1 := res_bnd HV.out HS.out HC.out k (by omega)
      have HT := Lib.hid (res_succ net zs cs k)
      have hdF : drp (pp net.pipes k).k (ig zs k) = drF net zs k := rfl
      have hdb := drF_bnd HV.out HS.out k
      have kx := bx1.step hb
      have k0 := kx.c0
      have k1 := kx.c1
      have hub := HC.out.bnd k
      have KX := Lib.hid kx
      generalize ig cs k = Z at *
      generalize res net zs cs k = G at *
      go_wp2_with fail
      apply wp_region_track [19, 20, 21, 22, 23, 24, 25, 26, 27, 28, 29, 30, 31] [eqv _, eqv _, eqv _, eqv _, eqv _, eqv _, eqv _, eqv _, eqv _, eqv _, eqv _, eqv _, eqv _]
        (fun w' => Below wr.heap.size wr w') Grw (by kernel_rfl) (by kernel_rfl) rfl (by kernel_rfl)
      case hs =>
        refine ⟨?_, ?_, ?_, ?_, ?_, ?_, ?_, ?_, ?_, ?_, ?_, ?_, ?_, trivial⟩
        · intro ev wt ht hc hg hf hI hd
          have e7 : ev (.tmp 7) = .int .i64 G := ht 7 (by decide)
          exact opok_move _ rfl ⟨hI, Below.refl _ _, e7⟩
        · intro ev wt ht hc hg hf hI hd
          have e9 : ev (.tmp 9) = .int .i64 Z := ht 9 (by decide)
          exact opok_move _ rfl ⟨hI, Below.refl _ _, e9⟩
        · intro ev wt ht hc hg hf hI hd
          have e3 : ev (.tmp 3) = .pointer (some ⟨w.heap.size, 0, none⟩) := ht 3 (by decide)
          refine opok_gen fun N hN => ?_
          clear hd ht
          go_simp
          exact hN.out _ _ ⟨hI, Below.refl _ _, rfl⟩
        · intro ev wt ht hc hg hf hI hd
          have e21 : ev (.tmp 21) = _ := hd 2 21 rfl rfl
          have y0 := (KX.out.step hI).c0
          have y1 := (KX.out.step hI).c1
          have yz := (hI.cell (p := ⟨bz, offz + k, none⟩) hblz).trans hckz
          have x0 := (hI.cell (p := ⟨bp, offp + k * 5, none⟩) hblp).trans c0
          have x1 := (hI.cell (p := ⟨bp, offp + k * 5 + 1, none⟩) hblp).trans c1
          have x2 := (hI.cell (p := ⟨bp, offp + k * 5 + 2, none⟩) hblp).trans c2
          have x3 := (hI.cell (p := ⟨bp, offp + k * 5 + 3, none⟩) hblp).trans c3
          have x4 := (hI.cell (p := ⟨bp, offp + k * 5 + 4, none⟩) hblp).trans c4
          refine opok_gen fun N hN => ?_
          clear hd ht
          go_simp
          exact hN.out _ _ ⟨hI, Below.refl _ _, rfl⟩
        · intro ev wt ht hc hg hf hI hd
          have e8 : ev (.tmp 8) = .int .i64 k := ht 8 (by decide)
          exact opok_move _ rfl ⟨hI, Below.refl _ _, e8⟩
        · intro ev wt ht hc hg hf hI hd
          have e22 : ev (.tmp 22) = _ := hd 3 22 rfl rfl
          have e23 : ev (.tmp 23) = _ := hd 4 23 rfl rfl
          refine opok_gen fun N hN => ?_
          clear hd ht
          go_simp
          exact hN.out _ _ ⟨hI, Below.refl _ _, rfl⟩
        · intro ev wt ht hc hg hf hI hd
          have e24 : ev (.tmp 24) = _ := hd 5 24 rfl rfl
          have y0 := (KX.out.step hI).c0
          have y1 := (KX.out.step hI).c1
          have yz := (hI.cell (p := ⟨bz, offz + k, none⟩) hblz).trans hckz
          have x0 := (hI.cell (p := ⟨bp, offp + k * 5, none⟩) hblp).trans c0
          have x1 := (hI.cell (p := ⟨bp, offp + k * 5 + 1, none⟩) hblp).trans c1
          have x2 := (hI.cell (p := ⟨bp, offp + k * 5 + 2, none⟩) hblp).trans c2
          have x3 := (hI.cell (p := ⟨bp, offp + k * 5 + 3, none⟩) hblp).trans c3
          have x4 := (hI.cell (p := ⟨bp, offp + k * 5 + 4, none⟩) hblp).trans c4
          refine opok_gen fun N hN => ?_
          clear hd ht
          go_simp
          exact hN.out _ _ ⟨hI, Below.refl _ _, rfl⟩
        · intro ev wt ht hc hg hf hI hd
          have e1 : ev (.tmp 1) = .slice (some ⟨bz, offz, none⟩) l e := ht 1 (by decide)
          exact opok_move _ rfl ⟨hI, Below.refl _ _, e1⟩
        · intro ev wt ht hc hg hf hI hd
          have e8 : ev (.tmp 8) = .int .i64 k := ht 8 (by decide)
          exact opok_move _ rfl ⟨hI, Below.refl _ _, e8⟩
        · intro ev wt ht hc hg hf hI hd
          have e26 : ev (.tmp 26) = _ := hd 7 26 rfl rfl
          have e27 : ev (.tmp 27) = _ := hd 8 27 rfl rfl
          refine opok_gen fun N hN => ?_
          clear hd ht
          go_simp
          exact hN.out _ _ ⟨hI, Below.refl _ _, rfl⟩
        · intro ev wt ht hc hg hf hI hd
          have e28 : ev (.tmp 28) = _ := hd 9 28 rfl rfl
          have y0 := (KX.out.step hI).c0
          have y1 := (KX.out.step hI).c1
          have yz := (hI.cell (p := ⟨bz, offz + k, none⟩) hblz).trans hckz
          have x0 := (hI.cell (p := ⟨bp, offp + k * 5, none⟩) hblp).trans c0
          have x1 := (hI.cell (p := ⟨bp, offp + k * 5 + 1, none⟩) hblp).trans c1
          have x2 := (hI.cell (p := ⟨bp, offp + k * 5 + 2, none⟩) hblp).trans c2
          have x3 := (hI.cell (p := ⟨bp, offp + k * 5 + 3, none⟩) hblp).trans c3
          have x4 := (hI.cell (p := ⟨bp, offp + k * 5 + 4, none⟩) hblp).trans c4
          refine opok_gen fun N hN => ?_
          clear hd ht
          go_simp
          exact hN.out _ _ ⟨hI, Below.refl _ _, rfl⟩
        · intro ev wt ht hc hg hf hI hd
          have e25 : ev (.tmp 25) = _ := hd 6 25 rfl rfl
          have e29 : ev (.tmp 29) = _ := hd 10 29 rfl rfl
          refine opok_gen fun N hN => ?_
          clear hd ht
          go_simp
          refine (dropOf_any _ _ _ _ _ _ _ (by omega) (by omega)).mono ?_
          rintro e wz ⟨rfl, bz_⟩
          exact ⟨_, rfl, hN.out _ _ ⟨below_step hI bz_, bz_, rfl⟩⟩
        · intro ev wt ht hc hg hf hI hd
          have e20 : ev (.tmp 20) = _ := hd 1 20 rfl rfl
          have e30 : ev (.tmp 30) = _ := hd 11 30 rfl rfl
          refine opok_gen fun N hN => ?_
          clear hd ht
          go_simp
          exact hN.out _ _ ⟨hI, Below.refl _ _, rfl⟩
      case hst =>
        refine fun j v w w' _ h1 h2 => StbL.nth (S := Grw) ?_ j v w w' h1 h2
        exact ⟨stb_eqv _, stb_eqv _, stb_eqv _, stb_eqv _, stb_eqv _, stb_eqv _, stb_eqv _, stb_eqv _, stb_eqv _, stb_eqv _, stb_eqv _, stb_eqv _, stb_eqv _, trivial⟩
      case hI => exact (Below.refl _ _).drew
      case hl =>
        rintro wt hI _ rfl _ rfl _ rfl _ rfl _ rfl _ rfl _ rfl _ rfl _ rfl _ rfl _ rfl _ rfl _ rfl
        simp only [Lasts, List.length_cons, List.length_nil, Nat.reduceAdd, List.drop_succ_cons, List.drop_zero, Act.put, List.setIfInBounds_toArray, List.set_cons_succ, List.set_cons_zero]
        clear c0 c1 c2 c3 c4 hckz
        have hb3 := below_step hb hI
        rw [hdF] at ht ⊢
        generalize drF net zs k = D at *
        have hw1 := w64_id (z := Z * D) ⟨by omega, by omega⟩
        have hw2 := w64_id (z := G + Z * D) ⟨by omega, by omega⟩
        have HT3 : Hid (res net zs cs (k + 1) = G + Z * D) := HT
        clear HT
        go_wp2_with fail
        go_roundw
        case rel => exact ⟨k + 1, by omega, by rw [HT3.out], by go_num, hb3⟩
        case measure => simp [intOf]; omega
    · have hkl : l = k := by omega
      have HR : Hid (res net zs cs net.pipes.length = res net zs cs k) := Lib.hid (by rw [HM.out, hkl])
      clear hkl
      go_wp2_with fail
      go_ret
      exact ⟨ret_int (by rw [HCS.out, HR.out]), hbw⟩

end Go.Proofs.Ytllblmndoigdlaa

/- l10Code, l10Residual, ResidualOf, EnergyChange, AddCycle -/
namespace Go.Proofs.Ytllblmndoigdlaa
open Go.RowKit

theorem l02Has_is (A : Option Addr) (n c : Nat) (zs : List Int) (x : Int) (b : Bool) (w : World) (h : Ints w A n c zs) (hb : decide (x ∈ zs) = b) :
    Calls Try.prog 104 #[.slice A n c, .int .i64 x] w fun e w' => e = .returned (.bool b) ∧ w = w' := by
  rw [← hb]; exact l02Has_any A n c zs x w h

set_option maxRecDepth 100000 in
set_option maxHeartbeats 2000000 in
theorem l10Code_is (A : Option Addr) (n c : Nat) (B : Option Addr) (m d : Nat) (net : Net) (C : Option Addr) (l e : Nat) (zs : List Int) (x r : Int) (w : World) (h : NetAt w A n c B m d net) (hz : Ints w C l e zs) (hr : codeC net zs x = r) :
    Calls Try.prog 78 #[.agg #[.slice A n c, .slice B m d], .slice C l e, .int .i64 x] w fun e w' => e = .returned (.int .i64 r) ∧ Below w.heap.size w w' := by
  have HB := Lib.hid (bel1 w (.cells #[.slice A n c, .slice B m d] 27))
  by_cases h0 : codeF net zs = 0
  · obtain ⟨hv, hs⟩ := codeF_zero h0
    have ok := NetOK.of hv
    have HR : Hid ((if chdB net x then 0 else 4) = r) := Lib.hid (by rw [← hr]; unfold codeC; rw [if_pos h0])
    clear hr
    rcases hb : chdB net x with _ | _
    · rw [hb] at HR
      have HR2 : Hid (4 = r) := Lib.hid HR.out
      clear HR
      go_enter Try.func78, Try.ntmps78
      go_wp2_with fail
      refine (l05Code_is _ _ _ _ _ _ _ _ _ net zs _ _ (h.later HB.out) (hz.later HB.out) h0).mono ?_
      rintro e w1 ⟨rfl, b1⟩
      have t1 := below_step HB.out b1
      have s1 := b1
      obtain ⟨k0, k1⟩ := box_cells s1
      go_wp2_with fail
      refine (l05Chords_any _ _ _ _ _ _ net _ (h.later t1) ok).mono ?_
      rintro e w2 ⟨Ac, cc, rfl, oc, fc, b2⟩
      clear k0 k1
      have t2 := below_step t1 b2
      have s2 := below_step s1 b2
      obtain ⟨k0, k1⟩ := box_cells s2
      go_wp2_with fail
      refine (l02Has_is _ _ _ _ _ _ _ oc.ints hb).mono ?_
      rintro e w' ⟨rfl, rfl⟩
      clear k0 k1
      obtain ⟨k0, k1⟩ := box_cells s2
      go_wp2_with fail
      go_ret
      exact ⟨ret_int HR2.out, t2⟩
    · rw [hb] at HR
      have HR2 : Hid (0 = r) := Lib.hid HR.out
      clear HR
      go_enter Try.func78, Try.ntmps78
      go_wp2_with fail
      refine (l05Code_is _ _ _ _ _ _ _ _ _ net zs _ _ (h.later HB.out) (hz.later HB.out) h0).mono ?_
      rintro e w1 ⟨rfl, b1⟩
      have t1 := below_step HB.out b1
      have s1 := b1
      obtain ⟨k0, k1⟩ := box_cells s1
      go_wp2_with fail
      refine (l05Chords_any _ _ _ _ _ _ net _ (h.later t1) ok).mono ?_
      rintro e w2 ⟨Ac, cc, rfl, oc, fc, b2⟩
      clear k0 k1
      have t2 := below_step t1 b2
      have s2 := below_step s1 b2
      obtain ⟨k0, k1⟩ := box_cells s2
      go_wp2_with fail
      refine (l02Has_is _ _ _ _ _ _ _ oc.ints hb).mono ?_
      rintro e w' ⟨rfl, rfl⟩
      clear k0 k1
      obtain ⟨k0, k1⟩ := box_cells s2
      go_wp2_with fail
      go_ret
      exact ⟨ret_int HR2.out, t2⟩
  · obtain ⟨k, hk⟩ : ∃ k, codeF net zs = k := ⟨_, rfl⟩
    have HR : Hid (k = r) := Lib.hid (by rw [← hr, ← hk]; unfold codeC; rw [if_neg h0])
    rw [hk] at h0
    clear hr
    have hne : (k == 0) = false := by simp [h0]
    go_enter Try.func78, Try.ntmps78
    go_wp2_with fail
    refine (l05Code_is _ _ _ _ _ _ _ _ _ net zs _ _ (h.later HB.out) (hz.later HB.out) hk).mono ?_
    rintro e w1 ⟨rfl, b1⟩
    have t1 := below_step HB.out b1
    have s1 := b1
    obtain ⟨k0, k1⟩ := box_cells s1
    go_wp2_with fail
    go_ret
    exact ⟨ret_int HR.out, t1⟩

set_option maxRecDepth 100000 in
set_option maxHeartbeats 4000000 in
theorem l10Residual_any (A : Option Addr) (n c : Nat) (B : Option Addr) (m d : Nat) (net : Net) (C : Option Addr) (l e : Nat) (zs : List Int) (C2 : Option Addr) (l2 e2 : Nat) (cs : List Int) (w : World) (h : NetAt w A n c B m d net) (hz : Ints w C l e zs) (hz2 : Ints w C2 l2 e2 cs) (hv : netB net = true) (hf : flowB net zs = true) (hc : Cyc net cs) :
    Calls Try.prog 123 #[.agg #[.slice A n c, .slice B m d], .slice C l e, .slice C2 l2 e2] w fun e w' => e = .returned (.int .i64 (res net zs cs net.pipes.length)) ∧ Below w.heap.size w w' := by
  have HB := Lib.hid (bel1 w (.cells #[.slice A n c, .slice B m d] 27))
  have hlm : l = m := by have := flowB_len hf; have := h.pipes.len; have := hz.len; omega
  have hl2m : l2 = m := by have := hc.len; have := h.pipes.len; have := hz2.len; omega
  subst hlm
  subst hl2m
  have hm40 : l2 ≤ 40 := by have := (netB_sizes hv).2.2; have := h.pipes.len; omega
  have HM := Lib.hid h.pipes.len
  have HS := Lib.hid hf
  have HV := Lib.hid hv
  have HC := Lib.hid hc
  have hzle := hz.le
  have hzcap := hz.cap
  clear hf hv hc
  have bx0 : BX (w.alloc (.cells #[.slice A n c, .slice B l2 d] 27)) w.heap.size A n c B l2 d := ⟨heap_alloc_new w _⟩
  obtain ⟨W, hW⟩ : ∃ W, W = w.alloc (.cells #[.slice A n c, .slice B l2 d] 27) := ⟨_, rfl⟩
  go_enter Try.func123, Try.ntmps123
  go_wp2_with fail
  rw [← hW] at bx0 HB ⊢
  clear hW
  go_loopw [7, 8] (fun s i wr => ∃ k : Nat, k ≤ l2 ∧ s = .int .i64 (res net zs cs k) ∧ i = .int .i64 k ∧ Below W.heap.size W wr) (fun _ i _ => l2 - (intOf i).toNat)
  case atStart => exact ⟨0, by omega, rfl, rfl, Below.refl _ _⟩
  case round =>
    obtain ⟨k, hk, rfl, rfl, hb⟩ := hrel
    have hbw := below_step HB.out hb
    by_cases hlt : k < l2
    · obtain ⟨bz, offz, rfl, hblz, hcz⟩ := (hz.later hbw).cells (by omega)
      have hckz := hcz k hlt
      obtain ⟨bc, offc, rfl, hblc, hcc⟩ := (hz2.later hbw).cells (by omega)
      have hckc := hcc k hlt
      clear hcz hcc
      have hki : (k : Int) < (l2 : Int) := by omega
      have hq1 := flowB_all HS.out k
      have hkq : 1 ≤ (pp net.pipes k).k ∧ (pp net.pipes k).k ≤ 1000 := by have := netB_pipe_at HV.out (j := k) (by rw [HM.out]; omega); omega
      have ht := resT_bnd HV.out HS.out HC.out k
      have hr1 := res_bnd HV.out HS.out HC.out k (by omega)
      have HT := Lib.hid (res_succ net zs cs k)
      have hdF : drp (pp net.pipes ((k : Int).toNat)).k (ig zs k) = drF net zs k := by rw [Int.toNat_natCast]; rfl
      have hdb := drF_bnd HV.out HS.out k
      have kx := bx0.step hb
      have k0 := kx.c0
      have k1 := kx.c1
      have lt0 := kx.lt
      have hub := HC.out.bnd k
      generalize ig cs k = Z at *
      generalize res net zs cs k = G at *
      have hw1 := w64_id (z := Z * drF net zs k) ⟨by omega, by omega⟩
      have hw2 := w64_id (z := G + Z * drF net zs k) ⟨by omega, by omega⟩
      go_wp2_with fail
      apply wp_region_track [15, 16, 17, 18, 19, 20, 21, 22, 23, 24, 25, 26, 27] [eqv _, eqv _, eqv _, eqv _, eqv _, eqv _, eqv _, eqv _, eqv _, eqv _, eqv _, eqv _, eqv _]
        (fun w' => Below wr.heap.size wr w') Grw (by kernel_rfl) (by kernel_rfl) rfl (by kernel_rfl)
      case hs =>
        refine ⟨?_, ?_, ?_, ?_, ?_, ?_, ?_, ?_, ?_, ?_, ?_, ?_, ?_, trivial⟩
        · intro ev wt ht hc hg hf hI hd
          have e7 : ev (.tmp 7) = .int .i64 G := ht 7 (by decide)
          exact opok_move _ rfl ⟨hI, Below.refl _ _, e7⟩
        · intro ev wt ht hc hg hf hI hd
          have e2 : ev (.tmp 2) = .slice (some ⟨bc, offc, none⟩) l2 e2 := ht 2 (by decide)
          exact opok_move _ rfl ⟨hI, Below.refl _ _, e2⟩
        · intro ev wt ht hc hg hf hI hd
          have e8 : ev (.tmp 8) = .int .i64 k := ht 8 (by decide)
          exact opok_move _ rfl ⟨hI, Below.refl _ _, e8⟩
        · intro ev wt ht hc hg hf hI hd
          have e16 : ev (.tmp 16) = _ := hd 1 16 rfl rfl
          have e17 : ev (.tmp 17) = _ := hd 2 17 rfl rfl
          refine opok_gen fun N hN => ?_
          clear hd ht
          go_simp
          exact hN.out _ _ ⟨hI, Below.refl _ _, rfl⟩
        · intro ev wt ht hc hg hf hI hd
          have e18 : ev (.tmp 18) = _ := hd 3 18 rfl rfl
          have y0 := (hI.cell (p := ⟨w.heap.size, 0, none⟩) lt0).trans k0
          have y1 := (hI.cell (p := ⟨w.heap.size, 1, none⟩) lt0).trans k1
          have yz := (hI.cell (p := ⟨bz, offz + k, none⟩) hblz).trans hckz
          have yc := (hI.cell (p := ⟨bc, offc + k, none⟩) hblc).trans hckc
          refine opok_gen fun N hN => ?_
          clear hd ht
          go_simp
          exact hN.out _ _ ⟨hI, Below.refl _ _, rfl⟩
        · intro ev wt ht hc hg hf hI hd
          have e3 : ev (.tmp 3) = .pointer (some ⟨w.heap.size, 0, none⟩) := ht 3 (by decide)
          have y0 := (hI.cell (p := ⟨w.heap.size, 0, none⟩) lt0).trans k0
          have y1 := (hI.cell (p := ⟨w.heap.size, 1, none⟩) lt0).trans k1
          have yz := (hI.cell (p := ⟨bz, offz + k, none⟩) hblz).trans hckz
          have yc := (hI.cell (p := ⟨bc, offc + k, none⟩) hblc).trans hckc
          refine opok_gen fun N hN => ?_
          clear hd ht
          go_simp
          exact hN.out _ _ ⟨hI, Below.refl _ _, rfl⟩
        · intro ev wt ht hc hg hf hI hd
          have e8 : ev (.tmp 8) = .int .i64 k := ht 8 (by decide)
          exact opok_move _ rfl ⟨hI, Below.refl _ _, e8⟩
        · intro ev wt ht hc hg hf hI hd
          have e1 : ev (.tmp 1) = .slice (some ⟨bz, offz, none⟩) l2 e := ht 1 (by decide)
          exact opok_move _ rfl ⟨hI, Below.refl _ _, e1⟩
        · intro ev wt ht hc hg hf hI hd
          have e8 : ev (.tmp 8) = .int .i64 k := ht 8 (by decide)
          exact opok_move _ rfl ⟨hI, Below.refl _ _, e8⟩
        · intro ev wt ht hc hg hf hI hd
          have e22 : ev (.tmp 22) = _ := hd 7 22 rfl rfl
          have e23 : ev (.tmp 23) = _ := hd 8 23 rfl rfl
          refine opok_gen fun N hN => ?_
          clear hd ht
          go_simp
          exact hN.out _ _ ⟨hI, Below.refl _ _, rfl⟩
        · intro ev wt ht hc hg hf hI hd
          have e24 : ev (.tmp 24) = _ := hd 9 24 rfl rfl
          have y0 := (hI.cell (p := ⟨w.heap.size, 0, none⟩) lt0).trans k0
          have y1 := (hI.cell (p := ⟨w.heap.size, 1, none⟩) lt0).trans k1
          have yz := (hI.cell (p := ⟨bz, offz + k, none⟩) hblz).trans hckz
          have yc := (hI.cell (p := ⟨bc, offc + k, none⟩) hblc).trans hckc
          refine opok_gen fun N hN => ?_
          clear hd ht
          go_simp
          exact hN.out _ _ ⟨hI, Below.refl _ _, rfl⟩
        · intro ev wt ht hc hg hf hI hd
          have e20 : ev (.tmp 20) = _ := hd 5 20 rfl rfl
          have e21 : ev (.tmp 21) = _ := hd 6 21 rfl rfl
          have e25 : ev (.tmp 25) = _ := hd 10 25 rfl rfl
          refine opok_gen fun N hN => ?_
          clear hd ht
          go_simp
          refine (l07Drop_any _ _ _ _ _ _ net _ _ _ (h.later (below_step hbw hI)) (by omega) (by simpa using hkq) hq1).mono ?_
          rintro e wz ⟨rfl, bz_⟩
          rw [hdF]
          exact ⟨_, rfl, hN.out _ _ ⟨below_step hI bz_, bz_, rfl⟩⟩
        · intro ev wt ht hc hg hf hI hd
          have e19 : ev (.tmp 19) = _ := hd 4 19 rfl rfl
          have e26 : ev (.tmp 26) = _ := hd 11 26 rfl rfl
          refine opok_gen fun N hN => ?_
          clear hd ht
          go_simp
          exact hN.out _ _ ⟨hI, Below.refl _ _, rfl⟩
      case hst =>
        refine fun j v w w' _ h1 h2 => StbL.nth (S := Grw) ?_ j v w w' h1 h2
        exact ⟨stb_eqv _, stb_eqv _, stb_eqv _, stb_eqv _, stb_eqv _, stb_eqv _, stb_eqv _, stb_eqv _, stb_eqv _, stb_eqv _, stb_eqv _, stb_eqv _, stb_eqv _, trivial⟩
      case hI => exact (Below.refl _ _).drew
      case hl =>
        rintro wt hI _ rfl _ rfl _ rfl _ rfl _ rfl _ rfl _ rfl _ rfl _ rfl _ rfl _ rfl _ rfl _ rfl
        simp only [Lasts, List.length_cons, List.length_nil, Nat.reduceAdd, List.drop_succ_cons, List.drop_zero, Act.put, List.setIfInBounds_toArray, List.set_cons_succ, List.set_cons_zero]
        have hb3 := below_step hb hI

        go_wp2_with fail
        go_roundw
        case rel => exact ⟨k + 1, by omega, by rw [HT.out], by go_num, hb3⟩
        case measure => simp [intOf]; omega
    · have hkl : l2 = k := by omega
      have HR : Hid (res net zs cs net.pipes.length = res net zs cs k) := Lib.hid (by rw [HM.out, hkl])
      clear hkl
      have hki : ¬ (k : Int) < (l2 : Int) := by omega
      go_wp2_with fail
      go_ret
      exact ⟨ret_int (by rw [HR.out]), hbw⟩

set_option maxRecDepth 100000 in
set_option maxHeartbeats 2000000 in
theorem implResidualOf_any (A : Option Addr) (n c : Nat) (B : Option Addr) (m d : Nat) (net : Net) (C : Option Addr) (l e : Nat) (zs : List Int) (x : Int) (w : World) (h : NetAt w A n c B m d net) (hz : Ints w C l e zs) (_hx : I64 x) :
    Calls Try.prog 33 #[.agg #[.slice A n c, .slice B m d], .slice C l e, .int .i64 x] w fun e w' => e = .returned (.tuple #[.int .i64 (rResidualOf net zs x).1, .int .i64 (rResidualOf net zs x).2]) ∧ Below w.heap.size w w' := by
  have HB := Lib.hid (bel1 w (.cells #[.slice A n c, .slice B m d] 27))
  by_cases h0 : codeC net zs x = 0
  · obtain ⟨hv, hf, q, rfl, hq, hqm⟩ := codeC_zero h0
    have ok := NetOK.of hv
    have hm40 : m ≤ 40 := by have := ok.m40; have := h.pipes.len; omega
    have hqm2 : q < m := by have := h.pipes.len; omega
    have hpos : 0 < m := by omega
    have HR : Hid (rResidualOf net zs q = (res net zs (cycL net q) net.pipes.length, 0)) := Lib.hid (by unfold rResidualOf; rw [if_pos h0, Int.toNat_natCast])
    go_enter Try.func33, Try.ntmps33
    go_wp2_with fail
    refine (checkChord_is _ _ _ _ _ _ net _ _ _ zs _ _ _ (h.later HB.out) (hz.later HB.out) h0).mono ?_
    rintro e w1 ⟨rfl, b1⟩
    have t1 := below_step HB.out b1
    have s1 := b1
    obtain ⟨k0, k1⟩ := box_cells s1
    go_wp2_with fail
    refine (residualOf_any _ _ _ _ _ _ net _ _ _ zs q _ (h.later t1) (hz.later t1) hv hf hq).mono ?_
    rintro e w2 ⟨rfl, b2⟩
    clear k0 k1
    have t2 := below_step t1 b2
    have s2 := below_step s1 b2
    obtain ⟨k0, k1⟩ := box_cells s2
    go_wp2_with fail
    go_ret2
    exact ⟨by rw [HR.out]; rfl, t2⟩
  · obtain ⟨k, hk⟩ : ∃ k, codeC net zs x = k := ⟨_, rfl⟩
    rw [hk] at h0
    have hne : (k != 0) = true := by simp [h0]
    have hne2 : (k == 0) = false := by simp [h0]
    have HR : Hid (rResidualOf net zs x = (0, k)) := Lib.hid (by unfold rResidualOf; rw [hk, if_neg h0])
    go_enter Try.func33, Try.ntmps33
    go_wp2_with fail
    refine (checkChord_is _ _ _ _ _ _ net _ _ _ zs _ _ _ (h.later HB.out) (hz.later HB.out) hk).mono ?_
    rintro e w1 ⟨rfl, b1⟩
    have t1 := below_step HB.out b1
    have s1 := b1
    obtain ⟨k0, k1⟩ := box_cells s1
    go_wp2_with fail
    go_ret2
    exact ⟨by rw [HR.out]; rfl, t1⟩

set_option maxRecDepth 100000 in
set_option maxHeartbeats 4000000 in
theorem implEnergyChange_any (A : Option Addr) (n c : Nat) (B : Option Addr) (m d : Nat) (net : Net) (C : Option Addr) (l e : Nat) (zs : List Int) (x : Int) (a : Int) (w : World) (h : NetAt w A n c B m d net) (hz : Ints w C l e zs) (_hx : I64 x) (_ha : I64 a) :
    Calls Try.prog 24 #[.agg #[.slice A n c, .slice B m d], .slice C l e, .int .i64 x, .int .i64 a] w fun e w' => e = .returned (.tuple #[.int .i64 (rEnergyChange net zs x a).1, .int .i64 (rEnergyChange net zs x a).2]) ∧ Below w.heap.size w w' := by
  have HB := Lib.hid (bel1 w (.cells #[.slice A n c, .slice B m d] 27))
  by_cases h0 : codeC net zs x = 0
  · obtain ⟨hv, hf, q, rfl, hq, hqm⟩ := codeC_zero h0
    have ok := NetOK.of hv
    have hm40 : m ≤ 40 := by have := ok.m40; have := h.pipes.len; omega
    have hqm2 : q < m := by have := h.pipes.len; omega
    have hpos : 0 < m := by omega
    rcases hA : inB a (-30000) 30000 with _ | _
    · have HR : Hid (rEnergyChange net zs q a = (0, 2)) := Lib.hid (by unfold rEnergyChange; rw [if_pos h0, Int.toNat_natCast, hA]; rfl)
      go_enter Try.func24, Try.ntmps24
      go_wp2_with fail
      refine (checkChord_is _ _ _ _ _ _ net _ _ _ zs _ _ _ (h.later HB.out) (hz.later HB.out) h0).mono ?_
      rintro e w1 ⟨rfl, b1⟩
      have t1 := below_step HB.out b1
      have s1 := b1
      obtain ⟨k0, k1⟩ := box_cells s1
      go_wp2_with fail
      refine (within_is _ _ _ false _ hA).mono ?_
      rintro e w' ⟨rfl, rfl⟩
      clear k0 k1
      obtain ⟨k0, k1⟩ := box_cells s1
      go_wp2_with fail
      go_ret2
      exact ⟨by rw [HR.out]; rfl, t1⟩
    · have hab : -100000 ≤ a ∧ a ≤ 100000 := by have := inB_iff'.1 hA; omega
      rcases hO : okK zs (cycL net q) a net.pipes.length with _ | _
      · have HX : Hid (chgR net zs (cycL net q) a = (0, false)) := Lib.hid (by unfold chgR; rw [hO]; rfl)
        have HR : Hid (rEnergyChange net zs q a = (0, 5)) := Lib.hid (by unfold rEnergyChange; rw [if_pos h0, Int.toNat_natCast, hA, hO]; rfl)
        have HF := Lib.hid hf
        go_enter Try.func24, Try.ntmps24
        go_wp2_with fail
        refine (checkChord_is _ _ _ _ _ _ net _ _ _ zs _ _ _ (h.later HB.out) (hz.later HB.out) h0).mono ?_
        rintro e w1 ⟨rfl, b1⟩
        have t1 := below_step HB.out b1
        have s1 := b1
        obtain ⟨k0, k1⟩ := box_cells s1
        go_wp2_with fail
        refine (within_is _ _ _ true _ hA).mono ?_
        rintro e w' ⟨rfl, rfl⟩
        clear k0 k1
        obtain ⟨k0, k1⟩ := box_cells s1
        go_wp2_with fail
        have lt0 := World.block_lt_of_cell? _ _ k0
        simp only at lt0
        apply wp_region_trackC [24, 25, 26, 27, 28, 29, 30, 23, 31, 32, 11, 12] [eqv _, eqv _, eqv _, eqv _, isRow w1.heap.size m m (cycL net q), eqv _, eqv _, eqv _, eqv _, eqv _, eqv _, eqv _]
          (fun w' => Below w1.heap.size w1 w') Grw (by kernel_rfl) (by kernel_rfl) rfl (by kernel_rfl)
        case hs =>
          refine ⟨?_, ?_, ?_, ?_, ?_, ?_, ?_, ?_, ?_, ?_, ?_, ?_, trivial⟩
          · intro ev wt ht hc hg hf hI hd
            have e4 : ev (.tmp 4) = .pointer (some ⟨w.heap.size, 0, none⟩) := ht 4 (by decide)
            have y0 := (hI.cell (p := ⟨w.heap.size, 0, none⟩) lt0).trans k0
            have y1 := (hI.cell (p := ⟨w.heap.size, 1, none⟩) lt0).trans k1
            refine opok_gen fun N hN => ?_
            clear hd ht
            go_simp
            exact hN.out _ _ ⟨hI, Below.refl _ _, rfl⟩
          · intro ev wt ht hc hg hf hI hd
            have e1 : ev (.tmp 1) = .slice C l e := ht 1 (by decide)
            exact opok_move _ rfl ⟨hI, Below.refl _ _, e1⟩
          · intro ev wt ht hc hg hf hI hd
            have e4 : ev (.tmp 4) = .pointer (some ⟨w.heap.size, 0, none⟩) := ht 4 (by decide)
            have y0 := (hI.cell (p := ⟨w.heap.size, 0, none⟩) lt0).trans k0
            have y1 := (hI.cell (p := ⟨w.heap.size, 1, none⟩) lt0).trans k1
            refine opok_gen fun N hN => ?_
            clear hd ht
            go_simp
            exact hN.out _ _ ⟨hI, Below.refl _ _, rfl⟩
          · intro ev wt ht hc hg hf hI hd
            have e2 : ev (.tmp 2) = .int .i64 q := ht 2 (by decide)
            exact opok_move _ rfl ⟨hI, Below.refl _ _, e2⟩
          · intro ev wt ht hc hg hf hI hd
            have e26 : ev (.tmp 26) = _ := hd 2 26 rfl rfl
            have e27 : ev (.tmp 27) = _ := hd 3 27 rfl rfl
            refine opok_gen fun N hN => ?_
            clear hd ht
            go_simp
            refine (cycleOf_any _ _ _ _ _ _ net q _ (h.later (below_step t1 hI)) ok hq).mono ?_
            rintro e wz ⟨Ay, rfl, oy, fy, bz_⟩
            obtain ⟨gy, rfl, hgy⟩ := oy.pos (by omega)
            have hfy : wt.heap.size ≤ gy := fy _ rfl
            have hIs := hI.size
            exact ⟨_, rfl, hN.out _ _ ⟨below_step hI bz_, bz_, ⟨gy, rfl, oy, by omega⟩⟩⟩
          · intro ev wt ht hc hg hf hI hd
            have e3 : ev (.tmp 3) = .int .i64 a := ht 3 (by decide)
            exact opok_move _ rfl ⟨hI, Below.refl _ _, e3⟩
          · intro ev wt ht hc hg hf hI hd
            have e24 : ev (.tmp 24) = _ := hd 0 24 rfl rfl
            have e25 : ev (.tmp 25) = _ := hd 1 25 rfl rfl
            have e28 := hd 4 28 rfl rfl
            have e29 : ev (.tmp 29) = _ := hd 5 29 rfl rfl
            obtain ⟨gy, e28, oy, hfy⟩ := e28
            refine opok_gen fun N hN => ?_
            clear hd ht
            go_simp
            refine (energyChange_any _ _ _ _ _ _ net _ _ _ zs _ _ _ _ a _ (h.later (below_step t1 hI)) (hz.later (below_step t1 hI)) oy.ints hv HF.out (cycL_cyc ok hq) hab).mono ?_
            rintro e wz ⟨rfl, bz_⟩
            rw [HX.out]
            exact ⟨_, rfl, hN.out _ _ ⟨below_step hI bz_, bz_, rfl⟩⟩
          · intro ev wt ht hc hg hf hI hd
            have e30 : ev (.tmp 30) = _ := hd 6 30 rfl rfl
            exact opok_move _ rfl ⟨hI, Below.refl _ _, e30⟩
          · intro ev wt ht hc hg hf hI hd
            have e23 : ev (.tmp 23) = _ := hd 7 23 rfl rfl
            refine opok_gen fun N hN => ?_
            clear hd ht
            go_simp
            exact hN.out _ _ ⟨hI, Below.refl _ _, rfl⟩
          · intro ev wt ht hc hg hf hI hd
            have e23 : ev (.tmp 23) = _ := hd 7 23 rfl rfl
            refine opok_gen fun N hN => ?_
            clear hd ht
            go_simp
            exact hN.out _ _ ⟨hI, Below.refl _ _, rfl⟩
          · intro ev wt ht hc hg hf hI hd
            have e31 : ev (.tmp 31) = _ := hd 8 31 rfl rfl
            exact opok_assign _ rfl ⟨hI, Below.refl _ _, e31⟩
          · intro ev wt ht hc hg hf hI hd
            have e32 : ev (.tmp 32) = _ := hd 9 32 rfl rfl
            exact opok_assign _ rfl ⟨hI, Below.refl _ _, e32⟩
        case hst =>
          refine fun j v w w' _ h1 h2 => StbL.nth (S := Grw) ?_ j v w w' h1 h2
          exact ⟨stb_eqv _, stb_eqv _, stb_eqv _, stb_eqv _, stb_row, stb_eqv _, stb_eqv _, stb_eqv _, stb_eqv _, stb_eqv _, stb_eqv _, stb_eqv _, trivial⟩
        case hI => exact (Below.refl _ _).drew
        case hl =>
          rintro wt hI _ rfl _ rfl _ rfl _ rfl _ ⟨gy, rfl, oy, hfy⟩ _ rfl _ rfl _ rfl _ rfl _ rfl _ rfl _ rfl
          simp only [Lasts, List.length_cons, List.length_nil, Nat.reduceAdd, List.drop_succ_cons, List.drop_zero, Act.put, List.setIfInBounds_toArray, List.set_cons_succ, List.set_cons_zero]
          rw [wpList_none]
          have t2 := below_step t1 hI
          clear k0 k1
          go_wp2_with fail
          go_ret2
          exact ⟨by rw [HR.out]; rfl, t2⟩
      · have HX : Hid (chgR net zs (cycL net q) a = (chg net zs (cycL net q) a net.pipes.length, true)) := Lib.hid (by unfold chgR; rw [hO]; rfl)
        have HR : Hid (rEnergyChange net zs q a = (chg net zs (cycL net q) a net.pipes.length, 0)) := Lib.hid (by unfold rEnergyChange; rw [if_pos h0, Int.toNat_natCast, hA, hO]; rfl)
        clear hO
        generalize chg net zs (cycL net q) a net.pipes.length = GG at *
        have HF := Lib.hid hf
        go_enter Try.func24, Try.ntmps24
        go_wp2_with fail
        refine (checkChord_is _ _ _ _ _ _ net _ _ _ zs _ _ _ (h.later HB.out) (hz.later HB.out) h0).mono ?_
        rintro e w1 ⟨rfl, b1⟩
        have t1 := below_step HB.out b1
        have s1 := b1
        obtain ⟨k0, k1⟩ := box_cells s1
        go_wp2_with fail
        refine (within_is _ _ _ true _ hA).mono ?_
        rintro e w' ⟨rfl, rfl⟩
        clear k0 k1
        obtain ⟨k0, k1⟩ := box_cells s1
        go_wp2_with fail
        have lt0 := World.block_lt_of_cell? _ _ k0
        simp only at lt0
        apply wp_region_trackC [24, 25, 26, 27, 28, 29, 30, 23, 31, 32, 11, 12] [eqv _, eqv _, eqv _, eqv _, isRow w1.heap.size m m (cycL net q), eqv _, eqv _, eqv _, eqv _, eqv _, eqv _, eqv _]
          (fun w' => Below w1.heap.size w1 w') Grw (by kernel_rfl) (by kernel_rfl) rfl (by kernel_rfl)
        case hs =>
          refine ⟨?_, ?_, ?_, ?_, ?_, ?_, ?_, ?_, ?_, ?_, ?_, ?_, trivial⟩
          · intro ev wt ht hc hg hf hI hd
            have e4 : ev (.tmp 4) = .pointer (some ⟨w.heap.size, 0, none⟩) := ht 4 (by decide)
            have y0 := (hI.cell (p := ⟨w.heap.size, 0, none⟩) lt0).trans k0
            have y1 := (hI.cell (p := ⟨w.heap.size, 1, none⟩) lt0).trans k1
            refine opok_gen fun N hN => ?_
            clear hd ht
            go_simp
            exact hN.out _ _ ⟨hI, Below.refl _ _, rfl⟩
          · intro ev wt ht hc hg hf hI hd
            have e1 : ev (.tmp 1) = .slice C l e := ht 1 (by decide)
            exact opok_move _ rfl ⟨hI, Below.refl _ _, e1⟩
          · intro ev wt ht hc hg hf hI hd
            have e4 : ev (.tmp 4) = .pointer (some ⟨w.heap.size, 0, none⟩) := ht 4 (by decide)
            have y0 := (hI.cell (p := ⟨w.heap.size, 0, none⟩) lt0).trans k0
            have y1 := (hI.cell (p := ⟨w.heap.size, 1, none⟩) lt0).trans k1
            refine opok_gen fun N hN => ?_
            clear hd ht
            go_simp
            exact hN.out _ _ ⟨hI, Below.refl _ _, rfl⟩
          · intro ev wt ht hc hg hf hI hd
            have e2 : ev (.tmp 2) = .int .i64 q := ht 2 (by decide)
            exact opok_move _ rfl ⟨hI, Below.refl _ _, e2⟩
          · intro ev wt ht hc hg hf hI hd
            have e26 : ev (.tmp 26) = _ := hd 2 26 rfl rfl
            have e27 : ev (.tmp 27) = _ := hd 3 27 rfl rfl
            refine opok_gen fun N hN => ?_
            clear hd ht
            go_simp
            refine (cycleOf_any _ _ _ _ _ _ net q _ (h.later (below_step t1 hI)) ok hq).mono ?_
            rintro e wz ⟨Ay, rfl, oy, fy, bz_⟩
            obtain ⟨gy, rfl, hgy⟩ := oy.pos (by omega)
            have hfy : wt.heap.size ≤ gy := fy _ rfl
            have hIs := hI.size
            exact ⟨_, rfl, hN.out _ _ ⟨below_step hI bz_, bz_, ⟨gy, rfl, oy, by omega⟩⟩⟩
          · intro ev wt ht hc hg hf hI hd
            have e3 : ev (.tmp 3) = .int .i64 a := ht 3 (by decide)
            exact opok_move _ rfl ⟨hI, Below.refl _ _, e3⟩
          · intro ev wt ht hc hg hf hI hd
            have e24 : ev (.tmp 24) = _ := hd 0 24 rfl rfl
            have e25 : ev (.tmp 25) = _ := hd 1 25 rfl rfl
            have e28 := hd 4 28 rfl rfl
            have e29 : ev (.tmp 29) = _ := hd 5 29 rfl rfl
            obtain ⟨gy, e28, oy, hfy⟩ := e28
            refine opok_gen fun N hN => ?_
            clear hd ht
            go_simp
            refine (energyChange_any _ _ _ _ _ _ net _ _ _ zs _ _ _ _ a _ (h.later (below_step t1 hI)) (hz.later (below_step t1 hI)) oy.ints hv HF.out (cycL_cyc ok hq) hab).mono ?_
            rintro e wz ⟨rfl, bz_⟩
            rw [HX.out]
            exact ⟨_, rfl, hN.out _ _ ⟨below_step hI bz_, bz_, rfl⟩⟩
          · intro ev wt ht hc hg hf hI hd
            have e30 : ev (.tmp 30) = _ := hd 6 30 rfl rfl
            exact opok_move _ rfl ⟨hI, Below.refl _ _, e30⟩
          · intro ev wt ht hc hg hf hI hd
            have e23 : ev (.tmp 23) = _ := hd 7 23 rfl rfl
            refine opok_gen fun N hN => ?_
            clear hd ht
            go_simp
            exact hN.out _ _ ⟨hI, Below.refl _ _, rfl⟩
          · intro ev wt ht hc hg hf hI hd
            have e23 : ev (.tmp 23) = _ := hd 7 23 rfl rfl
            refine opok_gen fun N hN => ?_
            clear hd ht
            go_simp
            exact hN.out _ _ ⟨hI, Below.refl _ _, rfl⟩
          · intro ev wt ht hc hg hf hI hd
            have e31 : ev (.tmp 31) = _ := hd 8 31 rfl rfl
            exact opok_assign _ rfl ⟨hI, Below.refl _ _, e31⟩
          · intro ev wt ht hc hg hf hI hd
            have e32 : ev (.tmp 32) = _ := hd 9 32 rfl rfl
            exact opok_assign _ rfl ⟨hI, Below.refl _ _, e32⟩
        case hst =>
          refine fun j v w w' _ h1 h2 => StbL.nth (S := Grw) ?_ j v w w' h1 h2
          exact ⟨stb_eqv _, stb_eqv _, stb_eqv _, stb_eqv _, stb_row, stb_eqv _, stb_eqv _, stb_eqv _, stb_eqv _, stb_eqv _, stb_eqv _, stb_eqv _, trivial⟩
        case hI => exact (Below.refl _ _).drew
        case hl =>
          rintro wt hI _ rfl _ rfl _ rfl _ rfl _ ⟨gy, rfl, oy, hfy⟩ _ rfl _ rfl _ rfl _ rfl _ rfl _ rfl _ rfl
          simp only [Lasts, List.length_cons, List.length_nil, Nat.reduceAdd, List.drop_succ_cons, List.drop_zero, Act.put, List.setIfInBounds_toArray, List.set_cons_succ, List.set_cons_zero]
          rw [wpList_none]
          have t2 := below_step t1 hI
          clear k0 k1
          go_wp2_with fail
          go_ret2
          exact ⟨by rw [HR.out]; rfl, t2⟩
  · obtain ⟨k, hk⟩ : ∃ k, codeC net zs x = k := ⟨_, rfl⟩
    rw [hk] at h0
    have hne : (k != 0) = true := by simp [h0]
    have hne2 : (k == 0) = false := by simp [h0]
    have HR : Hid (rEnergyChange net zs x a = (0, k)) := Lib.hid (by unfold rEnergyChange; rw [hk, if_neg h0])
    go_enter Try.func24, Try.ntmps24
    go_wp2_with fail
    refine (checkChord_is _ _ _ _ _ _ net _ _ _ zs _ _ _ (h.later HB.out) (hz.later HB.out) hk).mono ?_
    rintro e w1 ⟨rfl, b1⟩
    have t1 := below_step HB.out b1
    have s1 := b1
    obtain ⟨k0, k1⟩ := box_cells s1
    go_wp2_with fail
    go_ret2
    exact ⟨by rw [HR.out]; rfl, t1⟩

set_option maxRecDepth 100000 in
set_option maxHeartbeats 4000000 in
theorem specEnergyChange_any (A : Option Addr) (n c : Nat) (B : Option Addr) (m d : Nat) (net : Net) (C : Option Addr) (l e : Nat) (zs : List Int) (x : Int) (a : Int) (w : World) (h : NetAt w A n c B m d net) (hz : Ints w C l e zs) (_hx : I64 x) (_ha : I64 a) :
    Calls Try.prog 25 #[.agg #[.slice A n c, .slice B m d], .slice C l e, .int .i64 x, .int .i64 a] w fun e w' => e = .returned (.tuple #[.int .i64 (rEnergyChange net zs x a).1, .int .i64 (rEnergyChange net zs x a).2]) ∧ Below w.heap.size w w' := by
  have HB := Lib.hid (bel1 w (.cells #[.slice A n c, .slice B m d] 27))
  by_cases h0 : codeC net zs x = 0
  · obtain ⟨hv, hf, q, rfl, hq, hqm⟩ := codeC_zero h0
    have ok := NetOK.of hv
    have hm40 : m ≤ 40 := by have := ok.m40; have := h.pipes.len; omega
    have hqm2 : q < m := by have := h.pipes.len; omega
    have hpos : 0 < m := by omega
    have HLM : Hid (l = m) := Lib.hid (by have := flowB_len hf; have := h.pipes.len; have := hz.len; omega)
    have HF := Lib.hid hf
    have HCY := Lib.hid (cycL_cyc ok hq)
    rcases hA : inB a (-30000) 30000 with _ | _
    · have HR : Hid (rEnergyChange net zs q a = (0, 2)) := Lib.hid (by unfold rEnergyChange; rw [if_pos h0, Int.toNat_natCast, hA]; rfl)
      go_enter Try.func25, Try.ntmps25
      go_wp2_with fail
      refine (l10Code_is _ _ _ _ _ _ net _ _ _ zs _ _ _ (h.later HB.out) (hz.later HB.out) h0).mono ?_
      rintro e w1 ⟨rfl, b1⟩
      have t1 := below_step HB.out b1
      have s1 := b1
      obtain ⟨k0, k1⟩ := box_cells s1
      go_wp2_with fail
      refine (l05Flow_is _ false _ hA).mono ?_
      rintro e w' ⟨rfl, rfl⟩
      clear k0 k1
      obtain ⟨k0, k1⟩ := box_cells s1
      go_wp2_with fail
      go_ret2
      exact ⟨by rw [HR.out]; rfl, t1⟩
    · have hab : -30000 ≤ a ∧ a ≤ 30000 := inB_iff'.1 hA
      rcases hO : okK zs (cycL net q) a net.pipes.length with _ | _
      · have hO2 : flowB net (addL zs (cycL net q) a) = false := by rw [flow_okK hf HCY.out.len, hO]
        have HR : Hid (rEnergyChange net zs q a = (0, 5)) := Lib.hid (by unfold rEnergyChange; rw [if_pos h0, Int.toNat_natCast, hA, hO]; rfl)
        clear hO
        go_enter Try.func25, Try.ntmps25
        go_wp2_with fail
        refine (l10Code_is _ _ _ _ _ _ net _ _ _ zs _ _ _ (h.later HB.out) (hz.later HB.out) h0).mono ?_
        rintro e w1 ⟨rfl, b1⟩
        have t1 := below_step HB.out b1
        have s1 := b1
        obtain ⟨k0, k1⟩ := box_cells s1
        go_wp2_with fail
        refine (l05Flow_is _ true _ hA).mono ?_
        rintro e w' ⟨rfl, rfl⟩
        clear k0 k1
        obtain ⟨k0, k1⟩ := box_cells s1
        go_wp2_with fail
        refine (l05Cycle_any _ _ _ _ _ _ net q _ (h.later t1) ok hq).mono ?_
        rintro e w3 ⟨Ay, rfl, oy, fy, b3⟩
        clear k0 k1
        have t3 := below_step t1 b3
        have s3 := below_step s1 b3
        obtain ⟨k0, k1⟩ := box_cells s3
        go_wp2_with fail
        refine (l05Add_any _ _ _ zs _ _ _ _ a _ (hz.later t3) oy.ints (by have := HLM.out; omega) (by have := HLM.out; omega) (fun j => by have := flowB_all HF.out j; omega) (fun j => by have := HCY.out.bnd j; omega) (by omega)).mono ?_
        rintro e w4 ⟨Aa, ca, rfl, oa, fa, b4⟩
        clear k0 k1
        have t4 := below_step t3 b4
        have s4 := below_step s3 b4
        obtain ⟨k0, k1⟩ := box_cells s4
        go_wp2_with fail
        refine (l05List_is _ _ _ _ _ _ _ _ _ net _ _ _ (h.later t4) oa.ints hO2).mono ?_
        rintro e w5 ⟨rfl, b5⟩
        clear k0 k1
        have t5 := below_step t4 b5
        have s5 := below_step s4 b5
        obtain ⟨k0, k1⟩ := box_cells s5
        go_wp2_with fail
        go_ret2
        exact ⟨by rw [HR.out]; rfl, t5⟩
      · have hO2 : flowB net (addL zs (cycL net q) a) = true := by rw [flow_okK hf HCY.out.len, hO]
        have HEE : Hid (chg net zs (cycL net q) a net.pipes.length = eng net.pipes (addL zs (cycL net q) a) l - eng net.pipes zs l) := Lib.hid (by rw [chg_eng (by rw [HCY.out.len, flowB_len hf]), HLM.out, h.pipes.len])
        obtain ⟨E1, hE1⟩ : ∃ E1, eng net.pipes (addL zs (cycL net q) a) l = E1 := ⟨_, rfl⟩
        obtain ⟨E2, hE2⟩ : ∃ E2, eng net.pipes zs l = E2 := ⟨_, rfl⟩
        have be1 := eng_bnd hv hO2 l (by have := HLM.out; have := h.pipes.len; omega)
        have be2 := eng_bnd hv hf l (by have := HLM.out; have := h.pipes.len; omega)
        rw [hE1] at be1
        rw [hE2] at be2
        have HE1 := Lib.hid hE1
        have HE2 := Lib.hid hE2
        rw [hE1, hE2] at HEE
        have HR : Hid (rEnergyChange net zs q a = (E1 - E2, 0)) := Lib.hid (by unfold rEnergyChange; rw [if_pos h0, Int.toNat_natCast, hA, hO, HEE.out]; rfl)
        clear hO HEE hE1 hE2
        go_enter Try.func25, Try.ntmps25
        go_wp2_with fail
        refine (l10Code_is _ _ _ _ _ _ net _ _ _ zs _ _ _ (h.later HB.out) (hz.later HB.out) h0).mono ?_
        rintro e w1 ⟨rfl, b1⟩
        have t1 := below_step HB.out b1
        have s1 := b1
        obtain ⟨k0, k1⟩ := box_cells s1
        go_wp2_with fail
        refine (l05Flow_is _ true _ hA).mono ?_
        rintro e w' ⟨rfl, rfl⟩
        clear k0 k1
        obtain ⟨k0, k1⟩ := box_cells s1
        go_wp2_with fail
        refine (l05Cycle_any _ _ _ _ _ _ net q _ (h.later t1) ok hq).mono ?_
        rintro e w3 ⟨Ay, rfl, oy, fy, b3⟩
        clear k0 k1
        have t3 := below_step t1 b3
        have s3 := below_step s1 b3
        obtain ⟨k0, k1⟩ := box_cells s3
        go_wp2_with fail
        refine (l05Add_any _ _ _ zs _ _ _ _ a _ (hz.later t3) oy.ints (by have := HLM.out; omega) (by have := HLM.out; omega) (fun j => by have := flowB_all HF.out j; omega) (fun j => by have := HCY.out.bnd j; omega) (by omega)).mono ?_
        rintro e w4 ⟨Aa, ca, rfl, oa, fa, b4⟩
        clear k0 k1
        have t4 := below_step t3 b4
        have s4 := below_step s3 b4
        obtain ⟨k0, k1⟩ := box_cells s4
        go_wp2_with fail
        refine (l05List_is _ _ _ _ _ _ _ _ _ net _ _ _ (h.later t4) oa.ints hO2).mono ?_
        rintro e w5 ⟨rfl, b5⟩
        clear k0 k1
        have t5 := below_step t4 b5
        have s5 := below_step s4 b5
        obtain ⟨k0, k1⟩ := box_cells s5
        go_wp2_with fail
        have lt0 := World.block_lt_of_cell? _ _ k0
        simp only at lt0
        apply wp_region_track [36, 37, 38, 39, 40, 41, 42] [eqv _, eqv _, eqv _, eqv _, eqv _, eqv _, eqv _]
          (fun w' => Below w5.heap.size w5 w') Grw (by kernel_rfl) (by kernel_rfl) rfl (by kernel_rfl)
        case hs =>
          refine ⟨?_, ?_, ?_, ?_, ?_, ?_, ?_, trivial⟩
          · intro ev wt ht hc hg hf hI hd
            have e4 : ev (.tmp 4) = .pointer (some ⟨w.heap.size, 0, none⟩) := ht 4 (by decide)
            have y0 := (hI.cell (p := ⟨w.heap.size, 0, none⟩) lt0).trans k0
            have y1 := (hI.cell (p := ⟨w.heap.size, 1, none⟩) lt0).trans k1
            refine opok_gen fun N hN => ?_
            clear hd ht
            go_simp
            exact hN.out _ _ ⟨hI, Below.refl _ _, rfl⟩
          · intro ev wt ht hc hg hf hI hd
            have e11 : ev (.tmp 11) = .slice Aa l ca := ht 11 (by decide)
            exact opok_move _ rfl ⟨hI, Below.refl _ _, e11⟩
          · intro ev wt ht hc hg hf hI hd
            have e36 : ev (.tmp 36) = _ := hd 0 36 rfl rfl
            have e37 : ev (.tmp 37) = _ := hd 1 37 rfl rfl
            refine opok_gen fun N hN => ?_
            clear hd ht
            go_simp
            refine (l10Energy_any _ _ _ _ _ _ net _ _ _ (addL zs (cycL net q) a) _ (h.later (below_step t5 hI)) ((oa.later b5).later hI).ints hv hO2).mono ?_
            rintro e wz ⟨rfl, bz_⟩
            rw [HE1.out]
            exact ⟨_, rfl, hN.out _ _ ⟨below_step hI bz_, bz_, rfl⟩⟩
          · intro ev wt ht hc hg hf hI hd
            have e4 : ev (.tmp 4) = .pointer (some ⟨w.heap.size, 0, none⟩) := ht 4 (by decide)
            have y0 := (hI.cell (p := ⟨w.heap.size, 0, none⟩) lt0).trans k0
            have y1 := (hI.cell (p := ⟨w.heap.size, 1, none⟩) lt0).trans k1
            refine opok_gen fun N hN => ?_
            clear hd ht
            go_simp
            exact hN.out _ _ ⟨hI, Below.refl _ _, rfl⟩
          · intro ev wt ht hc hg hf hI hd
            have e1 : ev (.tmp 1) = .slice C l e := ht 1 (by decide)
            exact opok_move _ rfl ⟨hI, Below.refl _ _, e1⟩
          · intro ev wt ht hc hg hf hI hd
            have e39 : ev (.tmp 39) = _ := hd 3 39 rfl rfl
            have e40 : ev (.tmp 40) = _ := hd 4 40 rfl rfl
            refine opok_gen fun N hN => ?_
            clear hd ht
            go_simp
            refine (l10Energy_any _ _ _ _ _ _ net _ _ _ zs _ (h.later (below_step t5 hI)) (hz.later (below_step t5 hI)) hv HF.out).mono ?_
            rintro e wz ⟨rfl, bz_⟩
            rw [HE2.out]
            exact ⟨_, rfl, hN.out _ _ ⟨below_step hI bz_, bz_, rfl⟩⟩
          · intro ev wt ht hc hg hf hI hd
            have e38 : ev (.tmp 38) = _ := hd 2 38 rfl rfl
            have e41 : ev (.tmp 41) = _ := hd 5 41 rfl rfl
            refine opok_gen fun N hN => ?_
            clear hd ht
            go_simp
            exact hN.out _ _ ⟨hI, Below.refl _ _, rfl⟩
        case hst =>
          refine fun j v w w' _ h1 h2 => StbL.nth (S := Grw) ?_ j v w w' h1 h2
          exact ⟨stb_eqv _, stb_eqv _, stb_eqv _, stb_eqv _, stb_eqv _, stb_eqv _, stb_eqv _, trivial⟩
        case hI => exact (Below.refl _ _).drew
        case hl =>
          rintro wt hI _ rfl _ rfl _ rfl _ rfl _ rfl _ rfl _ rfl
          simp only [Lasts, List.length_cons, List.length_nil, Nat.reduceAdd, List.drop_succ_cons, List.drop_zero, Act.put, List.setIfInBounds_toArray, List.set_cons_succ, List.set_cons_zero]
          have t6 := below_step t5 hI
          clear k0 k1
          go_wp2_with fail
          go_ret2
          exact ⟨by rw [HR.out]; show Ending.returned (.tuple #[.int .i64 (IntKind.i64.wrap (E1 - E2)), .int .i64 0]) = _; rw [wrap_id ⟨by omega, by omega⟩], t6⟩
  · obtain ⟨k, hk⟩ : ∃ k, codeC net zs x = k := ⟨_, rfl⟩
    rw [hk] at h0
    have hne : (k != 0) = true := by simp [h0]
    have hne2 : (k == 0) = false := by simp [h0]
    have HR : Hid (rEnergyChange net zs x a = (0, k)) := Lib.hid (by unfold rEnergyChange; rw [hk, if_neg h0])
    go_enter Try.func25, Try.ntmps25
    go_wp2_with fail
    refine (l10Code_is _ _ _ _ _ _ net _ _ _ zs _ _ _ (h.later HB.out) (hz.later HB.out) hk).mono ?_
    rintro e w1 ⟨rfl, b1⟩
    have t1 := below_step HB.out b1
    have s1 := b1
    obtain ⟨k0, k1⟩ := box_cells s1
    go_wp2_with fail
    go_ret2
    exact ⟨by rw [HR.out]; rfl, t1⟩

def addM (zs cs : List Int) (a : Int) (k : Nat) : List Int := mapTo zs.length (fun i => if i < k then ig zs i + a * ig cs i else ig cs i)
theorem addM_zero {zs cs : List Int} {a : Int} (h : cs.length = zs.length) : cs = addM zs cs a 0 := ext_ig (by rw [addM, mapTo_len, h]) fun j hj => by
  rw [addM, mapTo_ig (by omega)]; simp
theorem addM_set {zs cs : List Int} {a : Int} {k : Nat} : (addM zs cs a k).set k (ig zs k + a * ig cs k) = addM zs cs a (k + 1) := mapTo_set fun v _ => by
  by_cases e : k = v
  · subst e; rw [if_pos rfl, if_pos (by omega)]
  · rw [if_neg e]
    by_cases h : v < k
    · rw [if_pos h, if_pos (by omega)]
    · rw [if_neg h, if_neg (by omega)]
theorem addM_end {zs cs : List Int} {a : Int} {k : Nat} (h : zs.length ≤ k) : addM zs cs a k = addL zs cs a := List.map_congr_left fun v hv => by
  have := List.mem_range.1 hv
  rw [if_pos (by omega)]
theorem addM_at {zs cs : List Int} {a : Int} {k : Nat} (h : k < zs.length) : ig (addM zs cs a k) k = ig cs k := by rw [addM, mapTo_ig h, if_neg (by omega)]
theorem addM_len (zs cs : List Int) (a : Int) (k : Nat) : (addM zs cs a k).length = zs.length := mapTo_len _ _

set_option maxRecDepth 100000 in
set_option maxHeartbeats 4000000 in
theorem implAddCycle_any (A : Option Addr) (n c : Nat) (B : Option Addr) (m d : Nat) (net : Net) (C : Option Addr) (l e : Nat) (zs : List Int) (x : Int) (a : Int) (w : World) (h : NetAt w A n c B m d net) (hz : Ints w C l e zs) (_hx : I64 x) (_ha : I64 a) :
    Calls Try.prog 26 #[.agg #[.slice A n c, .slice B m d], .slice C l e, .int .i64 x, .int .i64 a] w fun e w' => RetLI w (rAddCycle net zs x a) e w' := by
  have HB := Lib.hid (bel1 w (.cells #[.slice A n c, .slice B m d] 27))
  by_cases h0 : codeF net zs = 0
  · obtain ⟨hv, hs⟩ := codeF_zero h0
    have ok := NetOK.of hv
    rcases hC : chdB net x with _ | _
    · have HR : Hid (rAddCycle net zs x a = ([], 4)) := Lib.hid (by unfold rAddCycle codeC; rw [if_pos h0, hC]; rfl)
      go_enter Try.func26, Try.ntmps26
      go_wp2_with fail
      refine (checkFlows_is _ _ _ _ _ _ _ _ _ net zs _ _ (h.later HB.out) (hz.later HB.out) h0).mono ?_
      rintro e w1 ⟨rfl, b1⟩
      have t1 := below_step HB.out b1
      have s1 := b1
      obtain ⟨k0, k1⟩ := box_cells s1
      go_wp2_with fail
      refine (chordsOf_any _ _ _ _ _ _ net _ (h.later t1) ok).mono ?_
      rintro e w2 ⟨Ac, cc, rfl, oc, fc, b2⟩
      clear k0 k1
      have t2 := below_step t1 b2
      have s2 := below_step s1 b2
      obtain ⟨k0, k1⟩ := box_cells s2
      go_wp2_with fail
      refine (slicesContains_any _ _ _ _ _ _ _ oc.ints hC).mono ?_
      rintro e w' ⟨rfl, rfl⟩
      clear k0 k1
      obtain ⟨k0, k1⟩ := box_cells s2
      go_wp2_with fail
      go_ret2
      exact retLI_nil rfl HR.out t2
    · obtain ⟨q, rfl, hq, hqm⟩ := chdB_nat hC
      have hm40 : m ≤ 40 := by have := ok.m40; have := h.pipes.len; omega
      have hqm2 : q < m := by have := h.pipes.len; omega
      have hpos : 0 < m := by omega
      have HLM : Hid (l = m) := Lib.hid (by have := flowB_len hs; have := h.pipes.len; have := hz.len; omega)
      have HF := Lib.hid hs
      have HCY := Lib.hid (cycL_cyc ok hq)
      rcases hA : inB a (-30000) 30000 with _ | _
      · have HR : Hid (rAddCycle net zs q a = ([], 2)) := Lib.hid (by unfold rAddCycle; rw [if_pos (codeC_of h0 hq), hA]; rfl)
        go_enter Try.func26, Try.ntmps26
        go_wp2_with fail
        refine (checkFlows_is _ _ _ _ _ _ _ _ _ net zs _ _ (h.later HB.out) (hz.later HB.out) h0).mono ?_
        rintro e w1 ⟨rfl, b1⟩
        have t1 := below_step HB.out b1
        have s1 := b1
        obtain ⟨k0, k1⟩ := box_cells s1
        go_wp2_with fail
        refine (chordsOf_any _ _ _ _ _ _ net _ (h.later t1) ok).mono ?_
        rintro e w2 ⟨Ac, cc, rfl, oc, fc, b2⟩
        clear k0 k1
        have t2 := below_step t1 b2
        have s2 := below_step s1 b2
        obtain ⟨k0, k1⟩ := box_cells s2
        go_wp2_with fail
        refine (slicesContains_any _ _ _ _ _ _ _ oc.ints hC).mono ?_
        rintro e w' ⟨rfl, rfl⟩
        clear k0 k1
        obtain ⟨k0, k1⟩ := box_cells s2
        go_wp2_with fail
        refine (within_is _ _ _ _ _ hA).mono ?_
        rintro e w' ⟨rfl, rfl⟩
        clear k0 k1
        obtain ⟨k0, k1⟩ := box_cells s2
        go_wp2_with fail
        go_ret2
        exact retLI_nil rfl HR.out t2
      · have hab : -30000 ≤ a ∧ a ≤ 30000 := inB_iff'.1 hA
        rcases hS : allB (addL zs (cycL net q) a) (-30000) 30000 with _ | _
        · have HR : Hid (rAddCycle net zs q a = ([], 2)) := Lib.hid (by unfold rAddCycle; rw [if_pos (codeC_of h0 hq), hA, if_pos rfl, Int.toNat_natCast, hS]; rfl)
          go_enter Try.func26, Try.ntmps26
          go_wp2_with fail
          refine (checkFlows_is _ _ _ _ _ _ _ _ _ net zs _ _ (h.later HB.out) (hz.later HB.out) h0).mono ?_
          rintro e w1 ⟨rfl, b1⟩
          have t1 := below_step HB.out b1
          have s1 := b1
          obtain ⟨k0, k1⟩ := box_cells s1
          go_wp2_with fail
          refine (chordsOf_any _ _ _ _ _ _ net _ (h.later t1) ok).mono ?_
          rintro e w2 ⟨Ac, cc, rfl, oc, fc, b2⟩
          clear k0 k1
          have t2 := below_step t1 b2
          have s2 := below_step s1 b2
          obtain ⟨k0, k1⟩ := box_cells s2
          go_wp2_with fail
          refine (slicesContains_any _ _ _ _ _ _ _ oc.ints hC).mono ?_
          rintro e w' ⟨rfl, rfl⟩
          clear k0 k1
          obtain ⟨k0, k1⟩ := box_cells s2
          go_wp2_with fail
          refine (within_is _ _ _ _ _ hA).mono ?_
          rintro e w' ⟨rfl, rfl⟩
          clear k0 k1
          obtain ⟨k0, k1⟩ := box_cells s2
          go_wp2_with fail
          refine (cycleOf_any _ _ _ _ _ _ net q _ (h.later t2) ok hq).mono ?_
          rintro e w5 ⟨Ay, rfl, oy, fy, b5⟩
          clear k0 k1
          have t5 := below_step t2 b5
          have s5 := below_step s2 b5
          obtain ⟨k0, k1⟩ := box_cells s5
          obtain ⟨gy, rfl, hgy⟩ := oy.pos (by omega)
          have hgyw : w.heap.size ≤ gy := by have := fy _ rfl; simp only at this; have := t2.size; omega
          obtain ⟨cs, hcs⟩ : ∃ cs, cycL net q = cs := ⟨_, rfl⟩
          rw [hcs] at oy HCY hS
          try rw [hcs] at HR
          have HSS := Lib.hid hS
          clear hcs k0 k1 hS fy
          have hzlen := hz.len
          have hcl : cs.length = zs.length := by rw [HCY.out.len, flowB_len HF.out]
          have oy0 : Own w5 (some ⟨gy, 0, none⟩) m m (addM zs cs a 0) := by rw [← addM_zero hcl]; exact oy
          clear oy hcl
          have hzle := hz.le
          have hzcap := hz.cap
          go_wp2_with fail
          go_loopw [33] (fun i wr => ∃ k : Nat, k ≤ l ∧ i = .int .i64 k ∧ Own wr (some ⟨gy, 0, none⟩) m m (addM zs cs a k) ∧ Below w.heap.size w wr) (fun i _ => l - (intOf i).toNat)
          case atStart => exact ⟨0, by omega, rfl, oy0, t5⟩
          case round =>
            obtain ⟨k, hk, rfl, ow, hb⟩ := hrel
            clear oy0
            by_cases hlt : k < l
            · obtain ⟨bz, offz, rfl, hblz, hcz⟩ := (hz.later hb).cells (by omega)
              have hckz := hcz k hlt
              clear hcz
              have hkm : k < m := by have := HLM.out; omega
              have cw := ow.cell hkm
              rw [addM_at (by omega)] at cw
              have uw := ow.unfrozen k
              have hq1 := flowB_all HF.out k
              have hu := HCY.out.bnd k
              have hp : -30000 ≤ a * ig cs k ∧ a * ig cs k ≤ 30000 := by
                rcases HCY.out.u k with h | h | h <;> rw [h] <;> omega
              have os := ow.store k (z := ig zs k + a * ig cs k) ⟨by omega, by omega⟩
              rw [addM_set] at os
              have hb2 := hb.setCell (p := ⟨gy, k, none⟩) hgyw (.int .i64 (ig zs k + a * ig cs k))
              have OS := Lib.hid os
              have HB2 := Lib.hid hb2
              clear os hb2 ow
              generalize ig cs k = Z at *
              generalize ig zs k = Q at *
              go_wp2_with fail
              go_roundw
              case rel => exact ⟨k + 1, by omega, by go_num, OS.out, HB2.out⟩
              case measure => simp [intOf]; omega
            · have hkl : zs.length ≤ k := by omega
              rw [addM_end hkl] at ow
              clear hkl
              go_wp2_with fail
              refine (checkedFlows_is _ _ _ _ _ _ ow.ints HSS.out).mono ?_
              rintro e w' ⟨rfl, rfl⟩
              go_wp2_with fail
              go_ret2
              exact retLI_nil rfl HR.out hb
        · have HR : Hid (rAddCycle net zs q a = (addL zs (cycL net q) a, 0)) := Lib.hid (by unfold rAddCycle; rw [if_pos (codeC_of h0 hq), hA, if_pos rfl, Int.toNat_natCast, hS, if_pos rfl])
          go_enter Try.func26, Try.ntmps26
          go_wp2_with fail
          refine (checkFlows_is _ _ _ _ _ _ _ _ _ net zs _ _ (h.later HB.out) (hz.later HB.out) h0).mono ?_
          rintro e w1 ⟨rfl, b1⟩
          have t1 := below_step HB.out b1
          have s1 := b1
          obtain ⟨k0, k1⟩ := box_cells s1
          go_wp2_with fail
          refine (chordsOf_any _ _ _ _ _ _ net _ (h.later t1) ok).mono ?_
          rintro e w2 ⟨Ac, cc, rfl, oc, fc, b2⟩
          clear k0 k1
          have t2 := below_step t1 b2
          have s2 := below_step s1 b2
          obtain ⟨k0, k1⟩ := box_cells s2
          go_wp2_with fail
          refine (slicesContains_any _ _ _ _ _ _ _ oc.ints hC).mono ?_
          rintro e w' ⟨rfl, rfl⟩
          clear k0 k1
          obtain ⟨k0, k1⟩ := box_cells s2
          go_wp2_with fail
          refine (within_is _ _ _ _ _ hA).mono ?_
          rintro e w' ⟨rfl, rfl⟩
          clear k0 k1
          obtain ⟨k0, k1⟩ := box_cells s2
          go_wp2_with fail
          refine (cycleOf_any _ _ _ _ _ _ net q _ (h.later t2) ok hq).mono ?_
          rintro e w5 ⟨Ay, rfl, oy, fy, b5⟩
          clear k0 k1
          have t5 := below_step t2 b5
          have s5 := below_step s2 b5
          obtain ⟨k0, k1⟩ := box_cells s5
          obtain ⟨gy, rfl, hgy⟩ := oy.pos (by omega)
          have hgyw : w.heap.size ≤ gy := by have := fy _ rfl; simp only at this; have := t2.size; omega
          obtain ⟨cs, hcs⟩ : ∃ cs, cycL net q = cs := ⟨_, rfl⟩
          rw [hcs] at oy HCY hS
          try rw [hcs] at HR
          have HSS := Lib.hid hS
          clear hcs k0 k1 hS fy
          have hzlen := hz.len
          have hcl : cs.length = zs.length := by rw [HCY.out.len, flowB_len HF.out]
          have oy0 : Own w5 (some ⟨gy, 0, none⟩) m m (addM zs cs a 0) := by rw [← addM_zero hcl]; exact oy
          clear oy hcl
          have hzle := hz.le
          have hzcap := hz.cap
          go_wp2_with fail
          go_loopw [33] (fun i wr => ∃ k : Nat, k ≤ l ∧ i = .int .i64 k ∧ Own wr (some ⟨gy, 0, none⟩) m m (addM zs cs a k) ∧ Below w.heap.size w wr) (fun i _ => l - (intOf i).toNat)
          case atStart => exact ⟨0, by omega, rfl, oy0, t5⟩
          case round =>
            obtain ⟨k, hk, rfl, ow, hb⟩ := hrel
            clear oy0
            by_cases hlt : k < l
            · obtain ⟨bz, offz, rfl, hblz, hcz⟩ := (hz.later hb).cells (by omega)
              have hckz := hcz k hlt
              clear hcz
              have hkm : k < m := by have := HLM.out; omega
              have cw := ow.cell hkm
              rw [addM_at (by omega)] at cw
              have uw := ow.unfrozen k
              have hq1 := flowB_all HF.out k
              have hu := HCY.out.bnd k
              have hp : -30000 ≤ a * ig cs k ∧ a * ig cs k ≤ 30000 := by
                rcases HCY.out.u k with h | h | h <;> rw [h] <;> omega
              have os := ow.store k (z := ig zs k + a * ig cs k) ⟨by omega, by omega⟩
              rw [addM_set] at os
              have hb2 := hb.setCell (p := ⟨gy, k, none⟩) hgyw (.int .i64 (ig zs k + a * ig cs k))
              have OS := Lib.hid os
              have HB2 := Lib.hid hb2
              clear os hb2 ow
              generalize ig cs k = Z at *
              generalize ig zs k = Q at *
              go_wp2_with fail
              go_roundw
              case rel => exact ⟨k + 1, by omega, by go_num, OS.out, HB2.out⟩
              case measure => simp [intOf]; omega
            · have hkl : zs.length ≤ k := by omega
              rw [addM_end hkl] at ow
              clear hkl
              go_wp2_with fail
              refine (checkedFlows_is _ _ _ _ _ _ ow.ints HSS.out).mono ?_
              rintro e w' ⟨rfl, rfl⟩
              go_wp2_with fail
              go_ret2
              exact retLI_own rfl HR.out ow (fun a ha => by injection ha with ha; subst ha; exact hgyw) hb
  · obtain ⟨k, hk⟩ : ∃ k, codeF net zs = k := ⟨_, rfl⟩
    rw [hk] at h0
    have hne : (k != 0) = true := by simp [h0]
    have hne2 : (k == 0) = false := by simp [h0]
    have HR : Hid (rAddCycle net zs x a = ([], k)) := Lib.hid (by unfold rAddCycle codeC; rw [hk, if_neg h0, if_neg h0])
    go_enter Try.func26, Try.ntmps26
    go_wp2_with fail
    refine (checkFlows_is _ _ _ _ _ _ _ _ _ net zs _ _ (h.later HB.out) (hz.later HB.out) hk).mono ?_
    rintro e w1 ⟨rfl, b1⟩
    have t1 := below_step HB.out b1
    have s1 := b1
    obtain ⟨k0, k1⟩ := box_cells s1
    go_wp2_with fail
    go_ret2
    exact retLI_nil rfl HR.out t1

end Go.Proofs.Ytllblmndoigdlaa
