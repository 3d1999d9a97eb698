/- draws: chords, loops -/
import Derived.Test.YtahmhmicegjdkaaK2
import Derived.Test.YtahmhmicegjdkaaN6
namespace Go.Proofs.Ytahmhmicegjdkaa
open Go.RowKit

set_option maxRecDepth 100000 in
set_option maxHeartbeats 1000000 in
theorem specChordsOf_any (A : Option Addr) (n c : Nat) (B : Option Addr) (m d : Nat) (net : Net) (w : World) (h : NetAt w A n c B m d net) :
    Calls Try.prog 133 #[.agg #[.slice A n c, .slice B m d]] w fun e w' => ∃ Af L cf zs code, e = .returned (.tuple #[.slice Af L cf, .int .i64 code]) ∧ Own w' Af L cf zs ∧ Fresh w.heap.size Af ∧ L ≤ 40 ∧ Below w.heap.size w w' := by
  have HB := Lib.hid (bel1 w (.cells #[.slice A n c, .slice B m d] 32))
  obtain ⟨W, hW⟩ : ∃ W, W = (w.alloc (.cells #[.slice A n c, .slice B m d] 32)) := ⟨_, rfl⟩
  have bxW : BX W w.heap.size A n c B m d := ⟨by rw [hW]; exact heap_alloc_new w _⟩
  go_enter Try.func133, Try.ntmps133
  go_wp2_with fail
  rw [← hW] at HB ⊢
  clear hW
  refine (specIsNetwork_any _ _ _ _ _ _ net _ (h.later HB.out)).mono ?_
  rintro e w1 ⟨rfl, b1⟩
  have t1 := below_step HB.out b1
  have x0 := (bxW.step b1).c0
  have x1 := (bxW.step b1).c1
  cases hv : netB net
  · go_wp2_with fail
    go_ret2
    exact ⟨none, 0, 0, [], 1, rfl, Own.nil, (by intro a ha; cases ha), by omega, t1⟩
  · have ok := NetOK.of hv
    go_wp2_with fail
    refine (l05Chords_any _ _ _ _ _ _ net _ (h.later t1) ok).mono ?_
    rintro e w2 ⟨Af, cf, rfl, of, ff, b2⟩
    have hL : (netG net).chords.length ≤ 40 := by
      have h1 := Gr.choK_len (netG net) (netG net).m
      have h2 : (netG net).m = net.pipes.length := rfl
      have h3 := ok.m40
      unfold Gr.chords; omega
    have t2 := below_step t1 b2
    go_wp2_with fail
    go_ret2
    exact ⟨Af, _, cf, _, 0, rfl, of, fun a ha => by have := ff a ha; have := t1.size; omega, hL, t2⟩

/-- append(s, x...), slices of pipes of the call's own -/
theorem law_appendPs (w : World) {ops : Array Oper} {rest : List Oper} {o : Oper} {a : Act} {Q : Exit → Act → World → Prop}
    (hg : o.guard = none) (s x : Operand) (hop : o.op = Op.call { callee := Callee.builtin Builtin.append, args := #[s, x], argTypes := #[30, 30] })
    (A : Option Addr) (n c : Nat) (zs : List Pipe) (hs : a.eval s = .slice A n c) (hown : OwnP 77 w A n c zs) (hA : A ≠ none)
    (p : Nat) (m m' : Nat) (xs : List Pipe) (hx : a.eval x = .slice (some ⟨p, 0, none⟩) m m') (hxs : OwnP 77 w (some ⟨p, 0, none⟩) m m' xs) (hn : n + m ≤ 1000000)
    (hK : ∀ A' c' w', A' ≠ none → OwnP 77 w' A' (n + m) c' (zs ++ xs) → (A'.map (·.block) = A.map (·.block) ∨ A'.map (·.block) = some w.heap.size) → w.grownBy w' (A.map (·.block)) → wpList Try.prog ops Q rest (a.put o.dst (.slice A' (n + m) c')) w') :
    wpList Try.prog ops Q (o :: rest) a w := by
  obtain ⟨i, hi, h1, h2, h3⟩ := info_parts info_pipe
  have hcells : ∀ j u, (pcells xs)[j]? = some u → w.cell? ((⟨p, 0, none⟩ : Addr).add j) = some u := by
    intro j u hu
    have hjl := (List.getElem?_eq_some_iff.1 hu).1
    rw [pcells_len, hxs.len] at hjl
    have := hxs.row.cellAt j (by omega)
    rw [hu] at this
    unfold Addr.add
    split
    · rename_i h0; rw [h0] at this; exact this
    · simpa using this
  obtain ⟨v', w', hrun, k2, k3, _, k5⟩ := run_append_own_at (P := Try.prog) w 0 30 o.type 77 i _ 5 40 Try.underlying30 hi h1 h2 h3 rfl (by omega) _ n _ hown.row ⟨p, 0, none⟩ m m' (pcells xs) (by rw [pcells_len, hxs.len]) hcells (by
    intro u hu
    obtain ⟨z, _, hz⟩ := List.mem_flatMap.1 hu
    simp at hz
    rcases hz with rfl | rfl | rfl | rfl | rfl <;> rfl) (by unfold maxLen; omega) (by omega) (Nat.zero_le _)
  have hb : ∀ (X : Option Addr) (p q : Nat), (Value.slice X p q).ownBlock = X.map (·.block) := by intro X p q; cases X <;> rfl
  rw [hb] at k3
  have hr : ∀ y ∈ zs ++ xs, y.ok := fun y hy => by
    rcases List.mem_append.1 hy with hy | hy
    · exact hown.ok y hy
    · exact hxs.ok y hy
  have hv' : ∃ A' c', A' ≠ none ∧ v' = .slice A' (n + m) c' ∧ OwnP 77 w' A' (n + m) c' (zs ++ xs) ∧ (A'.map (·.block) = A.map (·.block) ∨ A'.map (·.block) = some w.heap.size) := by
    rcases k2.2 with ⟨h, h'⟩ | ⟨g', cap, cur, h, rest⟩
    · subst h
      rw [hb, hb] at k5
      rcases k5 with k5 | k5
      · cases A with
        | none => exact absurd rfl hA
        | some x => cases k5
      · cases k5
    · subst h
      rw [hb, hb] at k5
      exact ⟨_, _, by simp, rfl, ⟨by rw [pcells_app]; exact k2, hr⟩, k5⟩
  obtain ⟨A', c', hA', rfl, ho', hb'⟩ := hv'
  refine wpList_plain hg fun K hK' => ?_
  unfold Oper.wp
  simp only [execOp, hop, resolve, invoke, builtin, Sem.run_bind, Sem.run_pure, Result.andThen_ok, List.map_toArray, List.map_cons, List.map_nil, hs, hx, hrun]
  exact hK' _ _ (hK A' c' w' hA' ho' hb' k3)

end Go.Proofs.Ytahmhmicegjdkaa
