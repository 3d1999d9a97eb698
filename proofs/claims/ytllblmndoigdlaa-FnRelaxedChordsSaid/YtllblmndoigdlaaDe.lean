/- l10Draw: a network, a flow list and a chord -/
import Derived.Test.YtllblmndoigdlaaK7
namespace Go.Proofs.Ytllblmndoigdlaa
open Go.RowKit

/-- what a draw of a network, a list and a number gives -/
def DrawnF (w : World) (g : Nat) (A : Option Addr) (n c : Nat) (bs : List Int) (e : Ending) (w' : World) : Prop :=
  ∃ An k cn Ap m cp ns ps Al L cl zs x, e = .returned (.tuple #[.agg #[.slice An k cn, .slice Ap m cp], .slice Al L cl, .int .i64 x]) ∧ DN w.heap.size w' An k cn Ap m cp ns ps ∧ Own w' Al L cl zs ∧ Fresh w.heap.size Al ∧ k ≤ 7 ∧ m ≤ 12 ∧ L ≤ 13 ∧ I64 x ∧ Src w' g A n c bs ∧ w.grownBy w' (some g)

set_option maxRecDepth 100000 in
set_option maxHeartbeats 8000000 in
theorem l10Draw_any (g : Nat) (A : Option Addr) (n c : Nat) (bs : List Int) (w : World) (h : Src w g A n c bs) :
    Calls Try.prog 74 #[.pointer (some ⟨g, 0, none⟩)] w (DrawnF w g A n c bs) := by
  have hlt := h.lt
  go_enter Try.func74, Try.ntmps74
  go_wp2_with fail
  refine (l05DrawChord_any _ _ _ _ _ _ (h.alloc _)).mono ?_
  rintro e w1 ⟨An, k, cn, Ap, m, cp, ns, ps, x, rfl, hd, hk7, hm, hx, hs1, hg1⟩
  have st := DA.start h hd hs1 hg1
  obtain ⟨w2, hw2⟩ : ∃ w2, w2 = w1.alloc (.cells #[.slice An k cn, .slice Ap m cp] 27) := ⟨_, rfl⟩
  rw [← hw2] at st
  have HW2 := Lib.hid hw2
  clear hd hs1 hg1 hw2
  go_wp2_with fail
  rw [← HW2.out]
  clear HW2
  obtain ⟨b3, hb3⟩ : ∃ b3, w1.heap.size = b3 := ⟨_, rfl⟩
  rw [hb3] at st ⊢
  clear hb3
  have hh3 := st.h3
  have j0 := st.c30
  have j1 := st.c31
  have d0 := st.c20
  have d1 := st.c21
  have d2 := st.f2 0
  have d3 := st.f2 1
  have l0 := st.lt
  have ST := Lib.hid (st.later (Below.refl _ _).drew)
  have FIN : ∀ {W : World} {Al : Option Addr} {L cl : Nat} {zs : List Int}, DA w g A n c bs w.heap.size b3 An k cn Ap m cp ns ps W → Own W Al L cl zs → (∀ a, Al = some a → w.heap.size < a.block) → L ≤ 13 → Hid (DrawnF w g A n c bs (.returned (.tuple #[.agg #[.slice An k cn, .slice Ap m cp], .slice Al L cl, .int .i64 x])) ((W.setCell ⟨w.heap.size, 0, none⟩ (.slice An k cn)).setCell ⟨w.heap.size, 1, none⟩ (.slice Ap m cp))) := fun h ho hl h3 => Lib.hid ⟨_, _, _, _, _, _, _, _, _, _, _, _, x, rfl, h.fin2.1, (ho.far (fun a ha => by have := hl a ha; show a.block ≠ w.heap.size; omega) _).far (fun a ha => by have := hl a ha; show a.block ≠ w.heap.size; omega) _, (fun a ha => by have := hl a ha; omega), hk7, hm, h3, hx, h.fin2.2⟩
  clear st
  go_region_with (go_at_call 51; refine (l05DrawFlows_any _ _ _ _ _ _ _ _ _ _ _ _ ST.out.src hm).mono ?_; rintro e wz ⟨Al, L, cl, zs, rfl, oq, fq, hLq, hsz, hgz⟩; have stz := ST.out.next hgz hsz; have FI := FIN stz oq (fun a ha => by have h1 := fq a ha; have h2 := ST.out.lt; omega) hLq; have z0 := stz.c30; have z1 := stz.c31; have c0 := stz.c20; have c1 := stz.c21; have v0 := stz.f2 0; have v1 := stz.f2 1; clear stz)
  all_goals
    go_wp2_with fail
    exact bodyPost_ret (v := .tuple #[.agg #[.slice An k cn, .slice Ap m cp], .slice Al L cl, .int .i64 x]) (by simp [results, Try.results74, go_sem, c0, c1]) rfl FI.out

end Go.Proofs.Ytllblmndoigdlaa
