/- draws: DrawIsCirculation -/
import Derived.Test.YtllblmndoigdlaaDa
import Derived.Test.YtllblmndoigdlaaRh
import Derived.Test.YtllblmndoigdlaaK2
namespace Go.Proofs.Ytllblmndoigdlaa
open Go.RowKit

theorem rFromChords_fit {net : Net} {zs : List Int} {X : List Int} (h : rFromChords net zs = (X, 0)) : X.length = net.pipes.length := by
  unfold rFromChords at h
  split at h
  · split at h
    · split at h
      · split at h
        · injection h with h1 _; rw [← h1, fcK_len]
        · injection h with _ h2; cases h2
      · injection h with _ h2; cases h2
    · injection h with _ h2; cases h2
  · injection h with _ h2; cases h2

set_option maxRecDepth 100000 in
set_option maxHeartbeats 16000000 in
theorem DrawIsCirculation_any (A : Option Addr) (n c : Nat) (bs : List Int) (w : World) (h : Bytes w A n c bs) :
    Calls Try.prog 10 #[.slice A n c] w (DG w fun _ _ => #[]) := by
  go_enter Try.func10, Try.ntmps10
  go_wp2_with fail
  refine (l01From_any _ _ _ _ _ (h.later (bel1 _ _))).mono ?_
  rintro e w1 ⟨rfl, s1, b1⟩
  simp only [World.size_alloc] at s1
  go_wp2_with fail
  refine (l05DrawChord_any _ _ _ _ _ _ s1).mono ?_
  rintro e w2 ⟨An, k, cn, Ap, m, cp, ns, ps, xc, rfl, hd, hk7, hm, hxc, hs2, hg2⟩
  have st0 := DT.start s1 b1 hd hs2 hg2
  obtain ⟨w3, hw3⟩ : ∃ w3, w3 = w2.alloc (.cells #[.slice An k cn, .slice Ap m cp] 27) := ⟨_, rfl⟩
  rw [← hw3] at st0
  have HW3 := Lib.hid hw3
  have k0 := st0.c60
  have k1 := st0.c61
  rw [hw3] at k0 k1
  clear hd hs2 hg2 b1 s1 hw3
  have hpl : Hid (ps.length = m) := Lib.hid st0.dn.op.len
  obtain ⟨R, hR⟩ : ∃ R : Nat, n % 4 = R := ⟨_, rfl⟩
  have hR3 : R ≤ 3 := by omega
  have hRi : (n : Int) % 4 = (R : Int) := by omega
  have hRn : 0 ≤ (n : Int) % 4 := by omega
  clear hR
  have ST0 := Lib.hid st0
  have o0 := own_lit0 w3
  have hg3 : w.heap.size + 1 < w3.heap.size := st0.src.lt
  have hA3 : Hid (0 < n → ∀ a, A = some a → a.block < w3.heap.size) := Lib.hid fun hn a ha => st0.src.blk hn a ha
  have hw13 : w1.heap.size ≤ w3.heap.size := st0.gr.size
  have s0 : Src (w3.alloc (.cells #[] 2)) (w.heap.size + 1) A n c bs := st0.src.alloc _
  have g0 : w3.grownBy (w3.alloc (.cells #[] 2)) (some (w.heap.size + 1)) := only_alloc (World.grownBy.refl _ _) _
  have E31 : Hid (w3.heap.size = w2.heap.size + 1) := Lib.hid (by rw [HW3.out]; exact World.size_alloc _ _)
  clear st0 k0 k1
  go_wp2_with fail
  go_loopw [7, 8] (fun p i wr => ∃ (j L5 c5 : Nat) (A5 : Option Addr) (xs : List Int), p = .slice A5 L5 c5 ∧ i = .int .i64 (j : Int) ∧ L5 ≤ j ∧ j ≤ 60 ∧ Own wr A5 L5 c5 xs ∧ Fresh w3.heap.size A5 ∧ Src wr (w.heap.size + 1) A n c bs ∧ w3.grownBy wr (some (w.heap.size + 1))) (fun _ i _ => 50 - (intOf i).toNat)
  case atStart =>
    rw [E31.out] at o0
    rw [← HW3.out]
    exact ⟨R, 0, 0, some ⟨w2.heap.size + 1, 0, none⟩, [], rfl, by rw [hRi], by omega, by omega, o0, (fun a ha => by injection ha with ha; subst ha; exact Nat.le_of_eq E31.out), s0, g0⟩
  case round =>
    clear o0 s0 g0
    obtain ⟨j, L5, c5, A5, xs, rfl, rfl, hj, hj60, oo, fo, hs, hgr⟩ := hrel
    have str := ST0.out.next hgr hs
    have k0 := str.c60
    have k1 := str.c61
    have hsz := hgr.size
    rcases hv : netB ⟨ns, ps⟩ with _ | _
    · go_wp2_with fail
      refine (specIsNetwork_is _ _ _ _ _ _ ⟨ns, ps⟩ _ _ str.net hv).mono ?_
      rintro e w5 ⟨rfl, b5⟩
      have st5 := str.later b5
      have o5 := oo.later b5
      clear str oo hs hgr k0 k1
      have k0 := st5.c60
      have k1 := st5.c61
      go_wp2_with fail
      refine (specFromChords_any _ _ _ _ _ _ ⟨ns, ps⟩ _ _ _ xs _ st5.net o5.ints).mono ?_
      rintro e w6 hR
      have hbad : (rFromChords ⟨ns, ps⟩ xs).2 ≠ 0 := by unfold rFromChords; rw [hv, if_neg (by decide)]; show (1 : Int) ≠ 0; decide
      obtain ⟨X, K, hX⟩ : ∃ X K, rFromChords ⟨ns, ps⟩ xs = (X, K) := ⟨_, _, rfl⟩
      rw [hX] at hR hbad
      obtain ⟨Ax, cx, rfl, ox, fx, b6⟩ := hR
      simp only at ox hbad
      have hK' : (K != 0) = true := by simp [hbad]
      have st6 := st5.later b6
      clear st5 o5 ox fx k0 k1 b6 hX hbad
      have j0 := st6.c60
      have j1 := st6.c61
      have d0 := st6.c20
      have d1 := st6.c21
      have d2 := st6.f2 0
      have d3 := st6.f2 1
      have hgs := st6.e3
      have ST := Lib.hid (st6.later (Below.refl _ _).drew)
      have FIN : ∀ {W : World} {Al : Option Addr} {L cl : Nat} {zs : List Int}, DT w w1 (w.heap.size + 1) A n c bs w2.heap.size An k cn Ap m cp ns ps W → Own W Al L cl zs → Fresh w1.heap.size Al → L ≤ 20 → Hid (DG w (fun _ _ => #[]) (.returned (.tuple #[.agg #[.slice An k cn, .slice Ap m cp], .slice Al L cl])) ((W.setCell ⟨w.heap.size, 0, none⟩ (.slice An k cn)).setCell ⟨w.heap.size, 1, none⟩ (.slice Ap m cp))) := fun {W Al L cl zs} h ho hf hL  => Lib.hid ⟨An, k, cn, Ap, m, cp, ns, ps, Al, L, cl, zs, 0, 0, rfl, h.fnD, h.fiO ho hf, h.fiF hf, hk7, hm, hL, ⟨by decide, by decide⟩, ⟨by decide, by decide⟩, h.fin.2⟩
      clear st6
      go_wp2_with fail
      go_region_with (go_at_call 51; refine (l05DrawFlows_any _ _ _ _ _ _ _ _ _ _ _ _ ST.out.src hm).mono ?_; rintro e wz ⟨Al, L, cl, zs, rfl, oq, fq, hLq, hsz, hgz⟩; have fq1 : Fresh w1.heap.size Al := (fun a ha => by have h1 := fq a ha; have h2 := ST.out.gr.size; omega); have stz := ST.out.next hgz hsz; have FI := FIN stz oq fq1 (by omega); have z0 := stz.c60; have z1 := stz.c61; have c0 := stz.c20; have c1 := stz.c21; have v0 := stz.f2 0; have v1 := stz.f2 1; clear stz)
      all_goals
        go_wp2_with fail
        exact bodyPost_ret (v := .tuple #[.agg #[.slice An k cn, .slice Ap m cp], .slice Al L cl]) (by simp [results, Try.results10, go_sem, c0, c1]) rfl FI.out
    · go_wp2_with fail
      refine (specIsNetwork_is _ _ _ _ _ _ ⟨ns, ps⟩ _ _ str.net hv).mono ?_
      rintro e w5 ⟨rfl, b5⟩
      have st5 := str.later b5
      have o5 := oo.later b5
      have g5 := only_trans hgr (only_below (row := some (w.heap.size + 1)) b5)
      clear str oo hs hgr k0 k1
      have k0 := st5.c60
      have k1 := st5.c61
      go_wp2_with fail
      refine (l05Chords_any _ _ _ _ _ _ ⟨ns, ps⟩ _ st5.net (NetOK.of hv)).mono ?_
      rintro e w6 ⟨Ac, cc, rfl, _, _, b6⟩
      have hch : (netG ⟨ns, ps⟩).chords.length ≤ 12 := by have h1 := chords_le ⟨ns, ps⟩; have h2 := hpl.out; have h3 : (⟨ns, ps⟩ : Net).pipes.length = ps.length := rfl; omega
      generalize (netG ⟨ns, ps⟩).chords.length = CH at *
      have st6 := st5.later b6
      have o6 := o5.later b6
      have g6 := only_trans g5 (only_below (row := some (w.heap.size + 1)) b6)
      clear st5 o5 g5 b6 k0 k1
      by_cases hlt : j < CH + R
      · have hlti : (j : Int) < (CH : Int) + (n : Int) % 4 := by omega
        have s6 := st6.src
        clear st6
        go_wp2_with fail
        refine (l01Next_any _ _ _ _ _ _ _ s6).mono ?_
        rintro e w7 ⟨q, rfl, q0, q1, _, hs7, hg7⟩
        have q1' := q1 (by omega)
        clear q1
        have o7 := (o6.lone fo hg7 (by omega)).later (bel1 w7 (.cells #[.int .i64 (q - 4)] 2))
        have g7 := only_alloc (only_trans g6 hg7) (.cells #[.int .i64 (q - 4)] 2)
        go_wp2_with (at_builtin; refine law_append _ rfl _ _ rfl A5 _ c5 _ rfl o7 _ _ (q - 4) ⟨by omega, by omega⟩ rfl (cell_new1 _ _ _) (by omega) ?_; intro A8 c8 w8 ho8 hg8 hb8)
        have s8 : Src w8 (w.heap.size + 1) A n c bs := (hs7.alloc _).new hg8 fo (by omega) (fun hn a ha => by have := hA3.out hn a ha; omega)
        have g8 := only_new g7 hg8 (fun i hi => fresh_row fo i hi)
        have f8 := fresh_app fo (by have := g7.size; exact this) hb8
        clear o7 g7 hg8 hb8
        go_roundw
        case rel => first | exact ⟨j + 1, L5 + 1, c8, A8, ⟨rfl, rfl, rfl⟩, by go_num, by omega, by omega, ⟨_, ho8⟩, f8, s8, g8⟩ | exact ⟨j + 1, L5 + 1, c8, A8, ⟨rfl, rfl, rfl⟩, by go_num, by omega, ⟨_, ho8⟩, f8, s8, g8⟩
        case measure => simp [intOf]; omega
      · have hlti : ¬ (j : Int) < (CH : Int) + (n : Int) % 4 := by omega
        have k0 := st6.c60
        have k1 := st6.c61
        have hw3 := g6.size
        go_wp2_with fail
        refine (specFromChords_any _ _ _ _ _ _ ⟨ns, ps⟩ _ _ _ xs _ st6.net o6.ints).mono ?_
        rintro e w7 hR
        obtain ⟨X, K, hX⟩ : ∃ X K, rFromChords ⟨ns, ps⟩ xs = (X, K) := ⟨_, _, rfl⟩
        rw [hX] at hR
        obtain ⟨Ax, cx, rfl, ox, fx, b7⟩ := hR
        simp only at ox
        have fx1 : Fresh w1.heap.size Ax := fun a ha => by have := fx a ha; omega
        have st7 := st6.later b7
        clear st6 o6 g6 fx k0 k1 b7
        by_cases hK : K = 0
        · subst hK
          have hXl : X.length ≤ 20 := by have h1 := rFromChords_fit hX; have h2 := hpl.out; have h3 : (⟨ns, ps⟩ : Net).pipes.length = ps.length := rfl; omega
          clear hX
          go_wp2_with fail
          refine (l01Next_any _ _ _ _ _ _ _ st7.src).mono ?_
          rintro e w8 ⟨q, rfl, q0, q1, _, hs8, hg8⟩
          clear q1
          have ox8 := ox.lone fx1 hg8 st7.e3
          have st8 := st7.next hg8 hs8
          clear st7 ox hs8 hg8
          by_cases hq : q = 0
          · subst hq
            clear ox8 q0
            have j0 := st8.c60
            have j1 := st8.c61
            have d0 := st8.c20
            have d1 := st8.c21
            have d2 := st8.f2 0
            have d3 := st8.f2 1
            have hgs := st8.e3
            have ST := Lib.hid (st8.later (Below.refl _ _).drew)
            have FIN : ∀ {W : World} {Al : Option Addr} {L cl : Nat} {zs : List Int}, DT w w1 (w.heap.size + 1) A n c bs w2.heap.size An k cn Ap m cp ns ps W → Own W Al L cl zs → Fresh w1.heap.size Al → L ≤ 20 → Hid (DG w (fun _ _ => #[]) (.returned (.tuple #[.agg #[.slice An k cn, .slice Ap m cp], .slice Al L cl])) ((W.setCell ⟨w.heap.size, 0, none⟩ (.slice An k cn)).setCell ⟨w.heap.size, 1, none⟩ (.slice Ap m cp))) := fun {W Al L cl zs} h ho hf hL  => Lib.hid ⟨An, k, cn, Ap, m, cp, ns, ps, Al, L, cl, zs, 0, 0, rfl, h.fnD, h.fiO ho hf, h.fiF hf, hk7, hm, hL, ⟨by decide, by decide⟩, ⟨by decide, by decide⟩, h.fin.2⟩
            clear st8
            go_wp2_with fail
            go_region_with (go_at_call 51; refine (l05DrawFlows_any _ _ _ _ _ _ _ _ _ _ _ _ ST.out.src hm).mono ?_; rintro e wz ⟨Al, L, cl, zs, rfl, oq, fq, hLq, hsz, hgz⟩; have fq1 : Fresh w1.heap.size Al := (fun a ha => by have h1 := fq a ha; have h2 := ST.out.gr.size; omega); have stz := ST.out.next hgz hsz; have FI := FIN stz oq fq1 (by omega); have z0 := stz.c60; have z1 := stz.c61; have c0 := stz.c20; have c1 := stz.c21; have v0 := stz.f2 0; have v1 := stz.f2 1; clear stz)
            all_goals
              go_wp2_with fail
              exact bodyPost_ret (v := .tuple #[.agg #[.slice An k cn, .slice Ap m cp], .slice Al L cl]) (by simp [results, Try.results10, go_sem, c0, c1]) rfl FI.out
          · have hq' : (q == 0) = false := by simp [hq]
            clear hq
            have j0 := st8.c60
            have j1 := st8.c61
            have d0 := st8.c20
            have d1 := st8.c21
            have d2 := st8.f2 0
            have d3 := st8.f2 1
            have FIN : ∀ {W : World} {Al : Option Addr} {L cl : Nat} {zs : List Int}, DT w w1 (w.heap.size + 1) A n c bs w2.heap.size An k cn Ap m cp ns ps W → Own W Al L cl zs → Fresh w1.heap.size Al → L ≤ 20 → Hid (DG w (fun _ _ => #[]) (.returned (.tuple #[.agg #[.slice An k cn, .slice Ap m cp], .slice Al L cl])) ((W.setCell ⟨w.heap.size, 0, none⟩ (.slice An k cn)).setCell ⟨w.heap.size, 1, none⟩ (.slice Ap m cp))) := fun {W Al L cl zs} h ho hf hL  => Lib.hid ⟨An, k, cn, Ap, m, cp, ns, ps, Al, L, cl, zs, 0, 0, rfl, h.fnD, h.fiO ho hf, h.fiF hf, hk7, hm, hL, ⟨by decide, by decide⟩, ⟨by decide, by decide⟩, h.fin.2⟩
            have FI := FIN st8 ox8 fx1 hXl
            clear FIN st8 ox8
            go_wp2_with fail
            exact bodyPost_ret (v := .tuple #[.agg #[.slice An k cn, .slice Ap m cp], .slice Ax X.length cx]) (by simp [results, Try.results10, go_sem, d0, d1]) rfl FI.out
        · have hK' : (K != 0) = true := by simp [hK]
          clear hK hX ox fx1
          have j0 := st7.c60
          have j1 := st7.c61
          have d0 := st7.c20
          have d1 := st7.c21
          have d2 := st7.f2 0
          have d3 := st7.f2 1
          have hgs := st7.e3
          have ST := Lib.hid (st7.later (Below.refl _ _).drew)
          have FIN : ∀ {W : World} {Al : Option Addr} {L cl : Nat} {zs : List Int}, DT w w1 (w.heap.size + 1) A n c bs w2.heap.size An k cn Ap m cp ns ps W → Own W Al L cl zs → Fresh w1.heap.size Al → L ≤ 20 → Hid (DG w (fun _ _ => #[]) (.returned (.tuple #[.agg #[.slice An k cn, .slice Ap m cp], .slice Al L cl])) ((W.setCell ⟨w.heap.size, 0, none⟩ (.slice An k cn)).setCell ⟨w.heap.size, 1, none⟩ (.slice Ap m cp))) := fun {W Al L cl zs} h ho hf hL  => Lib.hid ⟨An, k, cn, Ap, m, cp, ns, ps, Al, L, cl, zs, 0, 0, rfl, h.fnD, h.fiO ho hf, h.fiF hf, hk7, hm, hL, ⟨by decide, by decide⟩, ⟨by decide, by decide⟩, h.fin.2⟩
          clear st7
          go_wp2_with fail
          go_region_with (go_at_call 51; refine (l05DrawFlows_any _ _ _ _ _ _ _ _ _ _ _ _ ST.out.src hm).mono ?_; rintro e wz ⟨Al, L, cl, zs, rfl, oq, fq, hLq, hsz, hgz⟩; have fq1 : Fresh w1.heap.size Al := (fun a ha => by have h1 := fq a ha; have h2 := ST.out.gr.size; omega); have stz := ST.out.next hgz hsz; have FI := FIN stz oq fq1 (by omega); have z0 := stz.c60; have z1 := stz.c61; have c0 := stz.c20; have c1 := stz.c21; have v0 := stz.f2 0; have v1 := stz.f2 1; clear stz)
          all_goals
            go_wp2_with fail
            exact bodyPost_ret (v := .tuple #[.agg #[.slice An k cn, .slice Ap m cp], .slice Al L cl]) (by simp [results, Try.results10, go_sem, c0, c1]) rfl FI.out

end Go.Proofs.Ytllblmndoigdlaa
