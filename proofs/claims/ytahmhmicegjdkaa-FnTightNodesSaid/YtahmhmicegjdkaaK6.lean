/- draws: chords, flows -/
import Derived.Test.YtahmhmicegjdkaaK5
namespace Go.Proofs.Ytahmhmicegjdkaa
open Go.RowKit

theorem DA.fin2 {w W : World} {g : Nat} {A : Option Addr} {n c : Nat} {bs : List Int} {b2 b3 : Nat} {An : Option Addr} {k cn : Nat} {Ap : Option Addr} {m cp : Nat} {ns : List Node} {ps : List Pipe} (h : DA w g A n c bs b2 b3 An k cn Ap m cp ns ps W) :
    DN w.heap.size ((W.setCell ⟨b2, 0, none⟩ (.slice An k cn)).setCell ⟨b2, 1, none⟩ (.slice Ap m cp)) An k cn Ap m cp ns ps ∧ Src ((W.setCell ⟨b2, 0, none⟩ (.slice An k cn)).setCell ⟨b2, 1, none⟩ (.slice Ap m cp)) g A n c bs ∧ w.grownBy ((W.setCell ⟨b2, 0, none⟩ (.slice An k cn)).setCell ⟨b2, 1, none⟩ (.slice Ap m cp)) (some g) := by
  have e1 := h.hg; have e2 := h.h2
  have hs := h.srcPut (b := b2) (Nat.le_refl _) 0 (.slice An k cn)
  refine ⟨⟨?_, ?_, fun a ha => by have := h.n3 a ha; omega, fun a ha => by have := h.p3 a ha; omega, h.ne, h.np⟩, ?_, ?_⟩
  · exact (h.on.keepOther (fun a ha => by have := h.n3 a ha; show a.block ≠ b2; omega) _).keepOther (fun a ha => by have := h.n3 a ha; show a.block ≠ b2; omega) _
  · exact (h.op.keepOther (fun a ha => by have := h.p3 a ha; show a.block ≠ b2; omega) _).keepOther (fun a ha => by have := h.p3 a ha; show a.block ≠ b2; omega) _
  · exact hs.1.put (by omega) (fun hn a ha => by have := h.hA hn a ha; omega) _ _
  · exact only_put hs.2 (by omega) _ _
theorem DA.net {w W : World} {g : Nat} {A : Option Addr} {n c : Nat} {bs : List Int} {b2 b3 : Nat} {An : Option Addr} {k cn : Nat} {Ap : Option Addr} {m cp : Nat} {ns : List Node} {ps : List Pipe} (h : DA w g A n c bs b2 b3 An k cn Ap m cp ns ps W) : NetAt W An k cn Ap m cp ⟨ns, ps⟩ := ⟨h.on.nodes, h.op.pipes⟩

/-- what a draw of a network and a number gives -/
def DrawnC (w : World) (g : Nat) (A : Option Addr) (n c : Nat) (bs : List Int) (e : Ending) (w' : World) : Prop :=
  ∃ An k cn Ap m cp ns ps x, e = .returned (.tuple #[.agg #[.slice An k cn, .slice Ap m cp], .int .i64 x]) ∧ DN w.heap.size w' An k cn Ap m cp ns ps ∧ k ≤ 7 ∧ m ≤ 12 ∧ I64 x ∧ Src w' g A n c bs ∧ w.grownBy w' (some g)
def ptrBelow (b k : Nat) : VP := fun v _ => ∃ x : Nat, v = .pointer (some ⟨b, x, none⟩) ∧ x < k

set_option maxRecDepth 100000 in
set_option maxHeartbeats 8000000 in
theorem l05DrawChord_any (g : Nat) (A : Option Addr) (n c : Nat) (bs : List Int) (w : World) (h : Src w g A n c bs) :
    Calls Try.prog 86 #[.pointer (some ⟨g, 0, none⟩)] w (DrawnC w g A n c bs) := by
  have hlt := h.lt
  go_enter Try.func86, Try.ntmps86
  go_wp2_with fail
  refine (l05DrawLoops_any _ _ _ _ _ _ (h.alloc _)).mono ?_
  rintro e w1 ⟨An, k, cn, Ap, m, cp, ns, ps, rfl, hd, hk1, hk7, hm, hs1, hg1⟩
  have st0 := DA.start h hd hs1 hg1
  obtain ⟨w2, hw2⟩ : ∃ w2, w2 = w1.alloc (.cells #[.slice An k cn, .slice Ap m cp] 32) := ⟨_, rfl⟩
  rw [← hw2] at st0
  have HW2 := Lib.hid hw2
  clear hd hs1 hg1 hw2 hk1
  go_wp2_with fail
  rw [← HW2.out]
  refine (l01Next_any _ _ _ _ _ _ _ st0.src).mono ?_
  rintro e w4 ⟨q, rfl, q0, q1, _, hs4, hg4⟩
  clear q1 q0
  have st := st0.next hg4 hs4
  clear st0 hs4 hg4 HW2
  obtain ⟨b3, hb3⟩ : ∃ b3, w1.heap.size = b3 := ⟨_, rfl⟩
  rw [hb3] at st ⊢
  clear hb3
  have hh3 := st.h3
  have FIN : ∀ {W : World} {An' : Option Addr} {k' cn' : Nat} {Ap' : Option Addr} {m' cp' : Nat} {ns' : List Node} {ps' : List Pipe} {x : Int}, DA w g A n c bs w.heap.size b3 An' k' cn' Ap' m' cp' ns' ps' W → k' ≤ 7 → m' ≤ 12 → I64 x → Hid (DrawnC w g A n c bs (.returned (.tuple #[.agg #[.slice An' k' cn', .slice Ap' m' cp'], .int .i64 x])) ((W.setCell ⟨w.heap.size, 0, none⟩ (.slice An' k' cn')).setCell ⟨w.heap.size, 1, none⟩ (.slice Ap' m' cp'))) := fun h h1 h2 h3 => Lib.hid ⟨_, _, _, _, _, _, _, _, _, rfl, h.fin2.1, h1, h2, h3, h.fin2.2⟩
  by_cases hq : q = 0
  · subst hq
    have k0 := st.c30
    go_wp2_with fail
    refine (l02DrawAny_any _ _ _ _ _ _ st.src).mono ?_
    clear hm hk7
    rintro e w5 ⟨An, k, cn, Ap, m, cp, ns, ps, rfl, hd, _, hk7, hm, hs5, hg5⟩
    have st5 := st.replace hd hs5 hg5
    have stn := st.next hg5 hs5
    have z0 := stn.c30
    have z1 := stn.c31
    have u0 := stn.f3 0
    have u1 := stn.f3 1
    clear st stn hd hs5 hg5 k0
    obtain ⟨w6, hw6⟩ : ∃ w6, w6 = (w5.setCell ⟨b3, 0, none⟩ (.slice An k cn)).setCell ⟨b3, 1, none⟩ (.slice Ap m cp) := ⟨_, rfl⟩
    rw [← hw6] at st5
    have HW6 := Lib.hid hw6
    have y0 := st5.c30
    have y1 := st5.c31
    rw [hw6] at y0 y1
    clear hw6
    have hm' : m ≤ 12 := by omega
    have hnb : b3 ≠ w.heap.size := by omega
    go_wp2_with fail
    rw [← HW6.out]
    clear y0 y1 z0 z1 u0 u1 HW6
    have st := st5
    clear st5
    have k0 := st.c30
    have k1 := st.c31
    have ST0 := Lib.hid st
    clear st
    refine (specChordsOf_any _ _ _ _ _ _ ⟨ns, ps⟩ _ ST0.out.net).mono ?_
    rintro e w8 ⟨Ac, L, cc, zc, code, rfl, oc, fc, hL, b8⟩
    have st := ST0.out.later b8
    have HSB : Hid (w.heap.size < w6.heap.size) := Lib.hid (by have := ST0.out.lt; omega)
    have HGC : Hid (g < w6.heap.size) := Lib.hid (by have := ST0.out.src.lt; exact this)
    clear k0 k1 ST0
    by_cases hL0 : L = 0
    · subst hL0
      have ST := Lib.hid st
      clear st oc fc
      go_wp2_with fail
      apply wp_region_track [27, 28, 29, 30, 31, 32] [eqv _, eqv _, eqv _, eqv _, eqv _, isI64]
        (fun wx => Src wx g A n c bs ∧ w8.grownBy wx (some g)) (Gw g) (by kernel_rfl) (by kernel_rfl) rfl (by kernel_rfl)
      case hs =>
        refine ⟨?_, ?_, ?_, ?_, ?_, ?_, trivial⟩
        · intro ev wt ht hc hg hf hI hd
          have e4 : ev (.tmp 4) = .pointer (some ⟨b3, 0, none⟩) := ht 4 (by decide)
          have stt := ST.out.next hI.2 hI.1
          have j0 := stt.c30
          have j1 := stt.c31
          clear stt
          refine opok_gen fun N hN => ?_
          clear hd ht
          go_simp
          exact hN.out _ _ ⟨hI, World.grownBy.refl _ _, rfl⟩
        · intro ev wt ht hc hg hf hI hd
          have e0 : ev (.tmp 0) = .pointer (some ⟨g, 0, none⟩) := ht 0 (by decide)
          exact opok_move _ rfl ⟨hI, World.grownBy.refl _ _, e0⟩
        · intro ev wt ht hc hg hf hI hd
          have e4 : ev (.tmp 4) = .pointer (some ⟨b3, 0, none⟩) := ht 4 (by decide)
          refine opok_gen fun N hN => ?_
          clear hd ht
          go_simp
          exact hN.out _ _ ⟨hI, World.grownBy.refl _ _, rfl⟩
        · intro ev wt ht hc hg hf hI hd
          have e29 : ev (.tmp 29) = _ := hd 2 29 rfl rfl
          have stt := ST.out.next hI.2 hI.1
          have j0 := stt.c30
          have j1 := stt.c31
          clear stt
          refine opok_gen fun N hN => ?_
          clear hd ht
          go_simp
          exact hN.out _ _ ⟨hI, World.grownBy.refl _ _, rfl⟩
        · intro ev wt ht hc hg hf hI hd
          have e30 : ev (.tmp 30) = _ := hd 3 30 rfl rfl
          refine opok_gen fun N hN => ?_
          clear hd ht
          go_simp
          exact hN.out _ _ ⟨hI, World.grownBy.refl _ _, rfl⟩
        · intro ev wt ht hc hg hf hI hd
          have e28 : ev (.tmp 28) = _ := hd 1 28 rfl rfl
          have e31 : ev (.tmp 31) = _ := hd 4 31 rfl rfl
          refine opok_gen fun N hN => ?_
          clear hd ht
          go_simp
          refine (l02DrawIndex_any _ _ _ _ _ m _ hI.1 (by omega)).mono ?_
          rintro e wz ⟨x, rfl, hx, hsz, hgz⟩
          exact ⟨_, rfl, hN.out _ _ ⟨⟨hsz, only_trans hI.2 hgz⟩, hgz, ⟨x, rfl, hx⟩⟩⟩
      case hst =>
        refine fun j v w w' _ h1 h2 => StbL.nth (S := Gw g) ?_ j v w w' h1 h2
        exact ⟨stb_eqv _, stb_eqv _, stb_eqv _, stb_eqv _, stb_eqv _, (fun _ _ _ _ h => h), trivial⟩
      case hI => exact ⟨ST.out.src.keep (Below.refl _ _).drew, only_drewN (World.grownBy.refl _ _) 1⟩
      case hl =>
        rintro wt hI _ rfl _ rfl _ rfl _ rfl _ rfl _ ⟨s, rfl, hsv⟩
        simp only [Lasts, List.length_cons, List.length_nil, Nat.reduceAdd, List.drop_succ_cons, List.drop_zero, Act.put, List.setIfInBounds_toArray, List.set_cons_succ, List.set_cons_zero]
        have stt := ST.out.next hI.2 hI.1
        have FI := FIN (x := s) stt (by omega) (by omega) hsv
        have y0 := stt.c20
        have y1 := stt.c21
        have v0 := stt.f2 0
        have v1 := stt.f2 1
        clear stt
        go_wp2_with fail
        exact bodyPost_ret (v := .tuple #[.agg #[.slice An k cn, .slice Ap m cp], .int .i64 s]) (by simp [results, Try.results86, go_sem, y0, y1]) rfl FI.out
    · have hL0' : ((L : Int) == 0) = false := by simp; omega
      obtain ⟨gc, rfl, hgc⟩ := oc.pos (by omega)
      go_wp2_with fail
      refine (l01Next_any _ _ _ _ _ _ _ st.src).mono ?_
      rintro e w9 ⟨r, rfl, r0, r1, _, hs9, hg9⟩
      clear r1 r0
      have OC := Lib.hid (oc.lone fc hg9 HGC.out)
      have FC := Lib.hid fc
      have ST := Lib.hid (st.next hg9 hs9)
      clear st oc fc hs9 hg9
      by_cases hr0 : r = 0
      · subst hr0
        go_wp2_with fail
        apply wp_region_track [27, 28, 29, 30, 31, 32] [eqv _, eqv _, eqv _, eqv _, eqv _, isI64]
          (fun wx => Src wx g A n c bs ∧ w9.grownBy wx (some g)) (Gw g) (by kernel_rfl) (by kernel_rfl) rfl (by kernel_rfl)
        case hs =>
          refine ⟨?_, ?_, ?_, ?_, ?_, ?_, trivial⟩
          · intro ev wt ht hc hg hf hI hd
            have e4 : ev (.tmp 4) = .pointer (some ⟨b3, 0, none⟩) := ht 4 (by decide)
            have stt := ST.out.next hI.2 hI.1
            have j0 := stt.c30
            have j1 := stt.c31
            clear stt
            refine opok_gen fun N hN => ?_
            clear hd ht
            go_simp
            exact hN.out _ _ ⟨hI, World.grownBy.refl _ _, rfl⟩
          · intro ev wt ht hc hg hf hI hd
            have e0 : ev (.tmp 0) = .pointer (some ⟨g, 0, none⟩) := ht 0 (by decide)
            exact opok_move _ rfl ⟨hI, World.grownBy.refl _ _, e0⟩
          · intro ev wt ht hc hg hf hI hd
            have e4 : ev (.tmp 4) = .pointer (some ⟨b3, 0, none⟩) := ht 4 (by decide)
            refine opok_gen fun N hN => ?_
            clear hd ht
            go_simp
            exact hN.out _ _ ⟨hI, World.grownBy.refl _ _, rfl⟩
          · intro ev wt ht hc hg hf hI hd
            have e29 : ev (.tmp 29) = _ := hd 2 29 rfl rfl
            have stt := ST.out.next hI.2 hI.1
            have j0 := stt.c30
            have j1 := stt.c31
            clear stt
            refine opok_gen fun N hN => ?_
            clear hd ht
            go_simp
            exact hN.out _ _ ⟨hI, World.grownBy.refl _ _, rfl⟩
          · intro ev wt ht hc hg hf hI hd
            have e30 : ev (.tmp 30) = _ := hd 3 30 rfl rfl
            refine opok_gen fun N hN => ?_
            clear hd ht
            go_simp
            exact hN.out _ _ ⟨hI, World.grownBy.refl _ _, rfl⟩
          · intro ev wt ht hc hg hf hI hd
            have e28 : ev (.tmp 28) = _ := hd 1 28 rfl rfl
            have e31 : ev (.tmp 31) = _ := hd 4 31 rfl rfl
            refine opok_gen fun N hN => ?_
            clear hd ht
            go_simp
            refine (l02DrawIndex_any _ _ _ _ _ m _ hI.1 (by omega)).mono ?_
            rintro e wz ⟨x, rfl, hx, hsz, hgz⟩
            exact ⟨_, rfl, hN.out _ _ ⟨⟨hsz, only_trans hI.2 hgz⟩, hgz, ⟨x, rfl, hx⟩⟩⟩
        case hst =>
          refine fun j v w w' _ h1 h2 => StbL.nth (S := Gw g) ?_ j v w w' h1 h2
          exact ⟨stb_eqv _, stb_eqv _, stb_eqv _, stb_eqv _, stb_eqv _, (fun _ _ _ _ h => h), trivial⟩
        case hI => exact ⟨ST.out.src.keep (Below.refl _ _).drew, only_drewN (World.grownBy.refl _ _) 1⟩
        case hl =>
          rintro wt hI _ rfl _ rfl _ rfl _ rfl _ rfl _ ⟨s, rfl, hsv⟩
          simp only [Lasts, List.length_cons, List.length_nil, Nat.reduceAdd, List.drop_succ_cons, List.drop_zero, Act.put, List.setIfInBounds_toArray, List.set_cons_succ, List.set_cons_zero]
          have stt := ST.out.next hI.2 hI.1
          have FI := FIN (x := s) stt (by omega) (by omega) hsv
          have y0 := stt.c20
          have y1 := stt.c21
          have v0 := stt.f2 0
          have v1 := stt.f2 1
          clear stt
          go_wp2_with fail
          exact bodyPost_ret (v := .tuple #[.agg #[.slice An k cn, .slice Ap m cp], .int .i64 s]) (by simp [results, Try.results86, go_sem, y0, y1]) rfl FI.out
      · have hr0' : (r == 0) = false := by simp [hr0]
        clear hr0
        go_wp2_with fail
        have j0 := ST.out.c30
        have j1 := ST.out.c31
        have d0 := ST.out.c20
        have d1 := ST.out.c21
        have d2 := ST.out.f2 0
        have d3 := ST.out.f2 1
        have hgb : gc ≠ w.heap.size := by have := FC.out _ rfl; have h2 := ST.out.h2; have h3 := HSB.out; simp only at this; omega
        go_region_with (go_at_call 110; refine (l01Next_any _ _ _ _ _ _ _ (ST.out.src.keep (Below.refl _ _).drew)).mono ?_; rintro e wz ⟨x, rfl, x0, x1, x2, hsz, hgz⟩; have hx : x < (L : Int) := (by by_cases h1 : 1 < (L : Int); exact x1 h1; have := x2 (by omega); omega); obtain ⟨X, rfl⟩ := Int.eq_ofNat_of_zero_le x0; clear x1 x2; have hXL : X < L := (by omega); have hgz2 := only_trans (only_drewN (World.grownBy.refl w9 (some g)) 1) hgz; have stz := ST.out.next hgz2 hsz; have ocz := OC.out.lone FC.out hgz2 HGC.out; have cx := ocz.cell hXL; have hxi := ocz.i64 X; have FI := FIN (x := ig zc X) stz (by omega) (by omega) hxi; have z0 := stz.c30; have z1 := stz.c31; have y0 := stz.c20; have y1 := stz.c21; have v0 := stz.f2 0; have v1 := stz.f2 1; clear stz ocz)
        all_goals
          go_wp2_with fail
          exact bodyPost_ret (v := .tuple #[.agg #[.slice An k cn, .slice Ap m cp], .int .i64 (ig zc X)]) (by simp [results, Try.results86, go_sem, y0, y1]) rfl FI.out
  · have hq' : (q == 0) = false := by simp [hq]
    clear hq
    have hm' : m ≤ 12 := hm
    have k0 := st.c30
    have k1 := st.c31
    have ST0 := Lib.hid st
    clear st
    go_wp2_with fail
    refine (specChordsOf_any _ _ _ _ _ _ ⟨ns, ps⟩ _ ST0.out.net).mono ?_
    rintro e w8 ⟨Ac, L, cc, zc, code, rfl, oc, fc, hL, b8⟩
    have st := ST0.out.later b8
    have HSB : Hid (w.heap.size < w4.heap.size) := Lib.hid (by have := ST0.out.lt; omega)
    have HGC : Hid (g < w4.heap.size) := Lib.hid (by have := ST0.out.src.lt; exact this)
    clear k0 k1 ST0
    by_cases hL0 : L = 0
    · subst hL0
      have ST := Lib.hid st
      clear st oc fc
      go_wp2_with fail
      apply wp_region_track [27, 28, 29, 30, 31, 32] [eqv _, eqv _, eqv _, eqv _, eqv _, isI64]
        (fun wx => Src wx g A n c bs ∧ w8.grownBy wx (some g)) (Gw g) (by kernel_rfl) (by kernel_rfl) rfl (by kernel_rfl)
      case hs =>
        refine ⟨?_, ?_, ?_, ?_, ?_, ?_, trivial⟩
        · intro ev wt ht hc hg hf hI hd
          have e4 : ev (.tmp 4) = .pointer (some ⟨b3, 0, none⟩) := ht 4 (by decide)
          have stt := ST.out.next hI.2 hI.1
          have j0 := stt.c30
          have j1 := stt.c31
          clear stt
          refine opok_gen fun N hN => ?_
          clear hd ht
          go_simp
          exact hN.out _ _ ⟨hI, World.grownBy.refl _ _, rfl⟩
        · intro ev wt ht hc hg hf hI hd
          have e0 : ev (.tmp 0) = .pointer (some ⟨g, 0, none⟩) := ht 0 (by decide)
          exact opok_move _ rfl ⟨hI, World.grownBy.refl _ _, e0⟩
        · intro ev wt ht hc hg hf hI hd
          have e4 : ev (.tmp 4) = .pointer (some ⟨b3, 0, none⟩) := ht 4 (by decide)
          refine opok_gen fun N hN => ?_
          clear hd ht
          go_simp
          exact hN.out _ _ ⟨hI, World.grownBy.refl _ _, rfl⟩
        · intro ev wt ht hc hg hf hI hd
          have e29 : ev (.tmp 29) = _ := hd 2 29 rfl rfl
          have stt := ST.out.next hI.2 hI.1
          have j0 := stt.c30
          have j1 := stt.c31
          clear stt
          refine opok_gen fun N hN => ?_
          clear hd ht
          go_simp
          exact hN.out _ _ ⟨hI, World.grownBy.refl _ _, rfl⟩
        · intro ev wt ht hc hg hf hI hd
          have e30 : ev (.tmp 30) = _ := hd 3 30 rfl rfl
          refine opok_gen fun N hN => ?_
          clear hd ht
          go_simp
          exact hN.out _ _ ⟨hI, World.grownBy.refl _ _, rfl⟩
        · intro ev wt ht hc hg hf hI hd
          have e28 : ev (.tmp 28) = _ := hd 1 28 rfl rfl
          have e31 : ev (.tmp 31) = _ := hd 4 31 rfl rfl
          refine opok_gen fun N hN => ?_
          clear hd ht
          go_simp
          refine (l02DrawIndex_any _ _ _ _ _ m _ hI.1 (by omega)).mono ?_
          rintro e wz ⟨x, rfl, hx, hsz, hgz⟩
          exact ⟨_, rfl, hN.out _ _ ⟨⟨hsz, only_trans hI.2 hgz⟩, hgz, ⟨x, rfl, hx⟩⟩⟩
      case hst =>
        refine fun j v w w' _ h1 h2 => StbL.nth (S := Gw g) ?_ j v w w' h1 h2
        exact ⟨stb_eqv _, stb_eqv _, stb_eqv _, stb_eqv _, stb_eqv _, (fun _ _ _ _ h => h), trivial⟩
      case hI => exact ⟨ST.out.src.keep (Below.refl _ _).drew, only_drewN (World.grownBy.refl _ _) 1⟩
      case hl =>
        rintro wt hI _ rfl _ rfl _ rfl _ rfl _ rfl _ ⟨s, rfl, hsv⟩
        simp only [Lasts, List.length_cons, List.length_nil, Nat.reduceAdd, List.drop_succ_cons, List.drop_zero, Act.put, List.setIfInBounds_toArray, List.set_cons_succ, List.set_cons_zero]
        have stt := ST.out.next hI.2 hI.1
        have FI := FIN (x := s) stt (by omega) (by omega) hsv
        have y0 := stt.c20
        have y1 := stt.c21
        have v0 := stt.f2 0
        have v1 := stt.f2 1
        clear stt
        go_wp2_with fail
        exact bodyPost_ret (v := .tuple #[.agg #[.slice An k cn, .slice Ap m cp], .int .i64 s]) (by simp [results, Try.results86, go_sem, y0, y1]) rfl FI.out
    · have hL0' : ((L : Int) == 0) = false := by simp; omega
      obtain ⟨gc, rfl, hgc⟩ := oc.pos (by omega)
      go_wp2_with fail
      refine (l01Next_any _ _ _ _ _ _ _ st.src).mono ?_
      rintro e w9 ⟨r, rfl, r0, r1, _, hs9, hg9⟩
      clear r1 r0
      have OC := Lib.hid (oc.lone fc hg9 HGC.out)
      have FC := Lib.hid fc
      have ST := Lib.hid (st.next hg9 hs9)
      clear st oc fc hs9 hg9
      by_cases hr0 : r = 0
      · subst hr0
        go_wp2_with fail
        apply wp_region_track [27, 28, 29, 30, 31, 32] [eqv _, eqv _, eqv _, eqv _, eqv _, isI64]
          (fun wx => Src wx g A n c bs ∧ w9.grownBy wx (some g)) (Gw g) (by kernel_rfl) (by kernel_rfl) rfl (by kernel_rfl)
        case hs =>
          refine ⟨?_, ?_, ?_, ?_, ?_, ?_, trivial⟩
          · intro ev wt ht hc hg hf hI hd
            have e4 : ev (.tmp 4) = .pointer (some ⟨b3, 0, none⟩) := ht 4 (by decide)
            have stt := ST.out.next hI.2 hI.1
            have j0 := stt.c30
            have j1 := stt.c31
            clear stt
            refine opok_gen fun N hN => ?_
            clear hd ht
            go_simp
            exact hN.out _ _ ⟨hI, World.grownBy.refl _ _, rfl⟩
          · intro ev wt ht hc hg hf hI hd
            have e0 : ev (.tmp 0) = .pointer (some ⟨g, 0, none⟩) := ht 0 (by decide)
            exact opok_move _ rfl ⟨hI, World.grownBy.refl _ _, e0⟩
          · intro ev wt ht hc hg hf hI hd
            have e4 : ev (.tmp 4) = .pointer (some ⟨b3, 0, none⟩) := ht 4 (by decide)
            refine opok_gen fun N hN => ?_
            clear hd ht
            go_simp
            exact hN.out _ _ ⟨hI, World.grownBy.refl _ _, rfl⟩
          · intro ev wt ht hc hg hf hI hd
            have e29 : ev (.tmp 29) = _ := hd 2 29 rfl rfl
            have stt := ST.out.next hI.2 hI.1
            have j0 := stt.c30
            have j1 := stt.c31
            clear stt
            refine opok_gen fun N hN => ?_
            clear hd ht
            go_simp
            exact hN.out _ _ ⟨hI, World.grownBy.refl _ _, rfl⟩
          · intro ev wt ht hc hg hf hI hd
            have e30 : ev (.tmp 30) = _ := hd 3 30 rfl rfl
            refine opok_gen fun N hN => ?_
            clear hd ht
            go_simp
            exact hN.out _ _ ⟨hI, World.grownBy.refl _ _, rfl⟩
          · intro ev wt ht hc hg hf hI hd
            have e28 : ev (.tmp 28) = _ := hd 1 28 rfl rfl
            have e31 : ev (.tmp 31) = _ := hd 4 31 rfl rfl
            refine opok_gen fun N hN => ?_
            clear hd ht
            go_simp
            refine (l02DrawIndex_any _ _ _ _ _ m _ hI.1 (by omega)).mono ?_
            rintro e wz ⟨x, rfl, hx, hsz, hgz⟩
            exact ⟨_, rfl, hN.out _ _ ⟨⟨hsz, only_trans hI.2 hgz⟩, hgz, ⟨x, rfl, hx⟩⟩⟩
        case hst =>
          refine fun j v w w' _ h1 h2 => StbL.nth (S := Gw g) ?_ j v w w' h1 h2
          exact ⟨stb_eqv _, stb_eqv _, stb_eqv _, stb_eqv _, stb_eqv _, (fun _ _ _ _ h => h), trivial⟩
        case hI => exact ⟨ST.out.src.keep (Below.refl _ _).drew, only_drewN (World.grownBy.refl _ _) 1⟩
        case hl =>
          rintro wt hI _ rfl _ rfl _ rfl _ rfl _ rfl _ ⟨s, rfl, hsv⟩
          simp only [Lasts, List.length_cons, List.length_nil, Nat.reduceAdd, List.drop_succ_cons, List.drop_zero, Act.put, List.setIfInBounds_toArray, List.set_cons_succ, List.set_cons_zero]
          have stt := ST.out.next hI.2 hI.1
          have FI := FIN (x := s) stt (by omega) (by omega) hsv
          have y0 := stt.c20
          have y1 := stt.c21
          have v0 := stt.f2 0
          have v1 := stt.f2 1
          clear stt
          go_wp2_with fail
          exact bodyPost_ret (v := .tuple #[.agg #[.slice An k cn, .slice Ap m cp], .int .i64 s]) (by simp [results, Try.results86, go_sem, y0, y1]) rfl FI.out
      · have hr0' : (r == 0) = false := by simp [hr0]
        clear hr0
        go_wp2_with fail
        have j0 := ST.out.c30
        have j1 := ST.out.c31
        have d0 := ST.out.c20
        have d1 := ST.out.c21
        have d2 := ST.out.f2 0
        have d3 := ST.out.f2 1
        have hgb : gc ≠ w.heap.size := by have := FC.out _ rfl; have h2 := ST.out.h2; have h3 := HSB.out; simp only at this; omega
        go_region_with (go_at_call 110; refine (l01Next_any _ _ _ _ _ _ _ (ST.out.src.keep (Below.refl _ _).drew)).mono ?_; rintro e wz ⟨x, rfl, x0, x1, x2, hsz, hgz⟩; have hx : x < (L : Int) := (by by_cases h1 : 1 < (L : Int); exact x1 h1; have := x2 (by omega); omega); obtain ⟨X, rfl⟩ := Int.eq_ofNat_of_zero_le x0; clear x1 x2; have hXL : X < L := (by omega); have hgz2 := only_trans (only_drewN (World.grownBy.refl w9 (some g)) 1) hgz; have stz := ST.out.next hgz2 hsz; have ocz := OC.out.lone FC.out hgz2 HGC.out; have cx := ocz.cell hXL; have hxi := ocz.i64 X; have FI := FIN (x := ig zc X) stz (by omega) (by omega) hxi; have z0 := stz.c30; have z1 := stz.c31; have y0 := stz.c20; have y1 := stz.c21; have v0 := stz.f2 0; have v1 := stz.f2 1; clear stz ocz)
        all_goals
          go_wp2_with fail
          exact bodyPost_ret (v := .tuple #[.agg #[.slice An k cn, .slice Ap m cp], .int .i64 (ig zc X)]) (by simp [results, Try.results86, go_sem, y0, y1]) rfl FI.out

end Go.Proofs.Ytahmhmicegjdkaa
