/- the kit's contract of slices.Sort, laid at this program (printed by the kit's lay-plain.mjs) -/
import Derived.Shelf.SortG.Plain
import Derived.Shelf.SortG.SortNone
import Derived.Test.YtllblmndoigdlaaProg
import Derived.Test.YtllblmndoigdlaaK2
import Derived.Test.YtllblmndoigdlaaQa
import Derived.Test.YtllblmndoigdlaaMem
import Derived.Sort.OwnSortedInts
import Derived.Test.YtllblmndoigdlaaH9
import Derived.Test.YtllblmndoigdlaaM4
namespace Go.Proofs.Ytllblmndoigdlaa
open Go.Shelf

def sortI_ren : Go.Shelf.Ren := ⟨fun | 53 => 135 | 64 => 145 | 63 => 144 | 78 => 157 | 79 => 158 | 70 => 149 | 71 => 150 | 72 => 151 | 73 => 152 | 74 => 153 | 75 => 154 | 59 => 136 | 76 => 155 | 77 => 156 | 88 => 159 | 89 => 160 | 90 => 161 | 91 => 162 | 92 => 163 | 68 => 146 | 96 => 164 | n => n, fun | 22 => 28 | 23 => 2 | 3 => 3 | 51 => 84 | 0 => 0 | 67 => 135 | 69 => 51 | 4 => 4 | 61 => 129 | 60 => 128 | 44 => 98 | 5 => 5 | 9 => 9 | 75 => 137 | 79 => 141 | 83 => 143 | 84 => 144 | n => n, fun | n => n⟩
theorem sortI : Go.Proofs.SlLaysN.n53 Try.prog sortI_ren := {
  mixed := by kernel_rfl
  f53 := ⟨Try.f135.name, by decide, Try.func135.trans (congrArg some (by kernel_rfl))⟩
  f59 := ⟨Try.f136.name, by decide, Try.func136.trans (congrArg some (by kernel_rfl))⟩
  f63 := ⟨Try.f144.name, by decide, Try.func144.trans (congrArg some (by kernel_rfl))⟩
  f64 := Try.func145.trans (congrArg some (by kernel_rfl))
  f68 := ⟨Try.f146.name, by decide, Try.func146.trans (congrArg some (by kernel_rfl))⟩
  f70 := ⟨Try.f149.name, by decide, Try.func149.trans (congrArg some (by kernel_rfl))⟩
  f71 := ⟨Try.f150.name, by decide, Try.func150.trans (congrArg some (by kernel_rfl))⟩
  f72 := ⟨Try.f151.name, by decide, Try.func151.trans (congrArg some (by kernel_rfl))⟩
  f73 := ⟨Try.f152.name, by decide, Try.func152.trans (congrArg some (by kernel_rfl))⟩
  f74 := ⟨Try.f153.name, by decide, Try.func153.trans (congrArg some (by kernel_rfl))⟩
  f75 := ⟨Try.f154.name, by decide, Try.func154.trans (congrArg some (by kernel_rfl))⟩
  f76 := ⟨Try.f155.name, by decide, Try.func155.trans (congrArg some (by kernel_rfl))⟩
  f77 := ⟨Try.f156.name, by decide, Try.func156.trans (congrArg some (by kernel_rfl))⟩
  f78 := Try.func157.trans (congrArg some (by kernel_rfl))
  f79 := Try.func158.trans (congrArg some (by kernel_rfl))
  f88 := ⟨Try.f159.name, by decide, Try.func159.trans (congrArg some (by kernel_rfl))⟩
  f89 := Try.func160.trans (congrArg some (by kernel_rfl))
  f90 := Try.func161.trans (congrArg some (by kernel_rfl))
  f91 := ⟨Try.f162.name, by decide, Try.func162.trans (congrArg some (by kernel_rfl))⟩
  f92 := ⟨Try.f163.name, by decide, Try.func163.trans (congrArg some (by kernel_rfl))⟩
  f96 := ⟨Try.f164.name, by decide, Try.func164.trans (congrArg some (by kernel_rfl))⟩
  t0 := Try.underlying0
  a0 := Try.isAgg0
  z0 := Try.sizeOf0
  v0 := Try.zeroValue0
  t3 := Try.underlying3
  a3 := Try.isAgg3
  z3 := Try.sizeOf3
  v3 := Try.zeroValue3
  t4 := Try.underlying4
  a4 := Try.isAgg4
  z4 := Try.sizeOf4
  v4 := Try.zeroValue4
  t5 := Try.underlying5
  a5 := Try.isAgg5
  z5 := Try.sizeOf5
  v5 := Try.zeroValue5
  t9 := Try.underlying9
  a9 := Try.isAgg9
  z9 := Try.sizeOf9
  v9 := Try.zeroValue9
  t22 := Try.underlying28
  a22 := Try.isAgg28
  z22 := Try.sizeOf28
  v22 := Try.zeroValue28
  t23 := Try.underlying2
  a23 := Try.isAgg2
  z23 := Try.sizeOf2
  v23 := Try.zeroValue2
  t44 := Try.underlying98
  a44 := Try.isAgg98
  z44 := Try.sizeOf98
  v44 := Try.zeroValue98
  t51 := Try.underlying84
  a51 := Try.isAgg84
  z51 := Try.sizeOf84
  v51 := Try.zeroValue84
  t60 := Try.underlying128
  a60 := Try.isAgg128
  z60 := Try.sizeOf128
  v60 := Try.zeroValue128
  t61 := Try.underlying129
  a61 := Try.isAgg129
  z61 := Try.sizeOf129
  v61 := Try.zeroValue129
  t67 := Try.underlying135
  a67 := Try.isAgg135
  z67 := Try.sizeOf135
  v67 := Try.zeroValue135
  t69 := Try.underlying51
  a69 := Try.isAgg51
  z69 := Try.sizeOf51
  v69 := Try.zeroValue51
  t75 := Try.underlying137
  a75 := Try.isAgg137
  z75 := Try.sizeOf137
  v75 := Try.zeroValue137
  t79 := Try.underlying141
  a79 := Try.isAgg141
  z79 := Try.sizeOf141
  v79 := Try.zeroValue141
  t83 := Try.underlying143
  a83 := Try.isAgg143
  z83 := Try.sizeOf143
  v83 := Try.zeroValue143
  t84 := Try.underlying144
  a84 := Try.isAgg144
  z84 := Try.sizeOf144
  v84 := Try.zeroValue144 }

end Go.Proofs.Ytllblmndoigdlaa

/- slices.Index, slices.Contains, slices.BinarySearch on numbers -/
namespace Go.Proofs.Ytllblmndoigdlaa
open Go.RowKit

def idxI (zs : List Int) (x : Int) : Int := if x ∈ zs then (zs.idxOf x : Nat) else -1
set_option maxRecDepth 100000 in
set_option maxHeartbeats 1000000 in
theorem slicesIndex_any (A : Option Addr) (n c : Nat) (zs : List Int) (x : Int) (w : World) (h : Ints w A n c zs) :
    Calls Try.prog 122 #[.slice A n c, .int .i64 x] w fun e w' => ∃ i : Int, e = .returned (.int .i64 i) ∧ (decide (i ≥ 0) = decide (x ∈ zs)) ∧ w = w' := by
  have hlen := h.len
  have hle := h.le
  have hcap := h.cap
  go_enter Try.func122, Try.ntmps122
  go_wp2_with fail
  go_loopw [8] (fun i wr => ∃ k : Nat, k ≤ n ∧ i = .int .i64 k ∧ Hid (∀ j, j < k → ig zs j ≠ x) ∧ w = wr) (fun i _ => n - (intOf i).toNat)
  case atStart => exact ⟨0, by omega, rfl, Lib.hid fun j hj => absurd hj (by omega), rfl⟩
  case round =>
    obtain ⟨k, hk, rfl, hno, rfl⟩ := hrel
    by_cases hlt : k < n
    · obtain ⟨b, off, rfl, hbl, hc⟩ := h.cells (by omega)
      have hck := hc k hlt
      clear hc
      have hki : (k : Int) < (n : Int) := by omega
      by_cases he : ig zs k = x
      · have hb : (x == ig zs k) = true := by simp [he]
        have hin : x ∈ zs := by rw [← he, ig_lt (by omega)]; exact List.getElem_mem _
        have HD : Hid (decide ((k : Int) ≥ 0) = decide (x ∈ zs)) := Lib.hid (by simp [hin])
        clear he
        go_wp2_with fail
        go_ret
        exact ⟨_, rfl, HD.out, rfl⟩
      · have hb : (x == ig zs k) = false := by simp; omega
        have HN : Hid (∀ j, j < k + 1 → ig zs j ≠ x) := Lib.hid fun j hj => by
          rcases Nat.lt_or_ge j k with h | h
          · exact hno.out j h
          · have : j = k := by omega
            subst this; exact he
        clear he
        go_wp2_with fail
        go_roundw
        case rel => exact ⟨k + 1, by omega, by go_num, HN, by trivial⟩
        case measure => simp [intOf]; omega
    · have HD : Hid (0 ≤ (-1 : Int) ↔ x ∈ zs) := Lib.hid (by
        have : ¬ x ∈ zs := by
          intro hin
          obtain ⟨j, hj, rfl⟩ := List.mem_iff_getElem.1 hin
          exact hno.out j (by omega) (ig_lt hj)
        simp [this])
      have hki : ¬ (k : Int) < (n : Int) := by omega
      go_wp2_with fail
      go_ret
      exact ⟨_, rfl, HD.out, rfl⟩

set_option maxHeartbeats 1000000 in
theorem slicesContains_any (A : Option Addr) (n c : Nat) (zs : List Int) (x : Int) (b : Bool) (w : World) (h : Ints w A n c zs) (hb : decide (x ∈ zs) = b) :
    Calls Try.prog 83 #[.slice A n c, .int .i64 x] w fun e w' => e = .returned (.bool b) ∧ w = w' := by
  have HB := Lib.hid hb
  clear hb
  go_enter Try.func83, Try.ntmps83
  go_wp2_with fail
  refine (slicesIndex_any _ _ _ _ _ _ h).mono ?_
  rintro e w' ⟨i, rfl, hi, rfl⟩
  have HI := Lib.hid hi
  clear hi
  go_wp2_with fail
  go_ret
  exact ⟨ret_bool (by rw [← HB.out, ← HI.out]), rfl⟩

/-! ### slices.BinarySearch -/
theorem cmpNaN (x : Int) : (x != x) = false := by simp
set_option maxHeartbeats 1000000 in
theorem cmpIsNaN_any (x : Int) (w : World) : Calls Try.prog 146 #[.int .i64 x] w fun e w' => e = .returned (.bool false) ∧ w = w' := by
  have h := cmpNaN x
  go_enter Try.func146, Try.ntmps146
  go_wp2_with fail
  go_ret
  exact ⟨rfl, rfl⟩

set_option maxHeartbeats 1000000 in
theorem slicesIsNaN_any (x : Int) (w : World) : Calls Try.prog 137 #[.int .i64 x] w fun e w' => e = .returned (.bool false) ∧ w = w' := by
  have h := cmpNaN x
  go_enter Try.func137, Try.ntmps137
  go_wp2_with fail
  go_ret
  exact ⟨rfl, rfl⟩

set_option maxHeartbeats 1000000 in
theorem cmpLess_any (x y : Int) (w : World) : Calls Try.prog 136 #[.int .i64 x, .int .i64 y] w fun e w' => e = .returned (.bool (decide (x < y))) ∧ w = w' := by
  go_enter Try.func136, Try.ntmps136
  go_wp2_with fail
  refine (cmpIsNaN_any _ _).mono ?_
  rintro e w' ⟨rfl, rfl⟩
  go_wp2_with fail
  go_ret
  exact ⟨rfl, rfl⟩

set_option maxRecDepth 100000 in
set_option maxHeartbeats 2000000 in
theorem binarySearch_any (A : Option Addr) (n c : Nat) (zs : List Int) (x : Int) (w : World) (h : Ints w A n c zs) (hn : n ≤ 1000) (hp : zs.Pairwise (· < ·)) :
    Calls Try.prog 110 #[.slice A n c, .int .i64 x] w fun e w' => ∃ i : Int, e = .returned (.tuple #[.int .i64 i, .bool (decide (x ∈ zs))]) ∧ w = w' := by
  have hlen := h.len
  have hle := h.le
  have hcap := h.cap
  have hmono : ∀ p q, p < q → q < n → ig zs p < ig zs q := fun p q h1 h2 => by
    rw [ig_lt (by omega), ig_lt (by omega)]
    exact List.pairwise_iff_getElem.1 hp p q (by omega) (by omega) h1
  have HM := Lib.hid hmono
  clear hmono hp
  go_enter Try.func110, Try.ntmps110
  go_wp2_with fail
  go_loopw [7, 8] (fun i j wr => ∃ a b : Nat, a ≤ b ∧ b ≤ n ∧ i = .int .i64 a ∧ j = .int .i64 b ∧ Hid ((∀ p, p < a → ig zs p < x) ∧ (∀ p, b ≤ p → p < n → x ≤ ig zs p)) ∧ w = wr) (fun i j _ => (intOf j).toNat - (intOf i).toNat)
  case atStart => exact ⟨0, n, by omega, by omega, rfl, rfl, Lib.hid ⟨fun p hp => absurd hp (by omega), fun p h1 h2 => absurd h1 (by omega)⟩, rfl⟩
  case round =>
    obtain ⟨a, b, hab, hbn, rfl, rfl, hI, rfl⟩ := hrel
    by_cases hlt : a < b
    · obtain ⟨g, off, rfl, hbl, hc⟩ := h.cells (by omega)
      have hck := hc ((a + b) / 2) (by omega)
      clear hc
      have hki : (a : Int) < (b : Int) := by omega
      have hmi : (((a + b) / 2 : Nat) : Int) = ((a : Int) + b) / 2 := by omega
      by_cases hx : ig zs ((a + b) / 2) < x
      · have HI2 : Hid ((∀ p, p < (a + b) / 2 + 1 → ig zs p < x) ∧ (∀ p, b ≤ p → p < n → x ≤ ig zs p)) := Lib.hid ⟨fun p hp => by
          rcases Nat.lt_or_ge p ((a + b) / 2) with hp' | hp'
          · have := HM.out p ((a + b) / 2) hp' (by omega); omega
          · have : p = (a + b) / 2 := by omega
            rw [this]; exact hx, hI.out.2⟩
        have hxd : decide (ig zs ((a + b) / 2) < x) = true := by simp [hx]
        clear hx hI
        generalize ig zs ((a + b) / 2) = V at *
        go_wp2_with fail
        refine (cmpLess_any _ _ _).mono ?_
        rintro e w' ⟨rfl, rfl⟩
        rw [hxd]
        go_wp2_with fail
        go_roundw
        case rel => exact ⟨(a + b) / 2 + 1, b, by omega, hbn, by rw [← hmi]; go_num, rfl, HI2, by trivial⟩
        case measure => simp [intOf]; omega
      · have HI2 : Hid ((∀ p, p < a → ig zs p < x) ∧ (∀ p, (a + b) / 2 ≤ p → p < n → x ≤ ig zs p)) := Lib.hid ⟨hI.out.1, fun p hp hpn => by
          rcases Nat.lt_or_ge ((a + b) / 2) p with hp' | hp'
          · have := HM.out ((a + b) / 2) p hp' hpn; omega
          · have : p = (a + b) / 2 := by omega
            rw [this]; omega⟩
        have hxd : decide (ig zs ((a + b) / 2) < x) = false := by simp; omega
        clear hx hI
        generalize ig zs ((a + b) / 2) = V at *
        go_wp2_with fail
        refine (cmpLess_any _ _ _).mono ?_
        rintro e w' ⟨rfl, rfl⟩
        rw [hxd]
        go_wp2_with fail
        go_roundw
        case rel => exact ⟨a, (a + b) / 2, by omega, by omega, rfl, by rw [← hmi], HI2, by trivial⟩
        case measure => simp [intOf]; omega
    · have hki : ¬ (a : Int) < (b : Int) := by omega
      have hab' : a = b := by omega
      by_cases han : a < n
      · obtain ⟨g, off, rfl, hbl, hc⟩ := h.cells (by omega)
        have hck := hc a han
        clear hc
        have hkn : (a : Int) < (n : Int) := by omega
        by_cases hx : ig zs a = x
        · have hb : (ig zs a == x) = true := by simp [hx]
          have HD : Hid (decide (x ∈ zs) = true) := Lib.hid (by
            have : x ∈ zs := by rw [← hx, ig_lt (by omega)]; exact List.getElem_mem _
            simp [this])
          clear hx hI hab'
          go_wp2_with fail
          go_ret2
          first | exact ⟨_, (by rw [HD.out]; rfl), rfl⟩ | exact ⟨⟨_, by rw [HD.out]; rfl⟩, rfl⟩
        · have hb : (ig zs a == x) = false := by simp [hx]
          have HD : Hid (decide (x ∈ zs) = false) := Lib.hid (by
            simp only [decide_eq_false_iff_not]
            intro hin
            obtain ⟨j, hj, e⟩ := List.mem_iff_getElem.1 hin
            have ej : ig zs j = x := by rw [ig_lt hj]; exact e
            have hI := hI.out
            rcases Nat.lt_trichotomy j a with h1 | h1 | h1
            · have := hI.1 j h1; omega
            · subst h1; exact hx ej
            · have h2 := hI.2 a (by omega) han
              have h3 := HM.out a j h1 (by omega)
              omega)
          clear hx hI hab'
          go_wp2_with fail
          refine (slicesIsNaN_any _ _).mono ?_
          rintro e w' ⟨rfl, rfl⟩
          go_wp2_with fail
          go_ret2
          first | exact ⟨_, (by rw [HD.out]; rfl), rfl⟩ | exact ⟨⟨_, by rw [HD.out]; rfl⟩, rfl⟩
      · have hkn : ¬ (a : Int) < (n : Int) := by omega
        have HD : Hid (decide (x ∈ zs) = false) := Lib.hid (by
          simp only [decide_eq_false_iff_not]
          intro hin
          obtain ⟨j, hj, e⟩ := List.mem_iff_getElem.1 hin
          have ej : ig zs j = x := by rw [ig_lt hj]; exact e
          have := hI.out.1 j (by omega)
          omega)
        clear hI hab'
        go_wp2_with fail
        go_ret2
        first | exact ⟨_, (by rw [HD.out]; rfl), rfl⟩ | exact ⟨⟨_, by rw [HD.out]; rfl⟩, rfl⟩

end Go.Proofs.Ytllblmndoigdlaa

/- slices.Sort on numbers of the call's own -/
namespace Go.Proofs.Ytllblmndoigdlaa
open Go.RowKit

theorem slicesSort_any (A : Option Addr) (n c : Nat) (zs : List Int) (w : World) (h : Own w A n c zs) (hn : n ≤ 1000000) :
    Calls Try.prog 135 #[.slice A n c] w fun e w' => e = .returned (.tuple #[]) ∧ Own w' A n c (zs.mergeSort fun x y => decide (x ≤ y)) ∧ w.grownBy w' (A.map (·.block)) := by
  by_cases h0 : n = 0
  · subst h0
    have hz : zs = [] := List.length_eq_zero_iff.1 h.len
    have hc := AnyG.slices_Sort_int_none sortI A c w
    change Calls Try.prog 135 _ _ _ at hc
    refine hc.mono ?_
    rintro e w' ⟨rfl, rfl⟩
    subst hz
    exact ⟨rfl, by rw [List.mergeSort_nil]; exact h, World.grownBy.refl _ _⟩
  · obtain ⟨g, rfl, hg⟩ := h.pos (by omega)
    have hrow := h.row
    have hlen := h.len
    rcases hrow.2 with ⟨hx, _⟩ | ⟨g', c', cur, hv, _, hb, hn1, hcap, hsz, htk⟩
    · cases hx
    cases hv
    have hc := AnyG.slices_Sort_int sortI g 0 c zs w (holds_of_blockI hb (by rw [hlen]; simpa using htk)) hg (by omega)
    rw [hlen] at hc
    change Calls Try.prog 135 _ _ _ at hc
    refine hc.mono ?_
    rintro e w' ⟨rfl, k, os, rfl⟩
    refine ⟨rfl, ⟨?_, fun z hz => h.rng z (List.mem_mergeSort.1 hz)⟩, grownBy_sortedI _⟩
    have := ownsRow_sortedI (n := k) (os := os) (ss := zs) (ts := zs.mergeSort fun x y => decide (x ≤ y)) (List.length_mergeSort _) (Nat.zero_le g) hb (by omega) hcap (by omega)
    rw [hlen] at this
    exact this

end Go.Proofs.Ytllblmndoigdlaa

/- the spanning forest of the program -/
namespace Go.Proofs.Ytllblmndoigdlaa
open Go.RowKit

set_option maxRecDepth 100000 in
set_option maxHeartbeats 4000000 in
theorem forestOf_any (A : Option Addr) (n c : Nat) (B : Option Addr) (m d : Nat) (net : Net) (w : World) (h : NetAt w A n c B m d net) (ok : NetOK net) :
    Calls Try.prog 109 #[.agg #[.slice A n c, .slice B m d]] w fun e w' => ∃ Af cf, e = .returned (.slice Af (netG net).forest.length cf) ∧ Own w' Af (netG net).forest.length cf (nl (netG net).forest) ∧ Fresh w.heap.size Af ∧ Below w.heap.size w w' := by
  have hn24 : n ≤ 24 := by have := ok.n24; have := h.nodes.len; omega
  have hm40 : m ≤ 40 := by have := ok.m40; have := h.pipes.len; omega
  have HNn : Hid ((netG net).n = n) := Lib.hid h.nodes.len
  have HMm : Hid ((netG net).m = m) := Lib.hid h.pipes.len
  have HB := Lib.hid (bel1 w (.cells #[.slice A n c, .slice B m d] 27))
  have bx0 : BX (w.alloc (.cells #[.slice A n c, .slice B m d] 27)) w.heap.size A n c B m d := ⟨heap_alloc_new w _⟩
  obtain ⟨W, hW⟩ : ∃ W, W = w.alloc (.cells #[.slice A n c, .slice B m d] 27) := ⟨_, rfl⟩
  have hWs : W.heap.size = w.heap.size + 1 := by rw [hW]; simp
  go_enter Try.func109, Try.ntmps109
  go_wp2_with fail
  rw [← hW] at bx0 HB ⊢
  refine (componentsOf_any _ _ _ _ _ _ net _ (h.later HB.out) ok).mono ?_
  rintro e w2 ⟨Ac, rfl, o2, f2, b2⟩
  clear hW
  have hw2 : w.heap.size ≤ w2.heap.size := by have := b2.size; omega
  have HB2 := Lib.hid (below_step HB.out b2)
  have bx2 := bx0.step b2
  clear b2 bx0 f2
  go_wp2_with fail
  go_loopw [3, 11] (fun o i wr => ∃ (k : Nat) (L : List Nat) (Ao : Option Addr) (co : Nat), k ≤ n ∧ o = .slice Ao L.length co ∧ i = .int .i64 k ∧ Own wr Ao L.length co (nl L) ∧ Fresh w2.heap.size Ao ∧ Hid ((netG net).Acc k 0 L) ∧ Below w2.heap.size w2 wr) (fun _ i _ => n - (intOf i).toNat)
  case atStart => exact ⟨0, [], none, 0, by omega, rfl, rfl, Own.nil, (fun a ha => by cases ha), Lib.hid (Gr.Acc.start _), Below.refl _ _⟩
  case round =>
    obtain ⟨k, L, Ao, co, hk, rfl, rfl, oo, fo, hA, hb⟩ := hrel
    by_cases hlt : k < n
    · have oc := o2.later hb
      obtain ⟨ga, rfl, hga⟩ := oc.pos (by omega)
      have c1 := oc.cell hlt
      rw [mapTo_ig hlt, Gr.comp_root ok.g (by rw [HNn.out]; exact hlt)] at c1
      by_cases hrk : (netG net).root k = k
      · have g1 : ((((netG net).root k : Nat) : Int) != (k : Int)) = false := by simp [hrk]
        have HRK := Lib.hid hrk
        rw [hrk] at c1
        have g1 : (((k : Nat) : Int) != (k : Int)) = false := by simp
        clear hrk
        have kb := (bx2.step hb).c0
        have kb1 := (bx2.step hb).c1
        go_wp2_with fail
        refine (searchFrom_any _ _ _ _ _ _ net k _ (h.later (below_step HB2.out hb)) ok hlt).mono ?_
        rintro e w4 ⟨Ax, lo, cx, Ad, Ae, rfl, _, oe, _, fe, b4⟩
        have oo4 := oo.later b4
        have hb4 := below_step hb b4
        have ap : Apart Ao Ae := apart_new oo.lt fe
        have hfl := run_field_search2 Ax Ad Ae lo n n cx n n w4
        clear kb kb1 c1 g1 b4 oc
        go_wp2_with fail
        clear hfl
        go_loopw [3, 24] (fun o i wr => ∃ (j : Nat) (L : List Nat) (Ao : Option Addr) (co : Nat), j ≤ n ∧ o = .slice Ao L.length co ∧ i = .int .i64 j ∧ Own wr Ao L.length co (nl L) ∧ Fresh w2.heap.size Ao ∧ Hid ((netG net).Acc k j L) ∧ Own wr Ae n n (mapTo n ((netG net).ent k)) ∧ Apart Ao Ae ∧ Below w2.heap.size w2 wr) (fun _ i _ => n - (intOf i).toNat)
        case atStart => exact ⟨0, L, Ao, co, by omega, rfl, rfl, oo4, fo, hA, oe, ap, hb4⟩
        case round =>
          clear oo4 hb4 oo fo hA hb ap oe
          obtain ⟨j, L, Ao, co, hj, rfl, rfl, oo, fo, hA, oe, ap, hb⟩ := hrel
          have hL40 : L.length ≤ 40 := by have := hA.out.len ok.g (by rw [HNn.out]; exact hk) (.inr (by rw [HNn.out]; exact hlt)); rw [HMm.out] at this; omega
          by_cases hjl : j < n
          · obtain ⟨ge, rfl, hge⟩ := oe.pos (by omega)
            have c1 := oe.cell hjl
            rw [mapTo_ig hjl] at c1
            rcases Gr.ent_cases ok.g (r := k) (v := j) (by rw [HNn.out]; exact hlt) with hent | ⟨p, hent, hpm⟩
            · rw [hent] at c1
              have HA2 := Lib.hid (hA.out.skip hent)
              clear hent hA
              go_wp2_with fail
              go_roundw
              case rel => exact ⟨j + 1, L, Ao, co, by omega, rfl, by go_num, oo, fo, HA2, oe, ap, hb⟩
              case measure => simp [intOf]; omega
            · rw [hent] at c1
              rw [HMm.out] at hpm
              have HA2 := Lib.hid (hA.out.put ok.g (by rw [HNn.out]; exact hlt) HRK.out (by rw [HNn.out]; exact hjl) hent)
              clear hent hA
              have gp : decide ((p : Int) ≥ 0) = true := by simp
              have oe' := oe.later (bel1 wr (.cells #[.int .i64 (p : Int)] 2))
              go_wp2_with (at_builtin; refine law_append _ rfl _ _ rfl Ao _ co _ rfl (oo.later (bel1 _ _)) _ _ (p : Int) ⟨by omega, by omega⟩ rfl (cell_new1 _ _ _) (by omega) ?_; intro A3 c3 w3 ho3 hg3 hb3)
              have t2 := below_step hb (bel1 wr (.cells #[.int .i64 (p : Int)] 2))
              have r1 : Own w3 A3 (L ++ [p]).length c3 (nl (L ++ [p])) := by rw [nl_snoc, List.length_append]; exact ho3
              have r2 := fresh_app' fo t2.size hb3
              have r3 := below_app t2 fo hg3
              have r4 := oe'.aside ap hg3
              have r5 := apart_app ap oe'.lt hb3
              have hl3 : (L ++ [p]).length = L.length + 1 := by simp
              clear oo fo oe ap hb t2 hg3 hb3 oe' ho3
              go_roundw
              case rel => exact ⟨j + 1, L ++ [p], A3, c3, by omega, by rw [hl3], by go_num, r1, r2, HA2, r4, r5, r3⟩
              case measure => simp [intOf]; omega
          · have hjn : n = j := by omega
            have HA2 : Hid ((netG net).Acc (k + 1) 0 L) := Lib.hid (Gr.Acc.next (by rw [HNn.out, hjn]; exact hA.out) HRK.out)
            clear hjn hA
            go_wp2_with fail
            go_roundw
            case rel => exact ⟨k + 1, L, Ao, co, by omega, rfl, by go_num, oo, fo, HA2, hb⟩
            case measure => simp [intOf]; omega
      · have g1 : ((((netG net).root k : Nat) : Int) != (k : Int)) = true := by simp; omega
        have HA2 := Lib.hid (hA.out.past hrk)
        clear hrk hA
        generalize (netG net).root k = R at *
        go_wp2_with fail
        go_roundw
        case rel => exact ⟨k + 1, L, Ao, co, by omega, rfl, by go_num, oo, fo, HA2, hb⟩
        case measure => simp [intOf]; omega
    · have hkn : n = k := by omega
      have hL40 : L.length ≤ 40 := by have := hA.out.len ok.g (by rw [HNn.out]; exact hk) (.inl rfl); rw [HMm.out] at this; omega
      have HF := Lib.hid (Gr.Acc.fin (L := L) ok.g (by rw [HNn.out, hkn]; exact hA.out))
      clear hkn hA
      go_wp2_with fail
      refine (slicesSort_any _ _ _ _ _ oo (by omega)).mono ?_
      rintro e w3 ⟨rfl, o3, g3⟩
      have b3 := below_app hb fo g3
      have o4 : Own w3 Ao L.length co (nl (netG net).forest) := by rw [← HF.out.1]; exact o3
      clear o3
      go_wp2_with fail
      go_ret
      rw [← HF.out.2]
      exact ⟨_, _, rfl, o4, fresh_up fo hw2, below_step HB2.out b3⟩

end Go.Proofs.Ytllblmndoigdlaa

/- chords and their cycles: the program -/
namespace Go.Proofs.Ytllblmndoigdlaa
open Go.RowKit

set_option maxRecDepth 100000 in
set_option maxHeartbeats 4000000 in
theorem chordsOf_any (A : Option Addr) (n c : Nat) (B : Option Addr) (m d : Nat) (net : Net) (w : World) (h : NetAt w A n c B m d net) (ok : NetOK net) :
    Calls Try.prog 60 #[.agg #[.slice A n c, .slice B m d]] w fun e w' => ∃ Af cf, e = .returned (.slice Af (netG net).chords.length cf) ∧ Own w' Af (netG net).chords.length cf (nl (netG net).chords) ∧ Fresh w.heap.size Af ∧ Below w.heap.size w w' := by
  have hm40 : m ≤ 40 := by have := ok.m40; have := h.pipes.len; omega
  have HMm : Hid ((netG net).m = m) := Lib.hid h.pipes.len
  have hple := h.pipes.le
  have hpcap := h.pipes.cap
  have HFP := Lib.hid (forest_pairwise (netG net))
  have hfl : (netG net).forest.length ≤ 40 := by have := Gr.forK_len (netG net) (netG net).m; rw [HMm.out] at this; have e : (netG net).forest = (netG net).forK m := by unfold Gr.forest; rw [HMm.out]
                                                 rw [e]; omega
  have HB := Lib.hid (bel1 w (.cells #[.slice A n c, .slice B m d] 27))
  obtain ⟨W, hW⟩ : ∃ W, W = (w.alloc (.cells #[.slice A n c, .slice B m d] 27)) := ⟨_, rfl⟩
  have bxW : BX W w.heap.size A n c B m d := ⟨by rw [hW]; exact heap_alloc_new w _⟩
  go_enter Try.func60, Try.ntmps60
  go_wp2_with fail
  rw [← hW] at HB ⊢
  clear hW
  refine (forestOf_any _ _ _ _ _ _ net _ (h.later HB.out) ok).mono ?_
  rintro e w1 ⟨Af, cf, rfl, of, ff, b1⟩
  have k1 := (bxW.step b1).c1
  go_wp2_with fail
  go_loopw [4, 13] (fun o i wr => ∃ (k : Nat) (Ac : Option Addr) (cc L : Nat), k ≤ m ∧ o = .slice Ac L cc ∧ i = .int .i64 k ∧ L = ((netG net).choK k).length ∧ Own wr Ac L cc (nl ((netG net).choK k)) ∧ Fresh w1.heap.size Ac ∧ Below w1.heap.size w1 wr) (fun _ i _ => m - (intOf i).toNat)
  case atStart => exact ⟨0, none, 0, 0, by omega, rfl, rfl, rfl, Own.nil, (fun a ha => by cases ha), Below.refl _ _⟩
  case round =>
    obtain ⟨k, Ac, cc, L, hk, rfl, rfl, hL, oc, fc, hb⟩ := hrel
    clear k1
    have hbW := below_step b1 hb
    have hL40 : L ≤ 40 := by have := Gr.choK_len (netG net) k; omega
    have HLK := Lib.hid hL
    have HS := Lib.hid (Gr.choK_succ (netG net) k)
    clear hL
    by_cases hlt : k < m
    · have hki : (k : Int) < (m : Int) := by omega
      have HF : Hid (decide ((k : Int) ∈ nl (netG net).forest) = (netG net).Fb k) := Lib.hid (by
        rw [Bool.eq_iff_iff, decide_eq_true_eq, mem_nl, Gr.mem_forest, Gr.Fb_iff, HMm.out]
        exact ⟨fun h => h.2, fun h => ⟨hlt, h⟩⟩)
      go_wp2_with fail
      refine (binarySearch_any _ _ _ _ _ _ (of.later hb).ints (by omega) (by unfold nl; rw [List.pairwise_map]; exact HFP.out.imp fun {a b} h => by show (a : Int) < (b : Int); omega)).mono ?_
      rintro e w2 ⟨_, rfl, rfl⟩
      rw [HF.out]
      cases hfb : (netG net).Fb k
      · rw [hfb] at HS
        have oc2 := oc.later (bel1 _ (.cells #[.int .i64 (k : Int)] 2))
        go_wp2_with (at_builtin; refine law_append _ rfl _ _ rfl Ac L cc _ rfl oc2 _ _ (k : Int) ⟨by omega, by omega⟩ rfl (cell_new1 _ _ _) (by omega) ?_; intro A3 c3 w3 ho3 hg3 hb3)
        go_roundw
        case rel => exact ⟨k + 1, A3, c3, L + 1, by omega, rfl, by go_num, by rw [HS.out, HLK.out]; simp, by rw [HS.out]; simpa [nl_snoc] using ho3, fresh_app' fc (by have := hb.size; simpa using Nat.le_succ_of_le this) hb3, below_app (hb.alloc hb.size _) fc hg3⟩
        case measure => simp [intOf]; omega
      · rw [hfb] at HS
        go_wp2_with fail
        go_roundw
        case rel => exact ⟨k + 1, Ac, cc, L, by omega, rfl, by go_num, by rw [HS.out, HLK.out]; simp, by rw [HS.out]; simpa using oc, fc, hb⟩
        case measure => simp [intOf]; omega
    · have hki : ¬ (k : Int) < (m : Int) := by omega
      have hkm : k = m := by omega
      have HC : Hid ((netG net).chords = (netG net).choK k) := Lib.hid (by unfold Gr.chords; rw [HMm.out, hkm])
      clear hkm
      go_wp2_with fail
      go_ret
      rw [HC.out, ← HLK.out]
      exact ⟨Ac, cc, rfl, oc, fun a ha => by have := fc a ha; have := b1.size; have := HB.out.size; omega, below_step HB.out hbW⟩

set_option maxHeartbeats 2000000 in
theorem checkChord_is (A : Option Addr) (n c : Nat) (B : Option Addr) (m d : Nat) (net : Net) (C : Option Addr) (l e : Nat) (zs : List Int) (x r : Int) (w : World) (h : NetAt w A n c B m d net) (hz : Ints w C l e zs) (hr : codeC net zs x = r) :
    Calls Try.prog 75 #[.agg #[.slice A n c, .slice B m d], .slice C l e, .int .i64 x] w fun e w' => e = .returned (.int .i64 r) ∧ Below w.heap.size w w' := by
  have HB := Lib.hid (bel1 w (.cells #[.slice A n c, .slice B m d] 27))
  by_cases h0 : codeF net zs = 0
  · obtain ⟨hv, hs⟩ := codeF_zero h0
    have HR : Hid ((if chdB net x then 0 else 4) = r) := Lib.hid (by rw [← hr]; unfold codeC; rw [if_pos h0])
    clear hr
    go_enter Try.func75, Try.ntmps75
    go_wp2_with fail
    refine (checkFlows_is _ _ _ _ _ _ _ _ _ net zs _ _ (h.later HB.out) (hz.later HB.out) h0).mono ?_
    rintro e w1 ⟨rfl, b1⟩
    have t1 := below_step HB.out b1
    have s1 := b1
    obtain ⟨k0, k1⟩ := box_cells s1
    go_wp2_with fail
    refine (chordsOf_any _ _ _ _ _ _ net _ (h.later t1) (NetOK.of hv)).mono ?_
    rintro e w2 ⟨Ac, cc, rfl, oc, fc, b2⟩
    have t2 := below_step t1 b2
    clear k0 k1
    go_wp2_with fail
    refine (slicesContains_any _ _ _ _ _ (chdB net x) _ oc.ints rfl).mono ?_
    rintro e w' ⟨rfl, rfl⟩
    rcases hb : chdB net x with _ | _
    · rw [hb] at HR
      have HR2 : Hid (4 = r) := Lib.hid HR.out
      go_wp2_with fail
      go_ret
      exact ⟨ret_int HR2.out, t2⟩
    · rw [hb] at HR
      have HR2 : Hid (0 = r) := Lib.hid HR.out
      go_wp2_with fail
      go_ret
      exact ⟨ret_int HR2.out, t2⟩
  · obtain ⟨k, hk⟩ : ∃ k, codeF net zs = k := ⟨_, rfl⟩
    have HR : Hid (k = r) := Lib.hid (by rw [← hr, ← hk]; unfold codeC; rw [if_neg h0])
    rw [hk] at h0
    clear hr
    have hne : (k != 0) = true := by simp [h0]
    go_enter Try.func75, Try.ntmps75
    go_wp2_with fail
    refine (checkFlows_is _ _ _ _ _ _ _ _ _ net zs _ _ (h.later HB.out) (hz.later HB.out) hk).mono ?_
    rintro e w1 ⟨rfl, b1⟩
    have t1 := below_step HB.out b1
    go_wp2_with fail
    go_ret
    exact ⟨ret_int HR.out, t1⟩

end Go.Proofs.Ytllblmndoigdlaa

/- the cycle of a chord: the program -/
namespace Go.Proofs.Ytllblmndoigdlaa
open Go.RowKit

theorem sup_cyc {g : Gr} (ok : g.ok) {c : Nat} (hc : c < g.m) : ig (((List.replicate g.n 0).set (g.t c) 1).set (g.f c) (-1)) = fun v => (if g.t c = v then 1 else 0) - (if g.f c = v then 1 else 0) := by
  have o := ok c hc
  have e : ((List.replicate g.n 0).set (g.t c) 1).set (g.f c) (-1) = mapTo g.n (fun v => (if g.t c = v then 1 else 0) - (if g.f c = v then 1 else 0)) := by
    rw [← mapTo_const]
    rw [mapTo_set (g := fun v => if g.t c = v then 1 else 0) (fun v _ => rfl)]
    exact mapTo_set fun v _ => by
      by_cases a : g.f c = v
      · have : g.t c ≠ v := by omega
        simp [a, this]
      · simp [a]
  rw [e]
  funext v
  by_cases hv : v < g.n
  · exact mapTo_ig hv
  · rw [ig_ge (by rw [mapTo_len]; omega), if_neg (by omega), if_neg (by omega)]; rfl
theorem mapTo_one {n c : Nat} {f : Nat → Int} : (mapTo n f).set c 1 = mapTo n (upd f c 1) := mapTo_upd

set_option maxRecDepth 100000 in
set_option maxHeartbeats 4000000 in
theorem cycleOf_any (A : Option Addr) (n c : Nat) (B : Option Addr) (m d : Nat) (net : Net) (q : Nat) (w : World) (h : NetAt w A n c B m d net) (ok : NetOK net) (hq : q ∈ (netG net).chords) :
    Calls Try.prog 61 #[.agg #[.slice A n c, .slice B m d], .int .i64 (q : Int)] w fun e w' => ∃ Ac, e = .returned (.slice Ac m m) ∧ Own w' Ac m m (cycL net q) ∧ Fresh w.heap.size Ac ∧ Below w.heap.size w w' := by
  have hn24 : n ≤ 24 := by have := ok.n24; have := h.nodes.len; omega
  have hm40 : m ≤ 40 := by have := ok.m40; have := h.pipes.len; omega
  have HNn : Hid ((netG net).n = n) := Lib.hid h.nodes.len
  have HMm : Hid ((netG net).m = m) := Lib.hid h.pipes.len
  have hqm : q < m := by have := (Gr.mem_chords.1 hq).1; rw [HMm.out] at this; exact this
  have HQ := Lib.hid hq
  clear hq
  have hpl : q < net.pipes.length := by rw [h.pipes.len]; exact hqm
  obtain ⟨fn, hfn⟩ : ∃ fn, (netG net).f q = fn := ⟨_, rfl⟩
  obtain ⟨tn, htn⟩ : ∃ tn, (netG net).t q = tn := ⟨_, rfl⟩
  have og := ok.g q (by rw [HMm.out]; exact hqm)
  rw [HNn.out, hfn, htn] at og
  obtain ⟨hf1, ht1, hft⟩ := og
  have efr : (pp net.pipes q).fr = (fn : Int) := by rw [ok.fr hpl, hfn]
  have eto : (pp net.pipes q).to = (tn : Int) := by rw [ok.to hpl, htn]
  have HSUP := Lib.hid (sup_cyc ok.g (c := q) (by rw [HMm.out]; exact hqm))
  rw [HNn.out, hfn, htn] at HSUP
  have HEN : Hid ((netG net).f q = fn ∧ (netG net).t q = tn) := Lib.hid ⟨hfn, htn⟩
  clear hfn htn
  have HB := Lib.hid (bel1 w (.cells #[.slice A n c, .slice B m d] 27))
  have bx0 : BX (w.alloc (.cells #[.slice A n c, .slice B m d] 27)) w.heap.size A n c B m d := ⟨heap_alloc_new w _⟩
  obtain ⟨bp, offp, rfl, hblp, hcp⟩ := h.pipes.cells (by omega)
  obtain ⟨p0, p1, _, _, _⟩ := hcp q hqm
  rw [efr] at p0
  rw [eto] at p1
  clear hcp efr eto
  have hr0 : ∀ j, j < n → ig (List.replicate n 0) j = 0 := fun j hj => by rw [← mapTo_const, mapTo_ig hj]
  have hr1 : ig ((List.replicate n 0).set tn 1) fn = 0 := by
    rw [← mapTo_const, mapTo_set (g := fun v => if tn = v then 1 else 0) (fun v _ => rfl), mapTo_ig hf1, if_neg (by omega)]
  go_enter Try.func61, Try.ntmps61
  go_wp2_with (at_make; refine law_make _ rfl _ _ rfl n _ _ rfl rfl rfl rfl (by omega) ?_; intro w1 o1 b1 z1; rw [World.size_alloc] at o1; have t1 := below_step HB.out b1; have t2 := t1.setCell (p := ⟨w.heap.size + 1, tn, none⟩) (by show w.heap.size ≤ w.heap.size + 1; omega) (.int .i64 1); have t3 := t2.setCell (p := ⟨w.heap.size + 1, fn, none⟩) (by show w.heap.size ≤ w.heap.size + 1; omega) (.int .i64 (-1)); have o2 := o1.store tn (z := 1) ⟨by decide, by decide⟩; have o3 := o2.store fn (z := -1) ⟨by decide, by decide⟩; have x1 := bx0.step b1; have x2 : BX (w1.setCell ⟨w.heap.size + 1, tn, none⟩ (.int .i64 1)) w.heap.size A n c (some ⟨bp, offp, none⟩) m d := ⟨(Below.heap_setCell w1 _ _ _ (by show w.heap.size ≠ w.heap.size + 1; omega)).trans x1.box⟩; have x3 : BX ((w1.setCell ⟨w.heap.size + 1, tn, none⟩ (.int .i64 1)).setCell ⟨w.heap.size + 1, fn, none⟩ (.int .i64 (-1))) w.heap.size A n c (some ⟨bp, offp, none⟩) m d := ⟨(Below.heap_setCell _ _ _ _ (by show w.heap.size ≠ w.heap.size + 1; omega)).trans x2.box⟩; have k1 := x1.c1; have k2 := x2.c1; have k3 := x3.c0; have k4 := x3.c1; have q1 := (t1.cell (p := ⟨bp, offp + q * 5 + 1, none⟩) hblp).trans p1; have q2 := (t2.cell (p := ⟨bp, offp + q * 5, none⟩) hblp).trans p0; have c1 := o1.cell ht1; rw [hr0 _ ht1] at c1; have c2 := o2.cell hf1; rw [hr1] at c2; have u1 := o1.unfrozen tn; have u2 := o2.unfrozen fn; have T3 := Lib.hid t3; have O3 := Lib.hid o3; clear t1 t2 t3 o1 o2 o3 x1 x2 x3 b1 z1)
  refine (forestFlows_any _ _ _ _ _ _ net _ _ _ _ _ (h.later T3.out) O3.out.ints ok rfl (fun j => by
    rw [HSUP.out]
    show -30000 ≤ (if tn = j then (1 : Int) else 0) - (if fn = j then (1 : Int) else 0) ∧ (if tn = j then (1 : Int) else 0) - (if fn = j then (1 : Int) else 0) ≤ 30000
    split <;> split <;> omega)).mono ?_
  rintro e w4 ⟨Af, rfl, of, ff, b4⟩
  rw [HSUP.out] at of
  obtain ⟨gf, rfl, hgf⟩ := of.pos (by omega)
  have t4 := below_step T3.out b4
  have hgf2 : w.heap.size ≤ gf := by have := ff _ rfl; simp only at this; have := T3.out.size; omega
  have uq := of.unfrozen q
  have cq := of.cell hqm
  have oq := of.store q (z := 1) ⟨by decide, by decide⟩
  have tq := t4.setCell (p := ⟨gf, q, none⟩) hgf2 (.int .i64 1)
  have HC : Hid ((mapTo m ((netG net).ffl fun v => (if tn = v then 1 else 0) - (if fn = v then 1 else 0))).set q 1 = cycL net q) := Lib.hid (by
    have hm := Gr.mem_chords.1 HQ.out
    rw [mapTo_one, ← h.pipes.len]
    refine cycL_is ok HQ.out (Gr.cyc_ff hm.1 hm.2 ?_)
    rw [HEN.out.1, HEN.out.2]
    exact Gr.ffl_ff ok.g)
  rw [HC.out] at oq
  have OQ := Lib.hid oq
  have TQ := Lib.hid tq
  clear oq tq t4 b4 ff k1 k2 k3 k4 q1 q2 c1 c2 u1 u2 of
  go_wp2_with fail
  go_ret
  exact ⟨_, rfl, OQ.out, (fun a ha => by injection ha with ha; subst ha; exact hgf2), TQ.out⟩

end Go.Proofs.Ytllblmndoigdlaa
