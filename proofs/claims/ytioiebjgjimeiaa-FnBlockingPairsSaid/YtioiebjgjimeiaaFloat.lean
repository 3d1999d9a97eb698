/- plain: the float64 root of a whole number, cut to a whole number, lies between 0 and 2^31 -/
import Ieee.Arith
import GoSem.Core.Float
import Derived.KernelRfl
namespace Go.Proofs.Ytioiebjgjimeiaa
open Ieee

theorem two_pow_le {a b : Nat} (h : a ≤ b) : 2 ^ a ≤ 2 ^ b := Nat.pow_le_pow_right (by omega) h

theorem cut_zero_drop (n : Nat) : Toward.even.cut false n 0 = n := by
  simp [Toward.cut, Nat.mod_one]

theorem cut_bounds (n d : Nat) (hd : d ≤ n.log2) : n / 2 ^ d ≤ Toward.even.cut false n d ∧ Toward.even.cut false n d ≤ n / 2 ^ d + 1 := by
  have hm : min d (n.log2 + 2) = d := by omega
  simp only [Toward.cut, hm, Nat.one_shiftLeft]
  generalize (decide (2 ^ d < 2 * (n % 2 ^ d)) || 2 ^ d == 2 * (n % 2 ^ d) && n / 2 ^ d % 2 == 1) = b
  cases b <;> simp

theorem kept_bounds (mag : Nat) (hm : mag ≠ 0) :
    2 ^ 52 ≤ Toward.even.cut false (mag <<< (52 - mag.log2)) (mag.log2 - 52) ∧ Toward.even.cut false (mag <<< (52 - mag.log2)) (mag.log2 - 52) ≤ 2 ^ 53 := by
  have h1 := Nat.log2_self_le hm
  have h2 := Nat.lt_log2_self (n := mag)
  rcases Nat.lt_or_ge 52 mag.log2 with h | h
  · rw [show 52 - mag.log2 = 0 by omega, Nat.shiftLeft_zero]
    obtain ⟨c1, c2⟩ := cut_bounds mag (mag.log2 - 52) (by omega)
    have e : 2 ^ mag.log2 = 2 ^ 52 * 2 ^ (mag.log2 - 52) := by rw [← Nat.pow_add]; congr 1; omega
    have e2 : 2 ^ (mag.log2 + 1) = 2 ^ 53 * 2 ^ (mag.log2 - 52) := by rw [← Nat.pow_add]; congr 1; omega
    have a1 : 2 ^ 52 ≤ mag / 2 ^ (mag.log2 - 52) := (Nat.le_div_iff_mul_le (Nat.two_pow_pos _)).2 (by omega)
    have a2 : mag / 2 ^ (mag.log2 - 52) < 2 ^ 53 := (Nat.div_lt_iff_lt_mul (Nat.two_pow_pos _)).2 (by omega)
    omega
  · rw [show mag.log2 - 52 = 0 by omega, cut_zero_drop, Nat.shiftLeft_eq]
    have e : 2 ^ mag.log2 * 2 ^ (52 - mag.log2) = 2 ^ 52 := by rw [← Nat.pow_add]; congr 1; omega
    have e2 : 2 ^ (mag.log2 + 1) * 2 ^ (52 - mag.log2) = 2 ^ 53 := by rw [← Nat.pow_add]; congr 1; omega
    have a1 := Nat.mul_le_mul_right (2 ^ (52 - mag.log2)) h1
    have a2 := Nat.mul_le_mul_right (2 ^ (52 - mag.log2)) (Nat.le_of_lt h2)
    omega

theorem ar1 {L k : Nat} (h : L ≤ 1974) (hk : k ≤ 9007199254740992) : min (L * 4503599627370496 + k) 9218868437227405312 = L * 4503599627370496 + k := by omega
theorem ar2 {L k : Nat} (h : L ≤ 1974) (hk : k ≤ 9007199254740992) : (L * 4503599627370496 + k) / 9223372036854775808 % 2 = 0 := by omega
theorem ar3 {L k : Nat} (h : L ≤ 1974) (hk : k ≤ 9007199254740992) : (L * 4503599627370496 + k) % 9223372036854775808 = L * 4503599627370496 + k := by omega
theorem ar4 {L k : Nat} (hk : 4503599627370496 ≤ k) : ¬ L * 4503599627370496 + k < 4503599627370496 := by omega
theorem ar5 {L k : Nat} (h : L ≤ 1974) (hk : k ≤ 9007199254740992) : L * 4503599627370496 + k < 9218868437227405312 := by omega
theorem ar6 {L k : Nat} (h1 : 4503599627370496 ≤ k) (h2 : k < 9007199254740992) : 4503599627370496 + (L * 4503599627370496 + k) % 4503599627370496 = k := by omega
theorem ar7 {L k : Nat} (h1 : 4503599627370496 ≤ k) (h2 : k < 9007199254740992) : (L * 4503599627370496 + k) / 4503599627370496 - 1 = L := by omega
theorem ar8 {L : Nat} : 4503599627370496 + (L * 4503599627370496 + 9007199254740992) % 4503599627370496 = 4503599627370496 := by omega
theorem ar9 {L : Nat} : (L * 4503599627370496 + 9007199254740992) / 4503599627370496 - 1 = L + 1 := by omega

theorem el_ : double.leastPlace = -1074 := by decide +kernel
theorem eb_ : double.binade = 4503599627370496 := by decide +kernel
theorem ei_ : double.infRung = 9218868437227405312 := by decide +kernel
theorem es_ : double.signWeight = 9223372036854775808 := by decide +kernel
theorem ef_ : ((double.fractionBits : Nat) : Int) = 52 := rfl

/-- the word of a number -/
theorem near_is (mag : Nat) (place : Int) (hm : mag ≠ 0) (h1 : -1074 ≤ place + mag.log2 - 52) :
    double.nearest false mag place = min ((place + mag.log2 - 52 + 1074).toNat * 4503599627370496 + Toward.even.cut false (mag <<< (52 - mag.log2)) (mag.log2 - 52)) 9218868437227405312 := by
  unfold Format.nearest
  simp only [hm, if_false, el_, eb_, ei_, ef_, Format.word, Bool.false_eq_true]
  rw [show max (place + (mag.log2 : Int) - 52) (-1074) = place + (mag.log2 : Int) - 52 by omega, show (place - (place + (mag.log2 : Int) - 52)).toNat = 52 - mag.log2 by omega, show (place + (mag.log2 : Int) - 52 - place).toNat = mag.log2 - 52 by omega,
    show (place + (mag.log2 : Int) - 52 - -1074).toNat = (place + (mag.log2 : Int) - 52 + 1074).toNat by omega]

/-- what is read back of a rung -/
theorem read_is (L k : Nat) (h : L ≤ 1974) (h1 : 4503599627370496 ≤ k) (h2 : k ≤ 9007199254740992) :
    (k < 9007199254740992 ∧ double.read (L * 4503599627370496 + k) = .number false k (-1074 + (L : Nat))) ∨
    (k = 9007199254740992 ∧ double.read (L * 4503599627370496 + k) = .number false 4503599627370496 (-1074 + ((L + 1 : Nat) : Int))) := by
  unfold Format.read
  simp only [es_, eb_, ei_, el_]
  rw [ar2 h h2, ar3 h h2, if_neg (ar4 h1), if_pos (ar5 h h2)]
  rcases Nat.lt_or_ge k 9007199254740992 with hk | hk
  · refine .inl ⟨hk, ?_⟩
    rw [ar6 h1 hk, ar7 h1 hk]; rfl
  · have : k = 9007199254740992 := by omega
    subst this
    refine .inr ⟨rfl, ?_⟩
    rw [ar8, ar9]; rfl

/-- what is read back of a number that was written -/
theorem near_read (mag : Nat) (place : Int) (hm : mag ≠ 0) (h1 : -1074 ≤ place + mag.log2 - 52) (h2 : place + mag.log2 - 52 ≤ 900) :
    ∃ kept : Nat, 4503599627370496 ≤ kept ∧ kept ≤ 9007199254740992 ∧
      ((kept < 9007199254740992 ∧ double.read (double.nearest false mag place) = .number false kept (place + mag.log2 - 52)) ∨
       (kept = 9007199254740992 ∧ double.read (double.nearest false mag place) = .number false 4503599627370496 (place + mag.log2 - 52 + 1))) := by
  obtain ⟨k1, k2⟩ := kept_bounds mag hm
  have k1' : 4503599627370496 ≤ Toward.even.cut false (mag <<< (52 - mag.log2)) (mag.log2 - 52) := k1
  have k2' : Toward.even.cut false (mag <<< (52 - mag.log2)) (mag.log2 - 52) ≤ 9007199254740992 := k2
  refine ⟨_, k1', k2', ?_⟩
  rw [near_is mag place hm h1]
  clear k1 k2
  generalize Toward.even.cut false (mag <<< (52 - mag.log2)) (mag.log2 - 52) = kept at k1' k2' ⊢
  obtain ⟨L, hL⟩ : ∃ L : Nat, place + (mag.log2 : Int) - 52 + 1074 = L := ⟨_, (Int.toNat_of_nonneg (by omega)).symm⟩
  rw [hL, Int.toNat_natCast]
  have hLe : L ≤ 1974 := by omega
  rw [ar1 hLe k2']
  have e1 : (-1074 : Int) + (L : Nat) = place + mag.log2 - 52 := by omega
  have e2 : (-1074 : Int) + ((L + 1 : Nat) : Int) = place + mag.log2 - 52 + 1 := by omega
  rcases read_is L kept hLe k1' k2' with ⟨ha, hb⟩ | ⟨ha, hb⟩
  · exact .inl ⟨ha, by rw [hb, e1]⟩
  · exact .inr ⟨ha, by rw [hb, e2]⟩

theorem rootFrom_sq (n : Nat) : ∀ todo root, root * root ≤ n → Datum.rootFrom n todo root * Datum.rootFrom n todo root ≤ n
  | 0, root, h => h
  | todo + 1, root, h => by
    unfold Datum.rootFrom
    refine rootFrom_sq n todo _ ?_
    split
    · assumption
    · exact h

theorem cast_le {t : Nat} (h : t ≤ 2147483648) : ((t : Nat) : Int) ≤ 2147483648 := by omega

theorem cut_zero (M d : Nat) : Toward.zero.cut false M d = M / 2 ^ min d (M.log2 + 2) := by
  simp [Toward.cut, Nat.one_shiftLeft]

theorem toInt_is (M : Nat) (E : Int) (hE : E ≤ 0) : (Datum.number false M E).toInt .zero = some ((M / 2 ^ min (-E).toNat (M.log2 + 2) : Nat) : Int) := by
  have e2 : E.toNat = 0 := by omega
  simp only [Datum.toInt, Datum.integral, e2, Nat.shiftLeft_zero, cut_zero, signed, Bool.false_eq_true, if_false]

theorem div_small (M d : Nat) (hd : 22 ≤ d) (hM : M < 9007199254740992) : M / 2 ^ min d (M.log2 + 2) ≤ 2147483648 := by
  rcases Nat.lt_or_ge (M.log2 + 2) d with h | h
  · rw [show min d (M.log2 + 2) = M.log2 + 2 by omega]
    have h2 := Nat.lt_log2_self (n := M)
    have h3 := two_pow_le (show M.log2 + 1 ≤ M.log2 + 2 by omega)
    rw [Nat.div_eq_of_lt (Nat.lt_of_lt_of_le h2 h3)]
    omega
  · rw [show min d (M.log2 + 2) = d by omega]
    have h3 : 2 ^ 22 ≤ 2 ^ d := two_pow_le hd
    have h4 : M / 2 ^ d ≤ M / 2 ^ 22 := Nat.div_le_div_left h3 (by decide)
    have h5 : M / 2 ^ 22 ≤ 2147483648 := by omega
    exact Nat.le_trans h4 h5

theorem div_edge (d : Nat) (hd : 21 ≤ d) : 4503599627370496 / 2 ^ min d (Nat.log2 4503599627370496 + 2) ≤ 2147483648 := by
  have el : Nat.log2 4503599627370496 = 52 := by decide +kernel
  rw [el]
  have h3 : 2 ^ 21 ≤ 2 ^ min d (52 + 2) := two_pow_le (by omega)
  have h4 : 4503599627370496 / 2 ^ min d (52 + 2) ≤ 4503599627370496 / 2 ^ 21 := Nat.div_le_div_left h3 (by decide)
  exact Nat.le_trans h4 (by decide)

theorem toInt_small (M : Nat) (E : Int) (hE : E ≤ -22) (hM : M < 9007199254740992) : ∃ m : Int, (Datum.number false M E).toInt .zero = some m ∧ 0 ≤ m ∧ m ≤ 2147483648 :=
  ⟨_, toInt_is M E (by omega), Int.natCast_nonneg _, cast_le (div_small M _ (by omega) hM)⟩

theorem toInt_edge (E : Int) (hE : E ≤ -21) : ∃ m : Int, (Datum.number false 4503599627370496 E).toInt .zero = some m ∧ 0 ≤ m ∧ m ≤ 2147483648 :=
  ⟨_, toInt_is _ E (by omega), Int.natCast_nonneg _, cast_le (div_edge _ (by omega))⟩

theorem log2_56 {G : Nat} (hG0 : G ≠ 0) (hmag : G < 72057594037927936) : G.log2 ≤ 55 := by
  have h := Nat.log2_self_le hG0
  rcases Nat.lt_or_ge 55 G.log2 with h' | h'
  · have h2 : 2 ^ 56 ≤ 2 ^ G.log2 := two_pow_le h'
    have h3 : (72057594037927936 : Nat) ≤ G := Nat.le_trans h2 h
    omega
  · exact h'

/-- a number that is written, read and cut -/
theorem writecut (G : Nat) (P : Int) (hmag : G < 72057594037927936) (hP1 : P ≤ -25) (hP2 : -60 ≤ P) :
    ∃ m, (double.read (double.write (.number false G P))).toInt .zero = some m ∧ 0 ≤ m ∧ m ≤ 2147483648 := by
  by_cases hG0 : G = 0
  · subst hG0
    have e : double.write (.number false 0 P) = 0 := by simp [Format.write, Format.nearest, Format.word]
    rw [e]
    exact ⟨0, by decide +kernel, by omega, by omega⟩
  · have hl1 := log2_56 hG0 hmag
    obtain ⟨kept, k1, k2, hk⟩ := near_read G P hG0 (by omega) (by omega)
    show ∃ m, (double.read (double.nearest false G P)).toInt .zero = some m ∧ _
    rcases hk with ⟨hk, hr⟩ | ⟨hk, hr⟩
    · rw [hr]; exact toInt_small kept _ (by omega) hk
    · rw [hr]; exact toInt_edge _ (by omega)

theorem whole_small {n whole : Nat} (hn : n < 1298074214633706907132624082305024) (h : whole * whole ≤ n) : whole < 36028797018963968 := by
  rcases Nat.lt_or_ge whole 36028797018963968 with h' | h'
  · exact h'
  · have := Nat.mul_le_mul h' h'
    omega

theorem shl_small {M s : Nat} (hM : M < 9007199254740992) (hs : s ≤ 1) : M <<< (56 + s) < 1298074214633706907132624082305024 := by
  rw [Nat.shiftLeft_eq]
  have h3 : 2 ^ (56 + s) ≤ 2 ^ 57 := two_pow_le (by omega)
  have := Nat.mul_lt_mul_of_lt_of_le hM h3 (Nat.two_pow_pos _)
  exact Nat.lt_of_lt_of_le this (by decide)

/-- the root of a word's number, written and cut: small -/
theorem rootcut (M : Nat) (E : Int) (hM1 : 4503599627370496 ≤ M) (hM : M < 9007199254740992) (hE1 : -52 ≤ E) (hE : E ≤ 8) :
    ∃ r m, ((Datum.number false M E).root 54).map double.write = some r ∧ (double.read r).toInt .zero = some m ∧ 0 ≤ m ∧ m ≤ 2147483648 := by
  have hlog : M.log2 = 52 := (Nat.log2_eq_iff (by omega)).2 ⟨hM1, hM⟩
  have hM0 : M ≠ 0 := by omega
  obtain ⟨s, hs, hs1⟩ : ∃ s : Nat, ((E - ((2 * 54 - 52 : Nat) : Int)) % 2).toNat = s ∧ s ≤ 1 := ⟨_, rfl, by omega⟩
  have hsq := rootFrom_sq (M <<< (56 + s)) ((M <<< (56 + s)).log2 / 2 + 1) 0 (Nat.zero_le _)
  have hwh := whole_small (shl_small hM hs1) hsq
  have hroot : (Datum.number false M E).root 54 = some (.number false (2 * Datum.rootFrom (M <<< (56 + s)) ((M <<< (56 + s)).log2 / 2 + 1) 0 + (Datum.rootFrom (M <<< (56 + s)) ((M <<< (56 + s)).log2 / 2 + 1) 0 * Datum.rootFrom (M <<< (56 + s)) ((M <<< (56 + s)).log2 / 2 + 1) 0 != M <<< (56 + s)).toNat) ((E - ((56 + s : Nat) : Int)) / 2 - 1)) := by
    unfold Datum.root
    simp only [hM0, if_false, Bool.false_eq_true, hlog, hs]
  generalize Datum.rootFrom (M <<< (56 + s)) ((M <<< (56 + s)).log2 / 2 + 1) 0 = whole at hsq hwh hroot
  generalize (whole * whole != M <<< (56 + s)) = b at hroot
  have hmag : 2 * whole + b.toNat < 72057594037927936 := by cases b <;> simp <;> omega
  obtain ⟨m, h1, h2, h3⟩ := writecut (2 * whole + b.toNat) ((E - ((56 + s : Nat) : Int)) / 2 - 1) hmag (by omega) (by omega)
  exact ⟨_, m, by rw [hroot]; rfl, h1, h2, h3⟩

/-- float64(n), its root, cut to a whole number: for n up to 10^18 -/
theorem float_root (n : Int) (h0 : 0 ≤ n) (h1 : n ≤ 1000000000000000000) :
    ∃ r m, Go.FloatKind.f64.format.sqrt (Go.FloatKind.f64.nearest n) = some r ∧ (Go.FloatKind.f64.decode r).toInt .zero = some m ∧ 0 ≤ m ∧ m ≤ 2147483648 := by
  have hneg : decide (n < 0) = false := by simp; omega
  show ∃ r m, ((double.read (double.write (.number (decide (n < 0)) n.natAbs 0))).root 54).map double.write = some r ∧ (double.read r).toInt .zero = some m ∧ _
  rw [hneg]
  by_cases hz : n.natAbs = 0
  · rw [hz]
    have e : double.write (.number false 0 0) = 0 := by simp [Format.write, Format.nearest, Format.word]
    rw [e]
    exact ⟨0, 0, by decide +kernel, by decide +kernel, by omega, by omega⟩
  · have hl : n.natAbs.log2 ≤ 59 := by
      have := Nat.log2_self_le hz
      rcases Nat.lt_or_ge 59 n.natAbs.log2 with h | h
      · have h2 : 2 ^ 60 ≤ 2 ^ n.natAbs.log2 := two_pow_le h
        have h3 : (1152921504606846976 : Nat) ≤ n.natAbs := Nat.le_trans h2 this
        omega
      · exact h
    obtain ⟨kept, k1, k2, hk⟩ := near_read n.natAbs 0 hz (by omega) (by omega)
    show ∃ r m, ((double.read (double.nearest false n.natAbs 0)).root 54).map double.write = some r ∧ _
    rcases hk with ⟨hk, hr⟩ | ⟨hk, hr⟩
    · rw [hr]; exact rootcut kept _ k1 hk (by omega) (by omega)
    · rw [hr]; exact rootcut 4503599627370496 _ (Nat.le_refl _) (by decide) (by omega) (by omega)

end Go.Proofs.Ytioiebjgjimeiaa
