/- plain arithmetic: the whole root of a number. -/
import Derived.KernelRfl
namespace Go.Proofs.Ytahmhmicegjdkaa

def isqrt : Nat → Nat
  | 0 => 0
  | n + 1 => if (isqrt n + 1) * (isqrt n + 1) ≤ n + 1 then isqrt n + 1 else isqrt n

theorem isqrt_le (n : Nat) : isqrt n * isqrt n ≤ n := by
  induction n with
  | zero => simp [isqrt]
  | succ n ih =>
    unfold isqrt
    split
    · assumption
    · omega

theorem isqrt_lt (n : Nat) : n < (isqrt n + 1) * (isqrt n + 1) := by
  induction n with
  | zero => simp [isqrt]
  | succ n ih =>
    unfold isqrt
    split
    · have h : (isqrt n + 1 + 1) * (isqrt n + 1 + 1) = (isqrt n + 1) * (isqrt n + 1) + 2 * (isqrt n + 1) + 1 := by
        rw [Nat.add_mul (isqrt n + 1) 1, Nat.mul_add (isqrt n + 1)]; omega
      omega
    · omega

theorem mul_self_lt {a b : Nat} (h : a < b) : a * a < b * b := Nat.mul_lt_mul'' h h

/-- the whole root of an integer that is not negative -/
def rt (n : Int) : Int := (isqrt n.toNat : Nat)

theorem rt_nonneg (n : Int) : 0 ≤ rt n := by unfold rt; omega

theorem rt_sq_le {n : Int} (h : 0 ≤ n) : rt n * rt n ≤ n := by
  have := isqrt_le n.toNat
  unfold rt
  have e : ((isqrt n.toNat * isqrt n.toNat : Nat) : Int) ≤ (n.toNat : Int) := Int.ofNat_le.2 this
  rw [Int.natCast_mul] at e
  omega

theorem rt_sq_lt {n : Int} (h : 0 ≤ n) : n < (rt n + 1) * (rt n + 1) := by
  have := isqrt_lt n.toNat
  unfold rt
  have e : (n.toNat : Int) < (((isqrt n.toNat + 1) * (isqrt n.toNat + 1) : Nat) : Int) := Int.ofNat_lt.2 this
  push_cast at e
  omega

theorem sq_le_sq {a b : Int} (h0 : 0 ≤ a) (h : a ≤ b) : a * a ≤ b * b := Int.mul_le_mul h h h0 (by omega)

theorem rt_unique {n r : Int} (h0 : 0 ≤ r) (h1 : r * r ≤ n) (h2 : n < (r + 1) * (r + 1)) : r = rt n := by
  have hn : 0 ≤ n := Int.le_trans (Int.mul_nonneg h0 h0) h1
  have a := rt_sq_le hn
  have b := rt_sq_lt hn
  have c := rt_nonneg n
  rcases Int.lt_trichotomy r (rt n) with h | h | h
  · have := sq_le_sq (a := r + 1) (b := rt n) (by omega) (by omega)
    omega
  · exact h
  · have := sq_le_sq (a := rt n + 1) (b := r) (by omega) (by omega)
    omega

theorem le_rt {n r : Int} (h0 : 0 ≤ r) (h1 : r * r ≤ n) : r ≤ rt n := by
  have hn : 0 ≤ n := Int.le_trans (Int.mul_nonneg h0 h0) h1
  have b := rt_sq_lt hn
  have c := rt_nonneg n
  rcases Int.lt_or_le (rt n) r with h | h
  · have := sq_le_sq (a := rt n + 1) (b := r) (by omega) (by omega)
    omega
  · exact h

theorem rt_lt {n r : Int} (hn : 0 ≤ n) (h0 : 0 ≤ r) (h1 : n < r * r) : rt n < r := by
  have a := rt_sq_le hn
  rcases Int.lt_or_le (rt n) r with h | h
  · exact h
  · have := sq_le_sq h0 h
    omega

theorem rt_mono {m n : Int} (hm : 0 ≤ m) (h : m ≤ n) : rt m ≤ rt n :=
  le_rt (rt_nonneg m) (Int.le_trans (rt_sq_le hm) h)

theorem rt_le_of {n b : Int} (hn : 0 ≤ n) (h0 : 0 ≤ b) (h : n < (b + 1) * (b + 1)) : rt n ≤ b := by
  have := rt_lt hn (r := b + 1) (by omega) h
  omega

attribute [irreducible] rt

end Go.Proofs.Ytahmhmicegjdkaa
