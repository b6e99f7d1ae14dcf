/- Bits the other way round; the sum by the polynomial as it is written is the sum by the table. Without the program. -/
import Derived.Test.YtifdibkpaeocfaaGreatDoorCrc
namespace Go.Proofs.YtifdibkpaeocfaaGreatDoor
open Go.RowKit

/-- The lowest bits of a number, the other way round. -/
def rev : Nat → Nat → Nat
  | 0, _ => 0
  | k + 1, n => 2 * rev k n + n / 2 ^ k % 2
theorem rev_lt (k n : Nat) : rev k n < 2 ^ k := by
  induction k with
  | zero => simp [rev]
  | succ k ih => rw [rev, Nat.pow_succ]; omega
theorem rev_bit (k n : Nat) : ∀ j, (rev k n).testBit j = (decide (j < k) && n.testBit (k - 1 - j)) := by
  induction k with
  | zero => intro j; simp [rev]
  | succ k ih =>
    intro j
    have hb : n / 2 ^ k % 2 < 2 := by omega
    cases j with
    | zero =>
      rw [Nat.testBit_zero]
      have : rev (k + 1) n % 2 = n / 2 ^ k % 2 := by rw [rev]; omega
      rw [this, Nat.testBit_eq_decide_div_mod_eq]
      simp
    | succ j =>
      rw [Nat.testBit_succ]
      have : rev (k + 1) n / 2 = rev k n := by rw [rev]; omega
      rw [this, ih]
      have e : k + 1 - 1 - (j + 1) = k - 1 - j := by omega
      rw [e]
      congr 1
      simp
theorem rev_xor (k a b : Nat) : rev k (a ^^^ b) = rev k a ^^^ rev k b := by
  apply Nat.eq_of_testBit_eq
  intro j
  rw [Nat.testBit_xor, rev_bit, rev_bit, rev_bit, Nat.testBit_xor]
  cases decide (j < k) <;> simp
theorem rev_rev {k n : Nat} (h : n < 2 ^ k) : rev k (rev k n) = n := by
  apply Nat.eq_of_testBit_eq
  intro j
  rw [rev_bit]
  by_cases hj : j < k
  · rw [rev_bit]
    have e : k - 1 - (k - 1 - j) = j := by omega
    rw [e]
    have : k - 1 - j < k := by omega
    simp [hj, this]
  · have : n < 2 ^ j := Nat.lt_of_lt_of_le h (Nat.pow_le_pow_right (by omega) (by omega))
    rw [Nat.testBit_lt_two_pow this]
    simp [hj]
theorem rev_shift {x : Nat} (h : x < 4294967296) : rev 32 (x / 2) = rev 32 x * 2 % 4294967296 := by
  apply Nat.eq_of_testBit_eq
  intro j
  rw [show (4294967296 : Nat) = 2 ^ 32 from rfl, Nat.testBit_mod_two_pow, rev_bit]
  by_cases hj : j < 32
  · cases j with
    | zero =>
      have e1 : (rev 32 x * 2).testBit 0 = false := by rw [Nat.testBit_zero]; simp
      have e2 : (x / 2).testBit (32 - 1 - 0) = false := Nat.testBit_lt_two_pow (by omega)
      rw [e1, e2, Bool.and_false]
    | succ j =>
      have e1 : (rev 32 x * 2).testBit (j + 1) = (rev 32 x).testBit j := by rw [Nat.testBit_succ]; congr 1; omega
      have e2 : (x / 2).testBit (32 - 1 - (j + 1)) = x.testBit (32 - 1 - j) := by rw [← Nat.testBit_succ]; congr 1; try omega
      rw [e1, e2, rev_bit]
      have : j < 32 := by omega
      simp [hj, this]
  · simp [hj]
theorem rev_top {x : Nat} : rev 32 x / 2147483648 = x % 2 := by
  have h1 := rev_lt 32 x
  have h2 := rev_bit 32 x 31
  rw [Nat.testBit_eq_decide_div_mod_eq, Nat.testBit_zero] at h2
  simp only [show (31 : Nat) < 32 from by decide, decide_true, Bool.true_and, decide_eq_decide] at h2
  have e : rev 32 x / 2 ^ 31 < 2 := by omega
  rw [show (2147483648 : Nat) = 2 ^ 31 from rfl]
  by_cases hx : x % 2 = 1
  · have := h2.2 hx; omega
  · have : ¬ rev 32 x / 2 ^ 31 % 2 = 1 := fun h => hx (h2.1 h)
    omega
theorem xor_half (x y : Nat) : (x ^^^ y) / 2 = x / 2 ^^^ y / 2 := by
  apply Nat.eq_of_testBit_eq
  intro j
  rw [← Nat.testBit_succ, Nat.testBit_xor, Nat.testBit_xor, ← Nat.testBit_succ, ← Nat.testBit_succ]
theorem xor_par (x y : Nat) : (x ^^^ y) % 2 = (x + y) % 2 := by
  have h := Nat.testBit_xor x y 0
  rw [Nat.testBit_zero, Nat.testBit_zero, Nat.testBit_zero] at h
  have h1 := Nat.mod_two_eq_zero_or_one (x ^^^ y)
  rcases Nat.mod_two_eq_zero_or_one x with hx | hx <;> rcases Nat.mod_two_eq_zero_or_one y with hy | hy <;> rcases h1 with hz | hz <;> rw [hx, hy, hz] at h <;> first | omega | (exact absurd h (by decide))
theorem crcBit_xor2 (x z : Nat) : crcBit (x ^^^ 2 * z) = crcBit x ^^^ z := by
  unfold crcBit
  rw [xor_half, xor_par]
  have e1 : 2 * z / 2 = z := by omega
  have e2 : (x + 2 * z) % 2 = x % 2 := by omega
  rw [e1, e2, Nat.xor_assoc, Nat.xor_assoc, Nat.xor_comm z]
theorem crcN_high (j : Nat) : ∀ x h, crcN j (x ^^^ h * 2 ^ j) = crcN j x ^^^ h := by
  induction j with
  | zero => intro x h; simp [crcN]
  | succ j ih =>
    intro x h
    have e : h * 2 ^ (j + 1) = 2 * (h * 2 ^ j) := by rw [Nat.pow_succ, ← Nat.mul_assoc, Nat.mul_comm]
    rw [crcN, e, crcBit_xor2, ih]
    rfl
theorem split_low (c b : Nat) : c ^^^ b = ((c % 256) ^^^ b) ^^^ (c / 256) * 2 ^ 8 := by
  have h : c = (c % 256) ^^^ (c / 256) * 2 ^ 8 := by
    apply Nat.eq_of_testBit_eq
    intro j
    rw [Nat.testBit_xor, show (256 : Nat) = 2 ^ 8 from rfl, Nat.testBit_mod_two_pow, Nat.testBit_mul_two_pow, Nat.testBit_div_two_pow]
    by_cases hj : j < 8
    · have : ¬ 8 ≤ j := by omega
      simp [hj, this]
    · have h8 : 8 ≤ j := by omega
      have e : j - 8 + 8 = j := by omega
      simp [hj, h8, e]
  conv => lhs; rw [h]
  rw [Nat.xor_assoc, Nat.xor_assoc, Nat.xor_comm _ b]
/-- A byte's step is eight steps of a bit. -/
theorem crcStep_bits (c : Nat) (b : UInt8) : crcStep c b = crcN 8 (c ^^^ b.toNat) := by
  rw [split_low c b.toNat, crcN_high, crcStep, Nat.xor_comm]

/-- A step that takes one bit of a byte. -/
def crcIn (x b : Nat) : Nat := (x / 2) ^^^ (if (x + b) % 2 = 1 then 2197175160 else 0)
theorem crcIn_lt {x b : Nat} (h : x < 4294967296) : crcIn x b < 4294967296 := by
  unfold crcIn
  split
  · exact Nat.xor_lt_two_pow (n := 32) (by omega) (by omega)
  · rw [Nat.xor_zero]; omega
theorem crcIn_xor (x y : Nat) : crcBit (x ^^^ y) = crcIn x y ^^^ y / 2 := by
  unfold crcBit crcIn
  rw [xor_half, xor_par, Nat.xor_assoc, Nat.xor_assoc, Nat.xor_comm (y / 2)]
/-- The steps of the first bits of a byte. -/
def crcIns (c b : Nat) : Nat → Nat
  | 0 => c
  | j + 1 => crcIn (crcIns c b j) (b / 2 ^ j)
theorem crcIns_lt {c b : Nat} (h : c < 4294967296) (j : Nat) : crcIns c b j < 4294967296 := by
  induction j with
  | zero => exact h
  | succ j ih => exact crcIn_lt ih
theorem crcIns_N (c b j : Nat) : crcN j (c ^^^ b) = crcIns c b j ^^^ b / 2 ^ j := by
  induction j with
  | zero => simp [crcN, crcIns]
  | succ j ih => rw [crcN_succ, ih, crcIn_xor, crcIns, Nat.div_div_eq_div_mul, Nat.pow_succ]
theorem crcIns_8 (c : Nat) (b : UInt8) : crcIns c b.toNat 8 = crcStep c b := by
  have h := b.toNat_lt
  rw [crcStep_bits, crcIns_N]
  have : b.toNat / 2 ^ 8 = 0 := by omega
  rw [this, Nat.xor_zero]
/-- The reference's step, the other way round. -/
theorem rev_in {x b : Nat} (h : x < 4294967296) : rev 32 (crcIn x b) = (rev 32 x * 2 % 4294967296) ^^^ (if (x + b) % 2 = 1 then 517762881 else 0) := by
  unfold crcIn
  rw [rev_xor, rev_shift h]
  congr 1
  split
  · decide
  · decide
end Go.Proofs.YtifdibkpaeocfaaGreatDoor
