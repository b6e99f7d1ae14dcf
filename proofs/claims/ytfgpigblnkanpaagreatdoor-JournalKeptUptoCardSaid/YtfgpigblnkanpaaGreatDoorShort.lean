/- A number's bytes cut short are no number; all but the last bear the mark that more follow. Without the program. -/
import Derived.Test.YtfgpigblnkanpaaGreatDoorForm
namespace Go.Proofs.YtfgpigblnkanpaaGreatDoor
open Go.RowKit

theorem readU_short (n : Nat) : ∀ (w acc i : Nat), w ≤ 9 → n * 128 ^ w < 18446744073709551616 → (w = 0 ∨ 0 < n) → i < (uintL n).length → readU w acc ((uintL n).take i) = (0, 0, 2) := by
  induction n using Nat.strongRecOn with
  | ind n ih =>
    intro w acc i hw hn hz hi
    cases i with
    | zero => rfl
    | succ i =>
      by_cases h : n < 128
      · rw [uintL_lt h] at hi; simp at hi
      · rw [uintL_ge h] at hi ⊢
        have e : (n % 128 + 128).toUInt8.toNat = n % 128 + 128 := toUInt8_toNat_lt (by omega)
        have h9 : w ≠ 9 := by
          intro e9; subst e9
          have : 2 * 128 ^ 9 ≤ n * 128 ^ 9 := Nat.mul_le_mul_right _ (by omega)
          omega
        have h1 : ¬ (w = 9 ∧ 1 < (n % 128 + 128).toUInt8.toNat ∨ 0 < w ∧ (n % 128 + 128).toUInt8.toNat = 0) := by rw [e]; omega
        have q : n / 128 * 128 ^ (w + 1) ≤ n * 128 ^ w := by
          rw [Nat.pow_succ, Nat.mul_comm (128 ^ w), ← Nat.mul_assoc]
          exact Nat.mul_le_mul_right _ (by omega)
        rw [List.take_succ_cons, readU_more h1 (by rw [e]; omega)]
        exact ih (n / 128) (by omega) (w + 1) _ i (by omega) (by omega) (by omega) (by simpa using hi)
theorem readU_cut {n i : Nat} (h : n < 18446744073709551616) (hi : i < (uintL n).length) : readU 0 0 ((uintL n).take i) = (0, 0, 2) := readU_short n 0 0 i (by omega) (by simpa using h) (Or.inl rfl) hi
theorem uintL_mark (n : Nat) : ∀ i b, (uintL n)[i]? = some b → (128 ≤ b.toNat ↔ i + 1 < (uintL n).length) := by
  induction n using Nat.strongRecOn with
  | ind n ih =>
    intro i b hb
    by_cases h : n < 128
    · rw [uintL_lt h] at hb ⊢
      cases i with
      | zero =>
        simp at hb
        subst hb
        have e : (UInt8.ofNat n).toNat = n := toUInt8_toNat_lt (n := n) (by omega)
        simp; omega
      | succ i => simp at hb
    · rw [uintL_ge h] at hb ⊢
      have hp := uintL_pos (n / 128)
      cases i with
      | zero =>
        have e : (n % 128 + 128).toUInt8.toNat = n % 128 + 128 := toUInt8_toNat_lt (by omega)
        have hb' : (n % 128 + 128).toUInt8 = b := by simpa using hb
        rw [← hb', e, List.length_cons]
        omega
      | succ i =>
        have := ih (n / 128) (by omega) i b (by simpa using hb)
        rw [this, List.length_cons]
        omega
end Go.Proofs.YtfgpigblnkanpaaGreatDoor
