/- A number that is read is the one form of what it says; and the one form is read. Without the program. -/
import Derived.Test.YtfgpigblnkanpaaGreatDoorUnp
namespace Go.Proofs.YtfgpigblnkanpaaGreatDoor
open Go.RowKit

theorem readU_form (l : List UInt8) : ∀ w acc : Nat, acc < 128 ^ w → w ≤ 9 → (readU w acc l).2.2 = 0 → (w = 0 ∨ l.head? ≠ some 0) →
    ∃ m, (readU w acc l).1 = acc + m * 128 ^ w ∧ uintL m = l.take ((readU w acc l).2.1 - w) ∧ w < (readU w acc l).2.1 := by
  induction l with
  | nil => intro w acc _ _ h; simp [readU] at h
  | cons b l ih =>
    intro w acc ha hw h hz
    by_cases h1 : w = 9 ∧ 1 < b.toNat ∨ 0 < w ∧ b.toNat = 0
    · rw [readU_bad h1] at h; simp at h
    · by_cases h2 : b.toNat < 128
      · rw [readU_end h1 h2]
        refine ⟨b.toNat, rfl, ?_, by simp⟩
        rw [uintL_lt h2]
        simp
      · rw [readU_more h1 h2] at h ⊢
        have hw9 : w ≠ 9 := by
          intro e; have := b.toNat_lt; omega
        have hl : w + 1 = 0 ∨ l.head? ≠ some 0 := by
          right
          intro e
          cases l with
          | nil => simp at e
          | cons c l =>
            simp at e
            subst e
            rw [readU_bad (Or.inr ⟨by omega, rfl⟩)] at h
            simp at h
        obtain ⟨m, e1, e2, e3⟩ := ih (w + 1) _ (acc_more ha) (by omega) h hl
        have hm : 0 < m := by
          rcases Nat.eq_zero_or_pos m with h0 | h0
          · subst h0
            have hu : uintL 0 = [0] := uintL_lt (by decide)
            rw [hu] at e2
            rcases hl with hl | hl
            · omega
            · cases l with
              | nil => simp at e2
              | cons c l =>
                have h4 : (readU (w + 1) (acc + b.toNat % 128 * 128 ^ w) (c :: l)).2.1 - (w + 1) = ((readU (w + 1) (acc + b.toNat % 128 * 128 ^ w) (c :: l)).2.1 - (w + 1) - 1) + 1 := by omega
                rw [h4, List.take_succ_cons] at e2
                simp only [List.cons.injEq] at e2
                exact absurd (congrArg some e2.1.symm) hl
          · exact h0
        refine ⟨b.toNat % 128 + m * 128, ?_, ?_, by omega⟩
        · rw [e1, Nat.pow_succ, Nat.add_mul, Nat.add_assoc, Nat.mul_assoc, Nat.mul_comm 128 (128 ^ w)]
        · have hb := b.toNat_lt
          rw [uintL_ge (by omega)]
          have q1 : (b.toNat % 128 + m * 128) / 128 = m := by omega
          have q2 : (b.toNat % 128 + m * 128) % 128 + 128 = b.toNat := by omega
          rw [q1, q2, e2]
          have h4 : (readU (w + 1) (acc + b.toNat % 128 * 128 ^ w) l).2.1 - w = ((readU (w + 1) (acc + b.toNat % 128 * 128 ^ w) l).2.1 - (w + 1)) + 1 := by omega
          rw [h4, List.take_succ_cons]
          simp
theorem readU_one {l : List UInt8} (h : (readU 0 0 l).2.2 = 0) : uintL (readU 0 0 l).1 = l.take (readU 0 0 l).2.1 := by
  obtain ⟨m, e1, e2, _⟩ := readU_form l 0 0 (by decide) (by omega) h (Or.inl rfl)
  have : (readU 0 0 l).1 = m := by rw [e1]; simp
  rw [this, e2]; rfl

theorem readU_back (n : Nat) : ∀ (w acc : Nat) (r : List UInt8), acc < 128 ^ w → w ≤ 9 → n * 128 ^ w < 18446744073709551616 → (w = 0 ∨ 0 < n) → readU w acc (uintL n ++ r) = (acc + n * 128 ^ w, w + (uintL n).length, 0) := by
  induction n using Nat.strongRecOn with
  | ind n ih =>
    intro w acc r ha hw hn hz
    have h9 : w = 9 → n ≤ 1 := by
      intro e; subst e
      rcases Nat.lt_or_ge 1 n with h | h
      · have : 2 * 128 ^ 9 ≤ n * 128 ^ 9 := Nat.mul_le_mul_right _ h
        omega
      · exact h
    by_cases h : n < 128
    · rw [uintL_lt h]
      have e : n.toUInt8.toNat = n := toUInt8_toNat_lt (by omega)
      have h1 : ¬ (w = 9 ∧ 1 < n.toUInt8.toNat ∨ 0 < w ∧ n.toUInt8.toNat = 0) := by rw [e]; omega
      rw [List.cons_append, readU_end h1 (by rw [e]; exact h), e]
      rfl
    · rw [uintL_ge h]
      have e : (n % 128 + 128).toUInt8.toNat = n % 128 + 128 := toUInt8_toNat_lt (by omega)
      have hw9 : w ≠ 9 := by intro e; have := h9 e; omega
      have h1 : ¬ (w = 9 ∧ 1 < (n % 128 + 128).toUInt8.toNat ∨ 0 < w ∧ (n % 128 + 128).toUInt8.toNat = 0) := by rw [e]; omega
      rw [List.cons_append, readU_more h1 (by rw [e]; omega), e]
      have q : (n % 128 + 128) % 128 = n % 128 := by omega
      have q2 : n / 128 * 128 ^ (w + 1) + n % 128 * 128 ^ w = n * 128 ^ w := by
        rw [Nat.pow_succ, Nat.mul_comm (128 ^ w), ← Nat.mul_assoc, ← Nat.add_mul]
        congr 1
        omega
      have hq : acc + n % 128 * 128 ^ w < 128 ^ (w + 1) := acc_more ha
      rw [q, ih (n / 128) (by omega) (w + 1) _ r hq (by omega) (by omega) (by omega)]
      simp only [List.length_cons]
      refine Prod.ext ?_ (Prod.ext ?_ rfl)
      · simp only; omega
      · simp only; omega
theorem readU_uintL {n : Nat} (h : n < 18446744073709551616) (r : List UInt8) : readU 0 0 (uintL n ++ r) = (n, (uintL n).length, 0) := by
  rw [readU_back n 0 0 r (by decide) (by omega) (by simpa using h) (Or.inl rfl)]
  simp
end Go.Proofs.YtfgpigblnkanpaaGreatDoor
