/- What Unpack takes, without the program. No conditions. A number that is read is the one form of what it says; and the one form is read. Without the program. A number's bytes cut short are no number; all but the last bear the mark that more follow. Without the program. Frames of records, and what is read of bytes. Plain data. -/
import Derived.Test.YtfgpigblnkanpaaGreatDoorGC
namespace Go.Proofs.YtfgpigblnkanpaaGreatDoor
open Go.RowKit

/-- A text, ahead of which its length stands: the text, what is left, the error. -/
def textsL (s : List UInt8) : List UInt8 × List UInt8 × Nat :=
  if (readU 0 0 s).2.2 ≠ 0 then ([], [], (readU 0 0 s).2.2)
  else if s.length - (readU 0 0 s).2.1 < (readU 0 0 s).1 then ([], [], 2)
  else ((s.drop (readU 0 0 s).2.1).take (readU 0 0 s).1, s.drop ((readU 0 0 s).2.1 + (readU 0 0 s).1), 0)

theorem readU_fine (l : List UInt8) : ∀ w acc : Nat, acc < 128 ^ w → w ≤ 9 → (readU w acc l).2.2 = 0 → w < (readU w acc l).2.1 ∧ (readU w acc l).2.1 ≤ w + l.length ∧ (readU w acc l).2.1 ≤ 10 ∧ (readU w acc l).1 < 18446744073709551616 := by
  induction l with
  | nil => intro w acc _ _ h; simp [readU] at h
  | cons b l ih =>
    intro w acc ha hw h
    by_cases h1 : w = 9 ∧ 1 < b.toNat ∨ 0 < w ∧ b.toNat = 0
    · rw [readU_bad h1] at h; simp at h
    · by_cases h2 : b.toNat < 128
      · rw [readU_end h1 h2]
        have hf := fits9 hw h2 (fun e => by omega)
        have h9 : 128 ^ w ≤ 128 ^ 9 := Nat.pow_le_pow_right (by omega) hw
        refine ⟨by simp, by simp, by simp; omega, ?_⟩
        show acc + b.toNat * 128 ^ w < _
        by_cases e9 : w = 9
        · subst e9; have : b.toNat ≤ 1 := by omega
          have : b.toNat * 128 ^ 9 ≤ 1 * 128 ^ 9 := Nat.mul_le_mul_right _ this
          omega
        · have h8 : 128 ^ w ≤ 128 ^ 8 := Nat.pow_le_pow_right (by omega) (by omega)
          have : b.toNat * 128 ^ w ≤ 128 * 128 ^ 8 := Nat.mul_le_mul (by omega) h8
          omega
      · rw [readU_more h1 h2] at h ⊢
        have hw9 : w ≠ 9 := by
          intro e; have := b.toNat_lt; omega
        obtain ⟨q1, q2, q3, q4⟩ := ih (w + 1) _ (acc_more ha) (by omega) h
        simp only [List.length_cons]
        exact ⟨by omega, by omega, q3, q4⟩
theorem readU_ok {l : List UInt8} (h : (readU 0 0 l).2.2 = 0) : 0 < (readU 0 0 l).2.1 ∧ (readU 0 0 l).2.1 ≤ l.length ∧ (readU 0 0 l).2.1 ≤ 10 ∧ (readU 0 0 l).1 < 18446744073709551616 := by
  have := readU_fine l 0 0 (by decide) (by omega) h
  simpa using this
theorem readU_bad0 (l : List UInt8) : ∀ w acc : Nat, (readU w acc l).2.2 ≠ 0 → (readU w acc l).1 = 0 ∧ (readU w acc l).2.1 = 0 ∧ ((readU w acc l).2.2 = 2 ∨ (readU w acc l).2.2 = 4) := by
  induction l with
  | nil => intro w acc _; simp [readU]
  | cons b l ih =>
    intro w acc h
    by_cases h1 : w = 9 ∧ 1 < b.toNat ∨ 0 < w ∧ b.toNat = 0
    · rw [readU_bad h1]; simp
    · by_cases h2 : b.toNat < 128
      · rw [readU_end h1 h2] at h; simp at h
      · rw [readU_more h1 h2] at h ⊢; exact ih _ _ h

theorem textsL_err {s : List UInt8} (h : (readU 0 0 s).2.2 ≠ 0) : textsL s = ([], [], (readU 0 0 s).2.2) := by rw [textsL, if_pos h]
theorem textsL_short {s : List UInt8} (h : (readU 0 0 s).2.2 = 0) (h2 : s.length - (readU 0 0 s).2.1 < (readU 0 0 s).1) : textsL s = ([], [], 2) := by rw [textsL, if_neg (by omega), if_pos h2]
theorem textsL_ok {s : List UInt8} (h : (readU 0 0 s).2.2 = 0) (h2 : ¬ s.length - (readU 0 0 s).2.1 < (readU 0 0 s).1) : textsL s = ((s.drop (readU 0 0 s).2.1).take (readU 0 0 s).1, s.drop ((readU 0 0 s).2.1 + (readU 0 0 s).1), 0) := by rw [textsL, if_neg (by omega), if_neg h2]

/-- A pair, with the key ahead: the pair, what is left, the error. -/
def pairL (s key : List UInt8) (first : Bool) : PairL × List UInt8 × Nat :=
  if (readU 0 0 s).2.2 ≠ 0 then (([], []), [], (readU 0 0 s).2.2)
  else if key.length < (readU 0 0 s).1 then (([], []), [], 4)
  else if (textsL (s.drop (readU 0 0 s).2.1)).2.2 ≠ 0 then (([], []), [], (textsL (s.drop (readU 0 0 s).2.1)).2.2)
  else if (first = false ∧ kle (key.take (readU 0 0 s).1 ++ (textsL (s.drop (readU 0 0 s).2.1)).1) key = true) ∨ cpl key (key.take (readU 0 0 s).1 ++ (textsL (s.drop (readU 0 0 s).2.1)).1) ≠ (readU 0 0 s).1 then (([], []), [], 4)
  else if (textsL (textsL (s.drop (readU 0 0 s).2.1)).2.1).2.2 ≠ 0 then (([], []), [], (textsL (textsL (s.drop (readU 0 0 s).2.1)).2.1).2.2)
  else ((key.take (readU 0 0 s).1 ++ (textsL (s.drop (readU 0 0 s).2.1)).1, (textsL (textsL (s.drop (readU 0 0 s).2.1)).2.1).1), (textsL (textsL (s.drop (readU 0 0 s).2.1)).2.1).2.1, 0)

theorem pairL_err1 {s key : List UInt8} {f : Bool} (h : (readU 0 0 s).2.2 ≠ 0) : pairL s key f = (([], []), [], (readU 0 0 s).2.2) := by rw [pairL, if_pos h]
theorem pairL_err2 {s key : List UInt8} {f : Bool} (h : (readU 0 0 s).2.2 = 0) (h2 : key.length < (readU 0 0 s).1) : pairL s key f = (([], []), [], 4) := by rw [pairL, if_neg (by omega), if_pos h2]
theorem pairL_err3 {s key : List UInt8} {f : Bool} (h : (readU 0 0 s).2.2 = 0) (h2 : ¬ key.length < (readU 0 0 s).1) (h3 : (textsL (s.drop (readU 0 0 s).2.1)).2.2 ≠ 0) : pairL s key f = (([], []), [], (textsL (s.drop (readU 0 0 s).2.1)).2.2) := by rw [pairL, if_neg (by omega), if_neg h2, if_pos h3]
theorem pairL_err4 {s key : List UInt8} {f : Bool} (h : (readU 0 0 s).2.2 = 0) (h2 : ¬ key.length < (readU 0 0 s).1) (h3 : (textsL (s.drop (readU 0 0 s).2.1)).2.2 = 0) (h4 : (f = false ∧ kle (key.take (readU 0 0 s).1 ++ (textsL (s.drop (readU 0 0 s).2.1)).1) key = true) ∨ cpl key (key.take (readU 0 0 s).1 ++ (textsL (s.drop (readU 0 0 s).2.1)).1) ≠ (readU 0 0 s).1) : pairL s key f = (([], []), [], 4) := by rw [pairL, if_neg (by omega), if_neg h2, if_neg (by omega), if_pos h4]
theorem pairL_err5 {s key : List UInt8} {f : Bool} (h : (readU 0 0 s).2.2 = 0) (h2 : ¬ key.length < (readU 0 0 s).1) (h3 : (textsL (s.drop (readU 0 0 s).2.1)).2.2 = 0) (h4 : ¬ ((f = false ∧ kle (key.take (readU 0 0 s).1 ++ (textsL (s.drop (readU 0 0 s).2.1)).1) key = true) ∨ cpl key (key.take (readU 0 0 s).1 ++ (textsL (s.drop (readU 0 0 s).2.1)).1) ≠ (readU 0 0 s).1)) (h5 : (textsL (textsL (s.drop (readU 0 0 s).2.1)).2.1).2.2 ≠ 0) : pairL s key f = (([], []), [], (textsL (textsL (s.drop (readU 0 0 s).2.1)).2.1).2.2) := by rw [pairL, if_neg (by omega), if_neg h2, if_neg (by omega), if_neg h4, if_pos h5]
theorem pairL_fine {s key : List UInt8} {f : Bool} (h : (readU 0 0 s).2.2 = 0) (h2 : ¬ key.length < (readU 0 0 s).1) (h3 : (textsL (s.drop (readU 0 0 s).2.1)).2.2 = 0) (h4 : ¬ ((f = false ∧ kle (key.take (readU 0 0 s).1 ++ (textsL (s.drop (readU 0 0 s).2.1)).1) key = true) ∨ cpl key (key.take (readU 0 0 s).1 ++ (textsL (s.drop (readU 0 0 s).2.1)).1) ≠ (readU 0 0 s).1)) (h5 : (textsL (textsL (s.drop (readU 0 0 s).2.1)).2.1).2.2 = 0) : pairL s key f = ((key.take (readU 0 0 s).1 ++ (textsL (s.drop (readU 0 0 s).2.1)).1, (textsL (textsL (s.drop (readU 0 0 s).2.1)).2.1).1), (textsL (textsL (s.drop (readU 0 0 s).2.1)).2.1).2.1, 0) := by rw [pairL, if_neg (by omega), if_neg h2, if_neg (by omega), if_neg h4, if_neg (by omega)]
theorem textsL_len (s : List UInt8) : (textsL s).1.length ≤ s.length ∧ (textsL s).2.1.length ≤ s.length := by
  unfold textsL
  split
  · simp
  · split
    · simp
    · simp; omega

/-- The pairs that follow, so many more at most; or the error. -/
def unpackGo : Nat → Nat → List UInt8 → List UInt8 → Nat → List PairL → List PairL × Nat
  | 0, _, s, _, _, acc => if s = [] then (acc, 0) else ([], 3)
  | d + 1, i, s, key, size, acc =>
    if (pairL s key (i == 0)).2.2 ≠ 0 then ([], (pairL s key (i == 0)).2.2)
    else if 268435456 < size + ((pairL s key (i == 0)).1.1.length + (pairL s key (i == 0)).1.2.length) then ([], 5)
    else unpackGo d (i + 1) (pairL s key (i == 0)).2.1 (pairL s key (i == 0)).1.1 (size + ((pairL s key (i == 0)).1.1.length + (pairL s key (i == 0)).1.2.length)) (acc ++ [(pairL s key (i == 0)).1])
def unpackBody (b : List UInt8) : List PairL × Nat :=
  if (readU 0 0 b).2.2 ≠ 0 then ([], (readU 0 0 b).2.2) else unpackGo (readU 0 0 b).1 0 (b.drop (readU 0 0 b).2.1) [] 0 []
/-- What Unpack answers. -/
def unpackL (s : List UInt8) : List PairL × Nat :=
  if s.length < 5 then ([], 2)
  else if s.drop (s.length - 4) ≠ crcTail (s.take (s.length - 4)) then ([], 7)
  else unpackBody (s.take (s.length - 4))

theorem unpackGo_end {i size : Nat} {s key : List UInt8} {acc : List PairL} (h : s = []) : unpackGo 0 i s key size acc = (acc, 0) := by rw [unpackGo, if_pos h]
theorem unpackGo_long {i size : Nat} {s key : List UInt8} {acc : List PairL} (h : s ≠ []) : unpackGo 0 i s key size acc = ([], 3) := by rw [unpackGo, if_neg h]
theorem unpackGo_err {d i size : Nat} {s key : List UInt8} {acc : List PairL} (h : (pairL s key (i == 0)).2.2 ≠ 0) : unpackGo (d + 1) i s key size acc = ([], (pairL s key (i == 0)).2.2) := by rw [unpackGo, if_pos h]
theorem unpackGo_many {d i size : Nat} {s key : List UInt8} {acc : List PairL} (h : (pairL s key (i == 0)).2.2 = 0) (h2 : 268435456 < size + ((pairL s key (i == 0)).1.1.length + (pairL s key (i == 0)).1.2.length)) : unpackGo (d + 1) i s key size acc = ([], 5) := by rw [unpackGo, if_neg (by omega), if_pos h2]
theorem unpackGo_more {d i size : Nat} {s key : List UInt8} {acc : List PairL} (h : (pairL s key (i == 0)).2.2 = 0) (h2 : ¬ 268435456 < size + ((pairL s key (i == 0)).1.1.length + (pairL s key (i == 0)).1.2.length)) : unpackGo (d + 1) i s key size acc = unpackGo d (i + 1) (pairL s key (i == 0)).2.1 (pairL s key (i == 0)).1.1 (size + ((pairL s key (i == 0)).1.1.length + (pairL s key (i == 0)).1.2.length)) (acc ++ [(pairL s key (i == 0)).1]) := by rw [unpackGo, if_neg (by omega), if_neg h2]

theorem kle_nil (b : List UInt8) : kle [] b = true := by
  cases b <;> simp [kle, Op.bytesLess]
/-- What a pair that is taken tells: less is left; behind the first the key is not empty. -/
theorem pairL_ok {s key : List UInt8} {f : Bool} (h : (pairL s key f).2.2 = 0) : (pairL s key f).2.1.length < s.length ∧ (f = false → 0 < (pairL s key f).1.1.length) ∧ (pairL s key f).1.1.length ≤ key.length + s.length ∧ (pairL s key f).1.2.length ≤ s.length := by
  by_cases h0 : (readU 0 0 s).2.2 = 0
  · by_cases h2 : key.length < (readU 0 0 s).1
    · rw [pairL_err2 h0 h2] at h; cases h
    · by_cases h3 : (textsL (s.drop (readU 0 0 s).2.1)).2.2 = 0
      · by_cases h4 : (f = false ∧ kle (key.take (readU 0 0 s).1 ++ (textsL (s.drop (readU 0 0 s).2.1)).1) key = true) ∨ cpl key (key.take (readU 0 0 s).1 ++ (textsL (s.drop (readU 0 0 s).2.1)).1) ≠ (readU 0 0 s).1
        · rw [pairL_err4 h0 h2 h3 h4] at h; cases h
        · by_cases h5 : (textsL (textsL (s.drop (readU 0 0 s).2.1)).2.1).2.2 = 0
          · rw [pairL_fine h0 h2 h3 h4 h5]
            obtain ⟨q1, q2, _, _⟩ := readU_ok h0
            have l1 := textsL_len (s.drop (readU 0 0 s).2.1)
            have l2 := textsL_len (textsL (s.drop (readU 0 0 s).2.1)).2.1
            rw [List.length_drop] at l1
            refine ⟨by show (textsL (textsL (s.drop (readU 0 0 s).2.1)).2.1).2.1.length < _; omega, ?_, ?_, by show (textsL (textsL (s.drop (readU 0 0 s).2.1)).2.1).1.length ≤ _; omega⟩
            · intro hf
              show 0 < (key.take (readU 0 0 s).1 ++ (textsL (s.drop (readU 0 0 s).2.1)).1).length
              rcases Nat.eq_zero_or_pos (key.take (readU 0 0 s).1 ++ (textsL (s.drop (readU 0 0 s).2.1)).1).length with e | e
              · exact absurd (Or.inl ⟨hf, by rw [List.length_eq_zero_iff.1 e]; exact kle_nil key⟩) h4
              · exact e
            · show (key.take (readU 0 0 s).1 ++ (textsL (s.drop (readU 0 0 s).2.1)).1).length ≤ _
              rw [List.length_append, List.length_take]; omega
          · rw [pairL_err5 h0 h2 h3 h4 h5] at h; exact absurd h h5
      · rw [pairL_err3 h0 h2 h3] at h; exact absurd h h3
  · rw [pairL_err1 h0] at h; exact absurd h h0
def cellsP (l : List PairL) : List Value := l.flatMap fun p => [strV p.1, strV p.2]
theorem cellsP_snoc (l : List PairL) (p : PairL) : cellsP (l ++ [p]) = cellsP l ++ [strV p.1, strV p.2] := by simp [cellsP]
end Go.Proofs.YtfgpigblnkanpaaGreatDoor

namespace Go.Proofs.YtfgpigblnkanpaaGreatDoor
open Go.RowKit

theorem readU_form (l : List UInt8) : ∀ w acc : Nat, acc < 128 ^ w → w ≤ 9 → (readU w acc l).2.2 = 0 → (w = 0 ∨ l.head? ≠ some 0) →
    ∃ m, (readU w acc l).1 = acc + m * 128 ^ w ∧ uintL m = l.take ((readU w acc l).2.1 - w) ∧ w < (readU w acc l).2.1 := by
  induction l with
  | nil => intro w acc _ _ h; simp [readU] at h
  | cons b l ih =>
    intro w acc ha hw h hz
    by_cases h1 : w = 9 ∧ 1 < b.toNat ∨ 0 < w ∧ b.toNat = 0
    · rw [readU_bad h1] at h; simp at h
    · by_cases h2 : b.toNat < 128
      · rw [readU_end h1 h2]
        refine ⟨b.toNat, rfl, ?_, by simp⟩
        rw [uintL_lt h2]
        simp
      · rw [readU_more h1 h2] at h ⊢
        have hw9 : w ≠ 9 := by
          intro e; have := b.toNat_lt; omega
        have hl : w + 1 = 0 ∨ l.head? ≠ some 0 := by
          right
          intro e
          cases l with
          | nil => simp at e
          | cons c l =>
            simp at e
            subst e
            rw [readU_bad (Or.inr ⟨by omega, rfl⟩)] at h
            simp at h
        obtain ⟨m, e1, e2, e3⟩ := ih (w + 1) _ (acc_more ha) (by omega) h hl
        have hm : 0 < m := by
          rcases Nat.eq_zero_or_pos m with h0 | h0
          · subst h0
            have hu : uintL 0 = [0] := uintL_lt (by decide)
            rw [hu] at e2
            rcases hl with hl | hl
            · omega
            · cases l with
              | nil => simp at e2
              | cons c l =>
                have h4 : (readU (w + 1) (acc + b.toNat % 128 * 128 ^ w) (c :: l)).2.1 - (w + 1) = ((readU (w + 1) (acc + b.toNat % 128 * 128 ^ w) (c :: l)).2.1 - (w + 1) - 1) + 1 := by omega
                rw [h4, List.take_succ_cons] at e2
                simp only [List.cons.injEq] at e2
                exact absurd (congrArg some e2.1.symm) hl
          · exact h0
        refine ⟨b.toNat % 128 + m * 128, ?_, ?_, by omega⟩
        · rw [e1, Nat.pow_succ, Nat.add_mul, Nat.add_assoc, Nat.mul_assoc, Nat.mul_comm 128 (128 ^ w)]
        · have hb := b.toNat_lt
          rw [uintL_ge (by omega)]
          have q1 : (b.toNat % 128 + m * 128) / 128 = m := by omega
          have q2 : (b.toNat % 128 + m * 128) % 128 + 128 = b.toNat := by omega
          rw [q1, q2, e2]
          have h4 : (readU (w + 1) (acc + b.toNat % 128 * 128 ^ w) l).2.1 - w = ((readU (w + 1) (acc + b.toNat % 128 * 128 ^ w) l).2.1 - (w + 1)) + 1 := by omega
          rw [h4, List.take_succ_cons]
          simp
theorem readU_one {l : List UInt8} (h : (readU 0 0 l).2.2 = 0) : uintL (readU 0 0 l).1 = l.take (readU 0 0 l).2.1 := by
  obtain ⟨m, e1, e2, _⟩ := readU_form l 0 0 (by decide) (by omega) h (Or.inl rfl)
  have : (readU 0 0 l).1 = m := by rw [e1]; simp
  rw [this, e2]; rfl

theorem readU_back (n : Nat) : ∀ (w acc : Nat) (r : List UInt8), acc < 128 ^ w → w ≤ 9 → n * 128 ^ w < 18446744073709551616 → (w = 0 ∨ 0 < n) → readU w acc (uintL n ++ r) = (acc + n * 128 ^ w, w + (uintL n).length, 0) := by
  induction n using Nat.strongRecOn with
  | ind n ih =>
    intro w acc r ha hw hn hz
    have h9 : w = 9 → n ≤ 1 := by
      intro e; subst e
      rcases Nat.lt_or_ge 1 n with h | h
      · have : 2 * 128 ^ 9 ≤ n * 128 ^ 9 := Nat.mul_le_mul_right _ h
        omega
      · exact h
    by_cases h : n < 128
    · rw [uintL_lt h]
      have e : n.toUInt8.toNat = n := toUInt8_toNat_lt (by omega)
      have h1 : ¬ (w = 9 ∧ 1 < n.toUInt8.toNat ∨ 0 < w ∧ n.toUInt8.toNat = 0) := by rw [e]; omega
      rw [List.cons_append, readU_end h1 (by rw [e]; exact h), e]
      rfl
    · rw [uintL_ge h]
      have e : (n % 128 + 128).toUInt8.toNat = n % 128 + 128 := toUInt8_toNat_lt (by omega)
      have hw9 : w ≠ 9 := by intro e; have := h9 e; omega
      have h1 : ¬ (w = 9 ∧ 1 < (n % 128 + 128).toUInt8.toNat ∨ 0 < w ∧ (n % 128 + 128).toUInt8.toNat = 0) := by rw [e]; omega
      rw [List.cons_append, readU_more h1 (by rw [e]; omega), e]
      have q : (n % 128 + 128) % 128 = n % 128 := by omega
      have q2 : n / 128 * 128 ^ (w + 1) + n % 128 * 128 ^ w = n * 128 ^ w := by
        rw [Nat.pow_succ, Nat.mul_comm (128 ^ w), ← Nat.mul_assoc, ← Nat.add_mul]
        congr 1
        omega
      have hq : acc + n % 128 * 128 ^ w < 128 ^ (w + 1) := acc_more ha
      rw [q, ih (n / 128) (by omega) (w + 1) _ r hq (by omega) (by omega) (by omega)]
      simp only [List.length_cons]
      refine Prod.ext ?_ (Prod.ext ?_ rfl)
      · simp only; omega
      · simp only; omega
theorem readU_uintL {n : Nat} (h : n < 18446744073709551616) (r : List UInt8) : readU 0 0 (uintL n ++ r) = (n, (uintL n).length, 0) := by
  rw [readU_back n 0 0 r (by decide) (by omega) (by simpa using h) (Or.inl rfl)]
  simp
end Go.Proofs.YtfgpigblnkanpaaGreatDoor

namespace Go.Proofs.YtfgpigblnkanpaaGreatDoor
open Go.RowKit

theorem readU_short (n : Nat) : ∀ (w acc i : Nat), w ≤ 9 → n * 128 ^ w < 18446744073709551616 → (w = 0 ∨ 0 < n) → i < (uintL n).length → readU w acc ((uintL n).take i) = (0, 0, 2) := by
  induction n using Nat.strongRecOn with
  | ind n ih =>
    intro w acc i hw hn hz hi
    cases i with
    | zero => rfl
    | succ i =>
      by_cases h : n < 128
      · rw [uintL_lt h] at hi; simp at hi
      · rw [uintL_ge h] at hi ⊢
        have e : (n % 128 + 128).toUInt8.toNat = n % 128 + 128 := toUInt8_toNat_lt (by omega)
        have h9 : w ≠ 9 := by
          intro e9; subst e9
          have : 2 * 128 ^ 9 ≤ n * 128 ^ 9 := Nat.mul_le_mul_right _ (by omega)
          omega
        have h1 : ¬ (w = 9 ∧ 1 < (n % 128 + 128).toUInt8.toNat ∨ 0 < w ∧ (n % 128 + 128).toUInt8.toNat = 0) := by rw [e]; omega
        have q : n / 128 * 128 ^ (w + 1) ≤ n * 128 ^ w := by
          rw [Nat.pow_succ, Nat.mul_comm (128 ^ w), ← Nat.mul_assoc]
          exact Nat.mul_le_mul_right _ (by omega)
        rw [List.take_succ_cons, readU_more h1 (by rw [e]; omega)]
        exact ih (n / 128) (by omega) (w + 1) _ i (by omega) (by omega) (by omega) (by simpa using hi)
theorem readU_cut {n i : Nat} (h : n < 18446744073709551616) (hi : i < (uintL n).length) : readU 0 0 ((uintL n).take i) = (0, 0, 2) := readU_short n 0 0 i (by omega) (by simpa using h) (Or.inl rfl) hi
theorem uintL_mark (n : Nat) : ∀ i b, (uintL n)[i]? = some b → (128 ≤ b.toNat ↔ i + 1 < (uintL n).length) := by
  induction n using Nat.strongRecOn with
  | ind n ih =>
    intro i b hb
    by_cases h : n < 128
    · rw [uintL_lt h] at hb ⊢
      cases i with
      | zero =>
        simp at hb
        subst hb
        have e : (UInt8.ofNat n).toNat = n := toUInt8_toNat_lt (n := n) (by omega)
        simp; omega
      | succ i => simp at hb
    · rw [uintL_ge h] at hb ⊢
      have hp := uintL_pos (n / 128)
      cases i with
      | zero =>
        have e : (n % 128 + 128).toUInt8.toNat = n % 128 + 128 := toUInt8_toNat_lt (by omega)
        have hb' : (n % 128 + 128).toUInt8 = b := by simpa using hb
        rw [← hb', e, List.length_cons]
        omega
      | succ i =>
        have := ih (n / 128) (by omega) i b (by simpa using hb)
        rw [this, List.length_cons]
        omega
end Go.Proofs.YtfgpigblnkanpaaGreatDoor

namespace Go.Proofs.YtfgpigblnkanpaaGreatDoor

/-- A record's frame. -/
def jframe (r : List UInt8) : List UInt8 := uintL (r.length + 1) ++ (crcTail (uintL (r.length + 1) ++ r) ++ r)
/-- The record whose frame stands at the beginning of bytes, and the frame's length. -/
def jnext (t : List UInt8) : Option (List UInt8 × Nat) :=
  if (readU 0 0 t).2.2 ≠ 0 ∨ (readU 0 0 t).1 = 0 ∨ 16777216 < (readU 0 0 t).1 - 1 then none
  else if t.length < (readU 0 0 t).2.1 + 4 + ((readU 0 0 t).1 - 1) ∨ jframe ((t.take ((readU 0 0 t).2.1 + 4 + ((readU 0 0 t).1 - 1))).drop ((readU 0 0 t).2.1 + 4)) ≠ t.take ((readU 0 0 t).2.1 + 4 + ((readU 0 0 t).1 - 1)) then none
  else some ((t.take ((readU 0 0 t).2.1 + 4 + ((readU 0 0 t).1 - 1))).drop ((readU 0 0 t).2.1 + 4), (readU 0 0 t).2.1 + 4 + ((readU 0 0 t).1 - 1))
def jbeg : Nat → List UInt8 → List (List UInt8) × Nat
  | 0, _ => ([], 0)
  | f + 1, t => match jnext t with
    | none => ([], 0)
    | some (r, m) => (r :: (jbeg f (t.drop m)).1, m + (jbeg f (t.drop m)).2)
/-- The records of the beginning of bytes, and how many bytes it has. -/
def jbegin (t : List UInt8) : List (List UInt8) × Nat := jbeg t.length t
def jframes (l : List (List UInt8)) : List UInt8 := (l.map jframe).flatten
theorem jframes_cons (r : List UInt8) (l : List (List UInt8)) : jframes (r :: l) = jframe r ++ jframes l := rfl
theorem jframes_append (l m : List (List UInt8)) : jframes (l ++ m) = jframes l ++ jframes m := by unfold jframes; simp
theorem crcTail_len (l : List UInt8) : (crcTail l).length = 4 := rfl
theorem jframe_len (r : List UInt8) : (jframe r).length = (uintL (r.length + 1)).length + 4 + r.length := by unfold jframe; simp [crcTail_len]; omega
theorem jnext_le {t r : List UInt8} {m : Nat} (h : jnext t = some (r, m)) : 4 ≤ m ∧ m ≤ t.length ∧ r.length ≤ 16777216 ∧ jframe r = t.take m := by
  unfold jnext at h
  split at h
  · cases h
  · rename_i h1
    split at h
    · cases h
    · rename_i h2
      simp only [Option.some.injEq, Prod.mk.injEq] at h
      obtain ⟨rfl, rfl⟩ := h
      refine ⟨by omega, by omega, ?_, ?_⟩
      · rw [List.length_drop, List.length_take]; omega
      · exact Classical.byContradiction fun hne => h2 (Or.inr hne)
theorem jbeg_more : ∀ (f : Nat) (t : List UInt8), t.length ≤ f → jbeg (f + 1) t = jbeg f t
  | 0, t, h => by
    cases t with
    | nil =>
      have : jnext ([] : List UInt8) = none := by unfold jnext; rw [if_pos (Or.inl (by rw [readU_nil]; simp))]
      rw [jbeg, jbeg, this]
    | cons a t => simp at h
  | f + 1, t, h => by
    rw [jbeg]
    conv => rhs; rw [jbeg]
    cases e : jnext t with
    | none => rfl
    | some x =>
      obtain ⟨r, m⟩ := x
      have hm := jnext_le e
      simp only
      rw [jbeg_more f (t.drop m) (by rw [List.length_drop]; omega)]
theorem jbeg_fuel (t : List UInt8) : ∀ k, jbeg (t.length + k) t = jbegin t
  | 0 => rfl
  | k + 1 => (jbeg_more (t.length + k) t (by omega)).trans (jbeg_fuel t k)
theorem jbegin_none {t : List UInt8} (h : jnext t = none) : jbegin t = ([], 0) := by
  rw [← jbeg_fuel t 1, jbeg, h]
theorem jbegin_some {t r : List UInt8} {m : Nat} (h : jnext t = some (r, m)) : jbegin t = (r :: (jbegin (t.drop m)).1, m + (jbegin (t.drop m)).2) := by
  have hm := jnext_le h
  have e : t.length = (t.drop m).length + m := by rw [List.length_drop]; omega
  rw [← jbeg_fuel t 1, jbeg, h]
  simp only
  rw [e, jbeg_fuel (t.drop m) m]
theorem jnext_frame {r : List UInt8} (hr : r.length ≤ 16777216) (x : List UInt8) : jnext (jframe r ++ x) = some (r, (jframe r).length) := by
  have e : readU 0 0 (jframe r ++ x) = (r.length + 1, (uintL (r.length + 1)).length, 0) := by
    unfold jframe
    rw [List.append_assoc]
    exact readU_uintL (by omega) _
  have hl := jframe_len r
  have ht : (jframe r ++ x).take ((uintL (r.length + 1)).length + 4 + (r.length + 1 - 1)) = jframe r := List.take_left' (by omega)
  have hd : (jframe r).drop ((uintL (r.length + 1)).length + 4) = r := by
    unfold jframe
    rw [← List.append_assoc]
    exact List.drop_left' (by simp [crcTail_len])
  unfold jnext
  simp only [e]
  rw [if_neg (by omega), ht, hd, if_neg (by simp; omega)]
  simp only [Option.some.injEq, Prod.mk.injEq, true_and]
  omega
theorem jbegin_frames : ∀ (l : List (List UInt8)) (x : List UInt8), (∀ r ∈ l, r.length ≤ 16777216) → jbegin (jframes l ++ x) = (l ++ (jbegin x).1, (jframes l).length + (jbegin x).2)
  | [], x, _ => by simp [jframes]
  | r :: l, x, h => by
    rw [jframes_cons, List.append_assoc, jbegin_some (jnext_frame (h r List.mem_cons_self) _), List.drop_left, jbegin_frames l x fun y hy => h y (List.mem_cons_of_mem _ hy)]
    simp
    omega
theorem jbegin_nil : jbegin [] = ([], 0) := rfl
theorem jbegin_all {l : List (List UInt8)} (h : ∀ r ∈ l, r.length ≤ 16777216) : jbegin (jframes l) = (l, (jframes l).length) := by
  have := jbegin_frames l [] h
  rw [List.append_nil, jbegin_nil] at this
  simpa using this
/-- A frame that is cut is none. -/
theorem jnext_cut {r : List UInt8} (hr : r.length ≤ 16777216) {i : Nat} (hi : i < (jframe r).length) : jnext ((jframe r).take i) = none := by
  have hl := jframe_len r
  by_cases h : i < (uintL (r.length + 1)).length
  · have e : readU 0 0 ((jframe r).take i) = (0, 0, 2) := by
      unfold jframe
      rw [List.take_append_of_le_length (by omega)]
      exact readU_cut (by omega) h
    unfold jnext
    rw [if_pos (Or.inl (by rw [e]; simp))]
  · have e : readU 0 0 ((jframe r).take i) = (r.length + 1, (uintL (r.length + 1)).length, 0) := by
      unfold jframe
      rw [List.take_append, List.take_of_length_le (by omega)]
      exact readU_uintL (by omega) _
    unfold jnext
    simp only [e]
    rw [if_neg (by omega), if_pos (Or.inl (by rw [List.length_take]; omega))]
/-- Bytes 0 are no frame. -/
theorem jnext_zero (t : List UInt8) : jnext (0 :: t) = none := by
  have e : readU 0 0 (0 :: t) = (0, 1, 0) := by
    rw [readU_end (by simp) (by decide)]
    rfl
  unfold jnext
  rw [if_pos (Or.inr (Or.inl (by rw [e])))]
end Go.Proofs.YtfgpigblnkanpaaGreatDoor
