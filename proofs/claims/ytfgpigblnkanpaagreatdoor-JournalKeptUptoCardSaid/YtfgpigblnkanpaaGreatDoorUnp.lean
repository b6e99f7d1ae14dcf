/- What Unpack takes, without the program. No conditions. -/
import Derived.Test.YtfgpigblnkanpaaGreatDoorGC
namespace Go.Proofs.YtfgpigblnkanpaaGreatDoor
open Go.RowKit

/-- A text, ahead of which its length stands: the text, what is left, the error. -/
def textsL (s : List UInt8) : List UInt8 × List UInt8 × Nat :=
  if (readU 0 0 s).2.2 ≠ 0 then ([], [], (readU 0 0 s).2.2)
  else if s.length - (readU 0 0 s).2.1 < (readU 0 0 s).1 then ([], [], 2)
  else ((s.drop (readU 0 0 s).2.1).take (readU 0 0 s).1, s.drop ((readU 0 0 s).2.1 + (readU 0 0 s).1), 0)

theorem readU_fine (l : List UInt8) : ∀ w acc : Nat, acc < 128 ^ w → w ≤ 9 → (readU w acc l).2.2 = 0 → w < (readU w acc l).2.1 ∧ (readU w acc l).2.1 ≤ w + l.length ∧ (readU w acc l).2.1 ≤ 10 ∧ (readU w acc l).1 < 18446744073709551616 := by
  induction l with
  | nil => intro w acc _ _ h; simp [readU] at h
  | cons b l ih =>
    intro w acc ha hw h
    by_cases h1 : w = 9 ∧ 1 < b.toNat ∨ 0 < w ∧ b.toNat = 0
    · rw [readU_bad h1] at h; simp at h
    · by_cases h2 : b.toNat < 128
      · rw [readU_end h1 h2]
        have hf := fits9 hw h2 (fun e => by omega)
        have h9 : 128 ^ w ≤ 128 ^ 9 := Nat.pow_le_pow_right (by omega) hw
        refine ⟨by simp, by simp, by simp; omega, ?_⟩
        show acc + b.toNat * 128 ^ w < _
        by_cases e9 : w = 9
        · subst e9; have : b.toNat ≤ 1 := by omega
          have : b.toNat * 128 ^ 9 ≤ 1 * 128 ^ 9 := Nat.mul_le_mul_right _ this
          omega
        · have h8 : 128 ^ w ≤ 128 ^ 8 := Nat.pow_le_pow_right (by omega) (by omega)
          have : b.toNat * 128 ^ w ≤ 128 * 128 ^ 8 := Nat.mul_le_mul (by omega) h8
          omega
      · rw [readU_more h1 h2] at h ⊢
        have hw9 : w ≠ 9 := by
          intro e; have := b.toNat_lt; omega
        obtain ⟨q1, q2, q3, q4⟩ := ih (w + 1) _ (acc_more ha) (by omega) h
        simp only [List.length_cons]
        exact ⟨by omega, by omega, q3, q4⟩
theorem readU_ok {l : List UInt8} (h : (readU 0 0 l).2.2 = 0) : 0 < (readU 0 0 l).2.1 ∧ (readU 0 0 l).2.1 ≤ l.length ∧ (readU 0 0 l).2.1 ≤ 10 ∧ (readU 0 0 l).1 < 18446744073709551616 := by
  have := readU_fine l 0 0 (by decide) (by omega) h
  simpa using this
theorem readU_bad0 (l : List UInt8) : ∀ w acc : Nat, (readU w acc l).2.2 ≠ 0 → (readU w acc l).1 = 0 ∧ (readU w acc l).2.1 = 0 ∧ ((readU w acc l).2.2 = 2 ∨ (readU w acc l).2.2 = 4) := by
  induction l with
  | nil => intro w acc _; simp [readU]
  | cons b l ih =>
    intro w acc h
    by_cases h1 : w = 9 ∧ 1 < b.toNat ∨ 0 < w ∧ b.toNat = 0
    · rw [readU_bad h1]; simp
    · by_cases h2 : b.toNat < 128
      · rw [readU_end h1 h2] at h; simp at h
      · rw [readU_more h1 h2] at h ⊢; exact ih _ _ h

theorem textsL_err {s : List UInt8} (h : (readU 0 0 s).2.2 ≠ 0) : textsL s = ([], [], (readU 0 0 s).2.2) := by rw [textsL, if_pos h]
theorem textsL_short {s : List UInt8} (h : (readU 0 0 s).2.2 = 0) (h2 : s.length - (readU 0 0 s).2.1 < (readU 0 0 s).1) : textsL s = ([], [], 2) := by rw [textsL, if_neg (by omega), if_pos h2]
theorem textsL_ok {s : List UInt8} (h : (readU 0 0 s).2.2 = 0) (h2 : ¬ s.length - (readU 0 0 s).2.1 < (readU 0 0 s).1) : textsL s = ((s.drop (readU 0 0 s).2.1).take (readU 0 0 s).1, s.drop ((readU 0 0 s).2.1 + (readU 0 0 s).1), 0) := by rw [textsL, if_neg (by omega), if_neg h2]

/-- A pair, with the key ahead: the pair, what is left, the error. -/
def pairL (s key : List UInt8) (first : Bool) : PairL × List UInt8 × Nat :=
  if (readU 0 0 s).2.2 ≠ 0 then (([], []), [], (readU 0 0 s).2.2)
  else if key.length < (readU 0 0 s).1 then (([], []), [], 4)
  else if (textsL (s.drop (readU 0 0 s).2.1)).2.2 ≠ 0 then (([], []), [], (textsL (s.drop (readU 0 0 s).2.1)).2.2)
  else if (first = false ∧ kle (key.take (readU 0 0 s).1 ++ (textsL (s.drop (readU 0 0 s).2.1)).1) key = true) ∨ cpl key (key.take (readU 0 0 s).1 ++ (textsL (s.drop (readU 0 0 s).2.1)).1) ≠ (readU 0 0 s).1 then (([], []), [], 4)
  else if (textsL (textsL (s.drop (readU 0 0 s).2.1)).2.1).2.2 ≠ 0 then (([], []), [], (textsL (textsL (s.drop (readU 0 0 s).2.1)).2.1).2.2)
  else ((key.take (readU 0 0 s).1 ++ (textsL (s.drop (readU 0 0 s).2.1)).1, (textsL (textsL (s.drop (readU 0 0 s).2.1)).2.1).1), (textsL (textsL (s.drop (readU 0 0 s).2.1)).2.1).2.1, 0)

theorem pairL_err1 {s key : List UInt8} {f : Bool} (h : (readU 0 0 s).2.2 ≠ 0) : pairL s key f = (([], []), [], (readU 0 0 s).2.2) := by rw [pairL, if_pos h]
theorem pairL_err2 {s key : List UInt8} {f : Bool} (h : (readU 0 0 s).2.2 = 0) (h2 : key.length < (readU 0 0 s).1) : pairL s key f = (([], []), [], 4) := by rw [pairL, if_neg (by omega), if_pos h2]
theorem pairL_err3 {s key : List UInt8} {f : Bool} (h : (readU 0 0 s).2.2 = 0) (h2 : ¬ key.length < (readU 0 0 s).1) (h3 : (textsL (s.drop (readU 0 0 s).2.1)).2.2 ≠ 0) : pairL s key f = (([], []), [], (textsL (s.drop (readU 0 0 s).2.1)).2.2) := by rw [pairL, if_neg (by omega), if_neg h2, if_pos h3]
theorem pairL_err4 {s key : List UInt8} {f : Bool} (h : (readU 0 0 s).2.2 = 0) (h2 : ¬ key.length < (readU 0 0 s).1) (h3 : (textsL (s.drop (readU 0 0 s).2.1)).2.2 = 0) (h4 : (f = false ∧ kle (key.take (readU 0 0 s).1 ++ (textsL (s.drop (readU 0 0 s).2.1)).1) key = true) ∨ cpl key (key.take (readU 0 0 s).1 ++ (textsL (s.drop (readU 0 0 s).2.1)).1) ≠ (readU 0 0 s).1) : pairL s key f = (([], []), [], 4) := by rw [pairL, if_neg (by omega), if_neg h2, if_neg (by omega), if_pos h4]
theorem pairL_err5 {s key : List UInt8} {f : Bool} (h : (readU 0 0 s).2.2 = 0) (h2 : ¬ key.length < (readU 0 0 s).1) (h3 : (textsL (s.drop (readU 0 0 s).2.1)).2.2 = 0) (h4 : ¬ ((f = false ∧ kle (key.take (readU 0 0 s).1 ++ (textsL (s.drop (readU 0 0 s).2.1)).1) key = true) ∨ cpl key (key.take (readU 0 0 s).1 ++ (textsL (s.drop (readU 0 0 s).2.1)).1) ≠ (readU 0 0 s).1)) (h5 : (textsL (textsL (s.drop (readU 0 0 s).2.1)).2.1).2.2 ≠ 0) : pairL s key f = (([], []), [], (textsL (textsL (s.drop (readU 0 0 s).2.1)).2.1).2.2) := by rw [pairL, if_neg (by omega), if_neg h2, if_neg (by omega), if_neg h4, if_pos h5]
theorem pairL_fine {s key : List UInt8} {f : Bool} (h : (readU 0 0 s).2.2 = 0) (h2 : ¬ key.length < (readU 0 0 s).1) (h3 : (textsL (s.drop (readU 0 0 s).2.1)).2.2 = 0) (h4 : ¬ ((f = false ∧ kle (key.take (readU 0 0 s).1 ++ (textsL (s.drop (readU 0 0 s).2.1)).1) key = true) ∨ cpl key (key.take (readU 0 0 s).1 ++ (textsL (s.drop (readU 0 0 s).2.1)).1) ≠ (readU 0 0 s).1)) (h5 : (textsL (textsL (s.drop (readU 0 0 s).2.1)).2.1).2.2 = 0) : pairL s key f = ((key.take (readU 0 0 s).1 ++ (textsL (s.drop (readU 0 0 s).2.1)).1, (textsL (textsL (s.drop (readU 0 0 s).2.1)).2.1).1), (textsL (textsL (s.drop (readU 0 0 s).2.1)).2.1).2.1, 0) := by rw [pairL, if_neg (by omega), if_neg h2, if_neg (by omega), if_neg h4, if_neg (by omega)]
theorem textsL_len (s : List UInt8) : (textsL s).1.length ≤ s.length ∧ (textsL s).2.1.length ≤ s.length := by
  unfold textsL
  split
  · simp
  · split
    · simp
    · simp; omega

/-- The pairs that follow, so many more at most; or the error. -/
def unpackGo : Nat → Nat → List UInt8 → List UInt8 → Nat → List PairL → List PairL × Nat
  | 0, _, s, _, _, acc => if s = [] then (acc, 0) else ([], 3)
  | d + 1, i, s, key, size, acc =>
    if (pairL s key (i == 0)).2.2 ≠ 0 then ([], (pairL s key (i == 0)).2.2)
    else if 268435456 < size + ((pairL s key (i == 0)).1.1.length + (pairL s key (i == 0)).1.2.length) then ([], 5)
    else unpackGo d (i + 1) (pairL s key (i == 0)).2.1 (pairL s key (i == 0)).1.1 (size + ((pairL s key (i == 0)).1.1.length + (pairL s key (i == 0)).1.2.length)) (acc ++ [(pairL s key (i == 0)).1])
def unpackBody (b : List UInt8) : List PairL × Nat :=
  if (readU 0 0 b).2.2 ≠ 0 then ([], (readU 0 0 b).2.2) else unpackGo (readU 0 0 b).1 0 (b.drop (readU 0 0 b).2.1) [] 0 []
/-- What Unpack answers. -/
def unpackL (s : List UInt8) : List PairL × Nat :=
  if s.length < 5 then ([], 2)
  else if s.drop (s.length - 4) ≠ crcTail (s.take (s.length - 4)) then ([], 7)
  else unpackBody (s.take (s.length - 4))

theorem unpackGo_end {i size : Nat} {s key : List UInt8} {acc : List PairL} (h : s = []) : unpackGo 0 i s key size acc = (acc, 0) := by rw [unpackGo, if_pos h]
theorem unpackGo_long {i size : Nat} {s key : List UInt8} {acc : List PairL} (h : s ≠ []) : unpackGo 0 i s key size acc = ([], 3) := by rw [unpackGo, if_neg h]
theorem unpackGo_err {d i size : Nat} {s key : List UInt8} {acc : List PairL} (h : (pairL s key (i == 0)).2.2 ≠ 0) : unpackGo (d + 1) i s key size acc = ([], (pairL s key (i == 0)).2.2) := by rw [unpackGo, if_pos h]
theorem unpackGo_many {d i size : Nat} {s key : List UInt8} {acc : List PairL} (h : (pairL s key (i == 0)).2.2 = 0) (h2 : 268435456 < size + ((pairL s key (i == 0)).1.1.length + (pairL s key (i == 0)).1.2.length)) : unpackGo (d + 1) i s key size acc = ([], 5) := by rw [unpackGo, if_neg (by omega), if_pos h2]
theorem unpackGo_more {d i size : Nat} {s key : List UInt8} {acc : List PairL} (h : (pairL s key (i == 0)).2.2 = 0) (h2 : ¬ 268435456 < size + ((pairL s key (i == 0)).1.1.length + (pairL s key (i == 0)).1.2.length)) : unpackGo (d + 1) i s key size acc = unpackGo d (i + 1) (pairL s key (i == 0)).2.1 (pairL s key (i == 0)).1.1 (size + ((pairL s key (i == 0)).1.1.length + (pairL s key (i == 0)).1.2.length)) (acc ++ [(pairL s key (i == 0)).1]) := by rw [unpackGo, if_neg (by omega), if_neg h2]

theorem kle_nil (b : List UInt8) : kle [] b = true := by
  cases b <;> simp [kle, Op.bytesLess]
/-- What a pair that is taken tells: less is left; behind the first the key is not empty. -/
theorem pairL_ok {s key : List UInt8} {f : Bool} (h : (pairL s key f).2.2 = 0) : (pairL s key f).2.1.length < s.length ∧ (f = false → 0 < (pairL s key f).1.1.length) ∧ (pairL s key f).1.1.length ≤ key.length + s.length ∧ (pairL s key f).1.2.length ≤ s.length := by
  by_cases h0 : (readU 0 0 s).2.2 = 0
  · by_cases h2 : key.length < (readU 0 0 s).1
    · rw [pairL_err2 h0 h2] at h; cases h
    · by_cases h3 : (textsL (s.drop (readU 0 0 s).2.1)).2.2 = 0
      · by_cases h4 : (f = false ∧ kle (key.take (readU 0 0 s).1 ++ (textsL (s.drop (readU 0 0 s).2.1)).1) key = true) ∨ cpl key (key.take (readU 0 0 s).1 ++ (textsL (s.drop (readU 0 0 s).2.1)).1) ≠ (readU 0 0 s).1
        · rw [pairL_err4 h0 h2 h3 h4] at h; cases h
        · by_cases h5 : (textsL (textsL (s.drop (readU 0 0 s).2.1)).2.1).2.2 = 0
          · rw [pairL_fine h0 h2 h3 h4 h5]
            obtain ⟨q1, q2, _, _⟩ := readU_ok h0
            have l1 := textsL_len (s.drop (readU 0 0 s).2.1)
            have l2 := textsL_len (textsL (s.drop (readU 0 0 s).2.1)).2.1
            rw [List.length_drop] at l1
            refine ⟨by show (textsL (textsL (s.drop (readU 0 0 s).2.1)).2.1).2.1.length < _; omega, ?_, ?_, by show (textsL (textsL (s.drop (readU 0 0 s).2.1)).2.1).1.length ≤ _; omega⟩
            · intro hf
              show 0 < (key.take (readU 0 0 s).1 ++ (textsL (s.drop (readU 0 0 s).2.1)).1).length
              rcases Nat.eq_zero_or_pos (key.take (readU 0 0 s).1 ++ (textsL (s.drop (readU 0 0 s).2.1)).1).length with e | e
              · exact absurd (Or.inl ⟨hf, by rw [List.length_eq_zero_iff.1 e]; exact kle_nil key⟩) h4
              · exact e
            · show (key.take (readU 0 0 s).1 ++ (textsL (s.drop (readU 0 0 s).2.1)).1).length ≤ _
              rw [List.length_append, List.length_take]; omega
          · rw [pairL_err5 h0 h2 h3 h4 h5] at h; exact absurd h h5
      · rw [pairL_err3 h0 h2 h3] at h; exact absurd h h3
  · rw [pairL_err1 h0] at h; exact absurd h h0
def cellsP (l : List PairL) : List Value := l.flatMap fun p => [strV p.1, strV p.2]
theorem cellsP_snoc (l : List PairL) (p : PairL) : cellsP (l ++ [p]) = cellsP l ++ [strV p.1, strV p.2] := by simp [cellsP]
end Go.Proofs.YtfgpigblnkanpaaGreatDoor
