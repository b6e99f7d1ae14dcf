/- A sum of 32 bits tells every turn of one byte; pairs whose keys rise are packed. Without the program. -/
import Derived.Test.YtifdibkpaeocfaaGreatDoorRound
import Derived.Test.YtifdibkpaeocfaaGreatDoorRev
namespace Go.Proofs.YtifdibkpaeocfaaGreatDoor
open Go.RowKit

theorem xor_cancelR {a b c : Nat} (h : a ^^^ c = b ^^^ c) : a = b := by
  have := congrArg (· ^^^ c) h
  simpa [Nat.xor_assoc] using this
theorem xor_cancelL {a b c : Nat} (h : c ^^^ a = c ^^^ b) : a = b := xor_cancelR (c := c) (by rw [Nat.xor_comm a, Nat.xor_comm b, h])
theorem crcBit_high {c : Nat} (h : c < 4294967296) : crcBit c / 2147483648 = c % 2 := by
  unfold crcBit
  by_cases hp : c % 2 = 1
  · rw [if_pos hp, hp]
    have e : (c / 2 ^^^ 2197175160) / 2 ^ 31 = c / 2 / 2 ^ 31 ^^^ 2197175160 / 2 ^ 31 := Nat.xor_div_two_pow
    have e2 : c / 2 / 2 ^ 31 = 0 := by omega
    rw [e2] at e
    exact e
  · rw [if_neg hp, Nat.xor_zero]; omega
theorem crcBit_inj {a b : Nat} (ha : a < 4294967296) (hb : b < 4294967296) (h : crcBit a = crcBit b) : a = b := by
  have p : a % 2 = b % 2 := by rw [← crcBit_high ha, ← crcBit_high hb, h]
  unfold crcBit at h
  rw [p] at h
  have h2 : a / 2 = b / 2 := xor_cancelR h
  omega
theorem crcN_inj (k : Nat) : ∀ {a b : Nat}, a < 4294967296 → b < 4294967296 → crcN k a = crcN k b → a = b := by
  induction k with
  | zero => intro a b _ _ h; exact h
  | succ k ih => intro a b ha hb h; exact crcBit_inj ha hb (ih (crcBit_lt ha) (crcBit_lt hb) h)
theorem xor_byte_lt {c : Nat} (b : UInt8) (h : c < 4294967296) : c ^^^ b.toNat < 4294967296 := Nat.xor_lt_two_pow (n := 32) h (by have := b.toNat_lt; omega)
theorem crcStep_inj {c d : Nat} {b : UInt8} (hc : c < 4294967296) (hd : d < 4294967296) (h : crcStep c b = crcStep d b) : c = d := by
  rw [crcStep_bits, crcStep_bits] at h
  exact xor_cancelR (crcN_inj 8 (xor_byte_lt b hc) (xor_byte_lt b hd) h)
theorem crcStep_tells {c : Nat} {a b : UInt8} (hc : c < 4294967296) (h : crcStep c a = crcStep c b) : a = b := by
  rw [crcStep_bits, crcStep_bits] at h
  exact UInt8.toNat_inj.1 (xor_cancelL (crcN_inj 8 (xor_byte_lt a hc) (xor_byte_lt b hc) h))
theorem crcFold_inj (l : List UInt8) : ∀ {c d : Nat}, c < 4294967296 → d < 4294967296 → crcFold c l = crcFold d l → c = d := by
  induction l with
  | nil => intro c d _ _ h; exact h
  | cons b l ih => intro c d hc hd h; exact crcStep_inj hc hd (ih (crcStep_lt b hc) (crcStep_lt b hd) h)
theorem crc_turn {l : List UInt8} {p : Nat} {x : UInt8} (hp : p < l.length) (hx : x ≠ l[p]) : crc (l.set p x) ≠ crc l := by
  intro h
  have h1 := crcFold_lt (c := 4294967295) (l.set p x) (by omega)
  have h2 := crcFold_lt (c := 4294967295) l (by omega)
  unfold crc at h
  have h3 : crcFold 4294967295 (l.set p x) = crcFold 4294967295 l := by omega
  have e1 : l = l.take p ++ l[p] :: l.drop (p + 1) := by rw [← List.drop_eq_getElem_cons hp, List.take_append_drop]
  have e2 : l.set p x = l.take p ++ x :: l.drop (p + 1) := by rw [List.set_eq_take_append_cons_drop, if_pos hp]
  rw [e2] at h3
  conv at h3 => rhs; rw [e1]
  simp only [crcFold, List.foldl_append, List.foldl_cons] at h3
  have hl := crcFold_lt (c := 4294967295) (l.take p) (by omega)
  exact hx (crcStep_tells hl (crcFold_inj (l.drop (p + 1)) (crcStep_lt x hl) (crcStep_lt _ hl) h3))
theorem crcTail_tells {l m : List UInt8} (h : crcTail l = crcTail m) : crc l = crc m := by
  have h1 := crc_lt l
  have h2 := crc_lt m
  simp only [crcTail, List.cons.injEq, and_true] at h
  obtain ⟨g0, g1, g2, g3⟩ := h
  have k : ∀ {a b : Nat}, a.toUInt8 = b.toUInt8 → a % 256 = b % 256 := by
    intro a b hh
    have := congrArg UInt8.toNat hh
    simpa only [Nat.toUInt8, UInt8.toNat_ofNat'] using this
  have := k g0
  have := k g1
  have := k g2
  have := k g3
  omega
theorem unpack_turned {out : List UInt8} {p : Nat} {x : UInt8} (ho : 1 ≤ out.length) (hp : p < (out ++ crcTail out).length) (hx : x ≠ (out ++ crcTail out)[p]) : unpackL ((out ++ crcTail out).set p x) = ([], 7) := by
  have hl : ((out ++ crcTail out).set p x).length = out.length + 4 := by simp [crcTail_len]
  rw [unpackL, if_neg (by omega), hl, Nat.add_sub_cancel]
  rcases Nat.lt_or_ge p out.length with h | h
  · have e : (out ++ crcTail out).set p x = out.set p x ++ crcTail out := List.set_append_left p x h
    have e1 : (out.set p x ++ crcTail out).take out.length = out.set p x := List.take_left' (by simp)
    have e2 : (out.set p x ++ crcTail out).drop out.length = crcTail out := List.drop_left' (by simp)
    rw [e, e1, e2, if_pos]
    intro hh
    rw [List.getElem_append_left h] at hx
    exact crc_turn h hx (crcTail_tells hh).symm
  · have e : (out ++ crcTail out).set p x = out ++ (crcTail out).set (p - out.length) x := List.set_append_right p x h
    rw [e, List.take_left, List.drop_left, if_pos]
    intro hh
    have hp4 : p - out.length < (crcTail out).length := by rw [List.length_append] at hp; omega
    rw [List.getElem_append_right h] at hx
    have := congrArg (fun l => l[p - out.length]?) hh
    simp only [List.getElem?_set_self hp4, List.getElem?_eq_getElem hp4, Option.some.injEq] at this
    exact hx this

theorem packGo_rises (l : List PairL) : ∀ i key acc, (∀ p, l[0]? = some p → 0 < i → kle p.1 key = false) → (∀ j p q, l[j]? = some p → l[j + 1]? = some q → kle q.1 p.1 = false) → ∃ out, packGo i key acc l = .inl out := by
  induction l with
  | nil => intro i key acc _ _; exact ⟨_, rfl⟩
  | cons p l ih =>
    intro i key acc h0 h
    have hk : ¬ (0 < i ∧ kle p.1 key = true) := by
      rintro ⟨hi, hh⟩
      have := h0 p rfl hi
      rw [hh] at this
      exact absurd this (by decide)
    rw [packGo_more rfl hk]
    exact ih _ _ _ (fun q hq _ => h 0 p q rfl hq) (fun j a b ha hb => h (j + 1) a b ha hb)
theorem packGo_outlen (l : List PairL) : ∀ {i : Nat} {key out : List UInt8}, sizeL l < 18446744073709551616 → packGo i key [] l = .inl out → out.length ≤ 30 * l.length + sizeL l := by
  induction l with
  | nil => intro i key out _ h; simp [packGo] at h; simp [h]
  | cons p l ih =>
    intro i key out hs h
    rw [sizeL] at hs ⊢
    obtain ⟨_, b, h1, rfl⟩ := packGo_rest h
    have := ih (by omega) h1
    have := pairBytes_len key p (by omega) (by omega)
    simp only [List.length_append, List.length_cons]
    omega
theorem packed_len {l : List PairL} {out : List UInt8} (hs : sizeL l < 18446744073709551616) (hn : l.length < 18446744073709551616) (h : packGo 0 [] (uintL l.length) l = .inl out) : 1 ≤ out.length ∧ out.length ≤ 10 + (30 * l.length + sizeL l) := by
  rw [packGo_acc] at h
  cases hb : packGo 0 [] [] l with
  | inr j => rw [hb] at h; simp at h
  | inl b =>
    rw [hb] at h
    simp only [Sum.inl.injEq] at h
    have h1 := packGo_outlen l hs hb
    have h2 := uintL_len hn
    have h3 := uintL_pos l.length
    rw [← h]
    simp only [List.length_append]
    omega
end Go.Proofs.YtifdibkpaeocfaaGreatDoor
