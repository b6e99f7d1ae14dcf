/- What is packed is unpacked as it was, and what is unpacked was packed so; without the program. -/
import Derived.Test.YtifdibkpaeocfaaGreatDoorForm
namespace Go.Proofs.YtifdibkpaeocfaaGreatDoor
open Go.RowKit

theorem textsL_form {s : List UInt8} (h : (textsL s).2.2 = 0) : s = uintL (textsL s).1.length ++ ((textsL s).1 ++ (textsL s).2.1) := by
  by_cases h0 : (readU 0 0 s).2.2 = 0
  · by_cases h2 : s.length - (readU 0 0 s).2.1 < (readU 0 0 s).1
    · rw [textsL, if_neg (by omega), if_pos h2] at h; simp at h
    · have hf := readU_one h0
      obtain ⟨q1, q2, _, _⟩ := readU_ok h0
      rw [textsL_ok h0 h2]
      simp only
      have hl : ((s.drop (readU 0 0 s).2.1).take (readU 0 0 s).1).length = (readU 0 0 s).1 := by simp; omega
      rw [hl, hf, ← List.drop_drop, List.take_append_drop, List.take_append_drop]
  · rw [textsL, if_pos h0] at h; exact absurd h h0
theorem textsL_back (t r : List UInt8) (h : t.length < 18446744073709551616) : textsL (uintL t.length ++ (t ++ r)) = (t, r, 0) := by
  have hr := readU_uintL h (t ++ r)
  have h0 : (readU 0 0 (uintL t.length ++ (t ++ r))).2.2 = 0 := by rw [hr]
  have h2 : ¬ (uintL t.length ++ (t ++ r)).length - (readU 0 0 (uintL t.length ++ (t ++ r))).2.1 < (readU 0 0 (uintL t.length ++ (t ++ r))).1 := by rw [hr]; simp only [List.length_append]; omega
  rw [textsL_ok h0 h2, hr]
  simp only
  rw [← List.drop_drop, List.drop_left, List.drop_left, List.take_left]

theorem pairL_form {s key : List UInt8} {f : Bool} (h : (pairL s key f).2.2 = 0) : s = pairBytes key (pairL s key f).1 ++ (pairL s key f).2.1 ∧ ¬ (f = false ∧ kle (pairL s key f).1.1 key = true) := by
  by_cases h0 : (readU 0 0 s).2.2 = 0
  · by_cases h2 : key.length < (readU 0 0 s).1
    · rw [pairL_err2 h0 h2] at h; simp at h
    · by_cases h3 : (textsL (s.drop (readU 0 0 s).2.1)).2.2 = 0
      · by_cases h4 : (f = false ∧ kle (key.take (readU 0 0 s).1 ++ (textsL (s.drop (readU 0 0 s).2.1)).1) key = true) ∨ cpl key (key.take (readU 0 0 s).1 ++ (textsL (s.drop (readU 0 0 s).2.1)).1) ≠ (readU 0 0 s).1
        · rw [pairL_err4 h0 h2 h3 h4] at h; simp at h
        · by_cases h5 : (textsL (textsL (s.drop (readU 0 0 s).2.1)).2.1).2.2 = 0
          · rw [pairL_fine h0 h2 h3 h4 h5]
            simp only
            refine ⟨?_, fun hh => h4 (Or.inl hh)⟩
            have hc : cpl key (key.take (readU 0 0 s).1 ++ (textsL (s.drop (readU 0 0 s).2.1)).1) = (readU 0 0 s).1 := by
              rcases Nat.decEq (cpl key (key.take (readU 0 0 s).1 ++ (textsL (s.drop (readU 0 0 s).2.1)).1)) (readU 0 0 s).1 with hn | hy
              · exact absurd (Or.inr hn) h4
              · exact hy
            have hl : (key.take (readU 0 0 s).1).length = (readU 0 0 s).1 := by simp; omega
            have hd : (key.take (readU 0 0 s).1 ++ (textsL (s.drop (readU 0 0 s).2.1)).1).drop (readU 0 0 s).1 = (textsL (s.drop (readU 0 0 s).2.1)).1 := List.drop_left' hl
            have hll : (key.take (readU 0 0 s).1 ++ (textsL (s.drop (readU 0 0 s).2.1)).1).length - (readU 0 0 s).1 = (textsL (s.drop (readU 0 0 s).2.1)).1.length := by simp only [List.length_append, hl]; omega
            have f1 := readU_one h0
            have f2 := textsL_form h3
            have f3 := textsL_form h5
            simp only [pairBytes]
            rw [hc, hll, hd, f1]
            simp only [List.append_assoc]
            rw [← f3, ← f2, List.take_append_drop]
          · rw [pairL_err5 h0 h2 h3 h4 h5] at h; exact absurd h h5
      · rw [pairL_err3 h0 h2 h3] at h; exact absurd h h3
  · rw [pairL_err1 h0] at h; exact absurd h h0

theorem cpl_take (l m : List UInt8) : l.take (cpl l m) = m.take (cpl l m) := by
  induction l generalizing m with
  | nil => simp [cpl]
  | cons a l ih =>
    cases m with
    | nil => simp [cpl]
    | cons b m =>
      unfold cpl
      by_cases h : a = b
      · subst h; simp [ih]
      · simp [h]
theorem pairL_back (key : List UInt8) (p : PairL) (r : List UInt8) (f : Bool) (hk : ¬ (f = false ∧ kle p.1 key = true)) (h1 : p.1.length < 18446744073709551616) (h2 : p.2.length < 18446744073709551616) : pairL (pairBytes key p ++ r) key f = (p, r, 0) := by
  obtain ⟨k, v⟩ := p
  simp only at hk h1 h2
  obtain ⟨hc1, hc2⟩ := cpl_le key k
  have hct := cpl_take key k
  have e : pairBytes key (k, v) ++ r = uintL (cpl key k) ++ (uintL (k.drop (cpl key k)).length ++ (k.drop (cpl key k) ++ (uintL v.length ++ (v ++ r)))) := by simp [pairBytes]
  have hr := readU_uintL (n := cpl key k) (by omega) (uintL (k.drop (cpl key k)).length ++ (k.drop (cpl key k) ++ (uintL v.length ++ (v ++ r))))
  have ht := textsL_back (k.drop (cpl key k)) (uintL v.length ++ (v ++ r)) (by simp; omega)
  have hv := textsL_back v r h2
  have hj : key.take (cpl key k) ++ k.drop (cpl key k) = k := by rw [hct, List.take_append_drop]
  rw [e]
  generalize hA : uintL (cpl key k) ++ (uintL (k.drop (cpl key k)).length ++ (k.drop (cpl key k) ++ (uintL v.length ++ (v ++ r)))) = s at *
  have hd : s.drop (uintL (cpl key k)).length = uintL (k.drop (cpl key k)).length ++ (k.drop (cpl key k) ++ (uintL v.length ++ (v ++ r))) := by rw [← hA, List.drop_left]
  have g1 : (readU 0 0 s).1 = cpl key k := by rw [hr]
  have g2 : (readU 0 0 s).2.1 = (uintL (cpl key k)).length := by rw [hr]
  have g3 : (readU 0 0 s).2.2 = 0 := by rw [hr]
  have g4 : textsL (s.drop (readU 0 0 s).2.1) = (k.drop (cpl key k), uintL v.length ++ (v ++ r), 0) := by rw [g2, hd, ht]
  rw [pairL_fine g3 (by omega) (by rw [g4]) (by rw [g4, g1, hj]; rintro (hh | hh); exact hk hh; exact hh rfl) (by rw [g4, hv])]
  rw [g4, g1]
  simp only [hv, hj]

theorem packGo_acc (l : List PairL) : ∀ i key acc, packGo i key acc l = match packGo i key [] l with | .inl b => .inl (acc ++ b) | .inr j => .inr j := by
  induction l with
  | nil => intro i key acc; simp [packGo]
  | cons p l ih =>
    intro i key acc
    rw [packGo, packGo]
    split
    · rfl
    · rw [ih _ _ (acc ++ pairBytes key p), ih _ _ ([] ++ pairBytes key p)]
      cases packGo (i + 1) p.1 [] l <;> simp
theorem packGo_cons {i : Nat} {key : List UInt8} {p : PairL} {r : List PairL} {b : List UInt8} (hk : ¬ (0 < i ∧ kle p.1 key = true)) (h : packGo (i + 1) p.1 [] r = .inl b) : packGo i key [] (p :: r) = .inl (pairBytes key p ++ b) := by
  rw [packGo_more rfl hk, packGo_acc, h]
  simp

theorem unpackGo_form (d : Nat) : ∀ i s key size acc l, size ≤ 268435456 → unpackGo d i s key size acc = (l, 0) → ∃ r, l = acc ++ r ∧ r.length = d ∧ size + sizeL r ≤ 268435456 ∧ packGo i key [] r = .inl s := by
  induction d with
  | zero =>
    intro i s key size acc l hs h
    by_cases h0 : s = []
    · rw [unpackGo_end h0] at h
      simp only [Prod.mk.injEq, and_true] at h
      subst h0
      exact ⟨[], by simp [h], rfl, by simpa [sizeL] using hs, rfl⟩
    · rw [unpackGo_long h0] at h; simp at h
  | succ d ih =>
    intro i s key size acc l hs h
    by_cases h0 : (pairL s key (i == 0)).2.2 = 0
    · by_cases h2 : 268435456 < size + ((pairL s key (i == 0)).1.1.length + (pairL s key (i == 0)).1.2.length)
      · rw [unpackGo_many h0 h2] at h; simp at h
      · rw [unpackGo_more h0 h2] at h
        obtain ⟨r, e1, e2, e3, e4⟩ := ih _ _ _ _ _ _ (by omega) h
        obtain ⟨f1, f2⟩ := pairL_form h0
        refine ⟨(pairL s key (i == 0)).1 :: r, by rw [e1]; simp, by simp [e2], by rw [sizeL]; omega, ?_⟩
        rw [packGo_cons (fun hh => f2 ⟨by simp; omega, hh.2⟩) e4, ← f1]
    · rw [unpackGo_err h0] at h
      simp only [Prod.mk.injEq] at h
      exact absurd h.2 h0

theorem packGo_rest {i : Nat} {key : List UInt8} {p : PairL} {r : List PairL} {s : List UInt8} (h : packGo i key [] (p :: r) = .inl s) : ¬ (0 < i ∧ kle p.1 key = true) ∧ ∃ b, packGo (i + 1) p.1 [] r = .inl b ∧ s = pairBytes key p ++ b := by
  by_cases hk : 0 < i ∧ kle p.1 key = true
  · rw [packGo_bad rfl hk] at h; simp at h
  · refine ⟨hk, ?_⟩
    rw [packGo_more rfl hk, packGo_acc] at h
    cases hb : packGo (i + 1) p.1 [] r with
    | inl b => rw [hb] at h; simp at h; exact ⟨b, rfl, h.symm⟩
    | inr j => rw [hb] at h; simp at h
theorem unpackGo_back (r : List PairL) : ∀ i s key size acc, packGo i key [] r = .inl s → size + sizeL r ≤ 268435456 → unpackGo r.length i s key size acc = (acc ++ r, 0) := by
  induction r with
  | nil =>
    intro i s key size acc h _
    simp [packGo] at h
    rw [List.length_nil, unpackGo_end h]; simp
  | cons p r ih =>
    intro i s key size acc h hs
    rw [sizeL] at hs
    obtain ⟨hk, b, hb, rfl⟩ := packGo_rest h
    have hp := pairL_back key p b (i == 0) (fun hh => hk ⟨by have := hh.1; simp at this; omega, hh.2⟩) (by omega) (by omega)
    rw [List.length_cons, unpackGo_more (by rw [hp]) (by rw [hp]; simp only; omega), hp]
    simp only
    rw [ih _ _ _ _ _ hb (by omega)]
    simp

theorem crcTail_len (l : List UInt8) : (crcTail l).length = 4 := rfl
theorem unpack_pack {l : List PairL} {out : List UInt8} (h : packGo 0 [] (uintL l.length) l = .inl out) (hs : sizeL l ≤ 268435456) (hn : l.length < 18446744073709551616) : unpackL (out ++ crcTail out) = (l, 0) := by
  rw [packGo_acc] at h
  cases hb : packGo 0 [] [] l with
  | inr j => rw [hb] at h; simp at h
  | inl b =>
    rw [hb] at h
    simp only [Sum.inl.injEq] at h
    have hp := uintL_pos l.length
    have hl : (out ++ crcTail out).length = out.length + 4 := by simp [crcTail_len]
    have ho : 1 ≤ out.length := by rw [← h]; simp; omega
    rw [unpackL, if_neg (by omega), hl]
    have e1 : (out ++ crcTail out).drop (out.length + 4 - 4) = crcTail out := by rw [Nat.add_sub_cancel, List.drop_left]
    have e2 : (out ++ crcTail out).take (out.length + 4 - 4) = out := by rw [Nat.add_sub_cancel, List.take_left]
    rw [e1, e2, if_neg (by simp), unpackBody, ← h, readU_uintL hn, if_neg (by simp)]
    simp only
    rw [List.drop_left, unpackGo_back l 0 b [] 0 [] hb (by omega)]
    simp
theorem pack_unpack {s : List UInt8} {l : List PairL} (h : unpackL s = (l, 0)) : ∃ out, packGo 0 [] (uintL l.length) l = .inl out ∧ s = out ++ crcTail out ∧ sizeL l ≤ 268435456 := by
  rw [unpackL] at h
  split at h
  · simp at h
  · rename_i h5
    split at h
    · simp at h
    · rename_i hc
      have hc' : s.drop (s.length - 4) = crcTail (s.take (s.length - 4)) := by simpa using hc
      rw [unpackBody] at h
      split at h
      · rename_i hr
        simp only [Prod.mk.injEq] at h
        exact absurd h.2 hr
      · rename_i hr
        have hr' : (readU 0 0 (s.take (s.length - 4))).2.2 = 0 := by simpa using hr
        obtain ⟨r, e1, e2, e3, e4⟩ := unpackGo_form _ _ _ _ _ _ _ (by omega) h
        rw [List.nil_append] at e1
        subst e1
        have f := readU_one hr'
        refine ⟨s.take (s.length - 4), ?_, ?_, by omega⟩
        · rw [packGo_acc, e4, e2]
          simp only
          rw [f, List.take_append_drop]
        · rw [← hc', List.take_append_drop]
theorem unpackGo_bad (d : Nat) : ∀ i s key size acc, (unpackGo d i s key size acc).2 ≠ 0 → (unpackGo d i s key size acc).1 = [] := by
  induction d with
  | zero =>
    intro i s key size acc h
    by_cases h0 : s = []
    · rw [unpackGo_end h0] at h; simp at h
    · rw [unpackGo_long h0]
  | succ d ih =>
    intro i s key size acc h
    by_cases h0 : (pairL s key (i == 0)).2.2 = 0
    · by_cases h2 : 268435456 < size + ((pairL s key (i == 0)).1.1.length + (pairL s key (i == 0)).1.2.length)
      · rw [unpackGo_many h0 h2]
      · rw [unpackGo_more h0 h2] at h ⊢; exact ih _ _ _ _ _ h
    · rw [unpackGo_err h0]
theorem unpackL_bad {s : List UInt8} (h : (unpackL s).2 ≠ 0) : (unpackL s).1 = [] := by
  rw [unpackL] at h ⊢
  split
  · rfl
  · split
    · rfl
    · rename_i h1 h2
      rw [if_neg h1, if_neg h2] at h
      rw [unpackBody] at h ⊢
      split
      · rfl
      · rename_i h3
        rw [if_neg h3] at h
        exact unpackGo_bad _ _ _ _ _ _ h
theorem packGo_len {l : List PairL} : ∀ {i : Nat} {key acc out : List UInt8}, packGo i key acc l = .inl out → l.length ≤ out.length := by
  induction l with
  | nil => intro i key acc out _; simp
  | cons p l ih =>
    intro i key acc out h
    rw [packGo_acc] at h
    cases hb : packGo i key [] (p :: l) with
    | inr j => rw [hb] at h; simp at h
    | inl b =>
      rw [hb] at h
      simp only [Sum.inl.injEq] at h
      obtain ⟨_, b', h1, rfl⟩ := packGo_rest hb
      have := ih h1
      have h2 := uintL_pos (cpl key p.1)
      rw [← h]
      simp [pairBytes]
      omega
end Go.Proofs.YtifdibkpaeocfaaGreatDoor
