/- Frames of records, and what is read of bytes. Plain data. -/
import Derived.Test.YtfgpigblnkanpaaGreatDoorShort
namespace Go.Proofs.YtfgpigblnkanpaaGreatDoor

/-- A record's frame. -/
def jframe (r : List UInt8) : List UInt8 := uintL (r.length + 1) ++ (crcTail (uintL (r.length + 1) ++ r) ++ r)
/-- The record whose frame stands at the beginning of bytes, and the frame's length. -/
def jnext (t : List UInt8) : Option (List UInt8 × Nat) :=
  if (readU 0 0 t).2.2 ≠ 0 ∨ (readU 0 0 t).1 = 0 ∨ 16777216 < (readU 0 0 t).1 - 1 then none
  else if t.length < (readU 0 0 t).2.1 + 4 + ((readU 0 0 t).1 - 1) ∨ jframe ((t.take ((readU 0 0 t).2.1 + 4 + ((readU 0 0 t).1 - 1))).drop ((readU 0 0 t).2.1 + 4)) ≠ t.take ((readU 0 0 t).2.1 + 4 + ((readU 0 0 t).1 - 1)) then none
  else some ((t.take ((readU 0 0 t).2.1 + 4 + ((readU 0 0 t).1 - 1))).drop ((readU 0 0 t).2.1 + 4), (readU 0 0 t).2.1 + 4 + ((readU 0 0 t).1 - 1))
def jbeg : Nat → List UInt8 → List (List UInt8) × Nat
  | 0, _ => ([], 0)
  | f + 1, t => match jnext t with
    | none => ([], 0)
    | some (r, m) => (r :: (jbeg f (t.drop m)).1, m + (jbeg f (t.drop m)).2)
/-- The records of the beginning of bytes, and how many bytes it has. -/
def jbegin (t : List UInt8) : List (List UInt8) × Nat := jbeg t.length t
def jframes (l : List (List UInt8)) : List UInt8 := (l.map jframe).flatten
theorem jframes_cons (r : List UInt8) (l : List (List UInt8)) : jframes (r :: l) = jframe r ++ jframes l := rfl
theorem jframes_append (l m : List (List UInt8)) : jframes (l ++ m) = jframes l ++ jframes m := by unfold jframes; simp
theorem crcTail_len (l : List UInt8) : (crcTail l).length = 4 := rfl
theorem jframe_len (r : List UInt8) : (jframe r).length = (uintL (r.length + 1)).length + 4 + r.length := by unfold jframe; simp [crcTail_len]; omega
theorem jnext_le {t r : List UInt8} {m : Nat} (h : jnext t = some (r, m)) : 4 ≤ m ∧ m ≤ t.length ∧ r.length ≤ 16777216 ∧ jframe r = t.take m := by
  unfold jnext at h
  split at h
  · cases h
  · rename_i h1
    split at h
    · cases h
    · rename_i h2
      simp only [Option.some.injEq, Prod.mk.injEq] at h
      obtain ⟨rfl, rfl⟩ := h
      refine ⟨by omega, by omega, ?_, ?_⟩
      · rw [List.length_drop, List.length_take]; omega
      · exact Classical.byContradiction fun hne => h2 (Or.inr hne)
theorem jbeg_more : ∀ (f : Nat) (t : List UInt8), t.length ≤ f → jbeg (f + 1) t = jbeg f t
  | 0, t, h => by
    cases t with
    | nil =>
      have : jnext ([] : List UInt8) = none := by unfold jnext; rw [if_pos (Or.inl (by rw [readU_nil]; simp))]
      rw [jbeg, jbeg, this]
    | cons a t => simp at h
  | f + 1, t, h => by
    rw [jbeg]
    conv => rhs; rw [jbeg]
    cases e : jnext t with
    | none => rfl
    | some x =>
      obtain ⟨r, m⟩ := x
      have hm := jnext_le e
      simp only
      rw [jbeg_more f (t.drop m) (by rw [List.length_drop]; omega)]
theorem jbeg_fuel (t : List UInt8) : ∀ k, jbeg (t.length + k) t = jbegin t
  | 0 => rfl
  | k + 1 => (jbeg_more (t.length + k) t (by omega)).trans (jbeg_fuel t k)
theorem jbegin_none {t : List UInt8} (h : jnext t = none) : jbegin t = ([], 0) := by
  rw [← jbeg_fuel t 1, jbeg, h]
theorem jbegin_some {t r : List UInt8} {m : Nat} (h : jnext t = some (r, m)) : jbegin t = (r :: (jbegin (t.drop m)).1, m + (jbegin (t.drop m)).2) := by
  have hm := jnext_le h
  have e : t.length = (t.drop m).length + m := by rw [List.length_drop]; omega
  rw [← jbeg_fuel t 1, jbeg, h]
  simp only
  rw [e, jbeg_fuel (t.drop m) m]
theorem jnext_frame {r : List UInt8} (hr : r.length ≤ 16777216) (x : List UInt8) : jnext (jframe r ++ x) = some (r, (jframe r).length) := by
  have e : readU 0 0 (jframe r ++ x) = (r.length + 1, (uintL (r.length + 1)).length, 0) := by
    unfold jframe
    rw [List.append_assoc]
    exact readU_uintL (by omega) _
  have hl := jframe_len r
  have ht : (jframe r ++ x).take ((uintL (r.length + 1)).length + 4 + (r.length + 1 - 1)) = jframe r := List.take_left' (by omega)
  have hd : (jframe r).drop ((uintL (r.length + 1)).length + 4) = r := by
    unfold jframe
    rw [← List.append_assoc]
    exact List.drop_left' (by simp [crcTail_len])
  unfold jnext
  simp only [e]
  rw [if_neg (by omega), ht, hd, if_neg (by simp; omega)]
  simp only [Option.some.injEq, Prod.mk.injEq, true_and]
  omega
theorem jbegin_frames : ∀ (l : List (List UInt8)) (x : List UInt8), (∀ r ∈ l, r.length ≤ 16777216) → jbegin (jframes l ++ x) = (l ++ (jbegin x).1, (jframes l).length + (jbegin x).2)
  | [], x, _ => by simp [jframes]
  | r :: l, x, h => by
    rw [jframes_cons, List.append_assoc, jbegin_some (jnext_frame (h r List.mem_cons_self) _), List.drop_left, jbegin_frames l x fun y hy => h y (List.mem_cons_of_mem _ hy)]
    simp
    omega
theorem jbegin_nil : jbegin [] = ([], 0) := rfl
theorem jbegin_all {l : List (List UInt8)} (h : ∀ r ∈ l, r.length ≤ 16777216) : jbegin (jframes l) = (l, (jframes l).length) := by
  have := jbegin_frames l [] h
  rw [List.append_nil, jbegin_nil] at this
  simpa using this
/-- A frame that is cut is none. -/
theorem jnext_cut {r : List UInt8} (hr : r.length ≤ 16777216) {i : Nat} (hi : i < (jframe r).length) : jnext ((jframe r).take i) = none := by
  have hl := jframe_len r
  by_cases h : i < (uintL (r.length + 1)).length
  · have e : readU 0 0 ((jframe r).take i) = (0, 0, 2) := by
      unfold jframe
      rw [List.take_append_of_le_length (by omega)]
      exact readU_cut (by omega) h
    unfold jnext
    rw [if_pos (Or.inl (by rw [e]; simp))]
  · have e : readU 0 0 ((jframe r).take i) = (r.length + 1, (uintL (r.length + 1)).length, 0) := by
      unfold jframe
      rw [List.take_append, List.take_of_length_le (by omega)]
      exact readU_uintL (by omega) _
    unfold jnext
    simp only [e]
    rw [if_neg (by omega), if_pos (Or.inl (by rw [List.length_take]; omega))]
/-- Bytes 0 are no frame. -/
theorem jnext_zero (t : List UInt8) : jnext (0 :: t) = none := by
  have e : readU 0 0 (0 :: t) = (0, 1, 0) := by
    rw [readU_end (by simp) (by decide)]
    rfl
  unfold jnext
  rw [if_pos (Or.inr (Or.inl (by rw [e])))]
end Go.Proofs.YtfgpigblnkanpaaGreatDoor
