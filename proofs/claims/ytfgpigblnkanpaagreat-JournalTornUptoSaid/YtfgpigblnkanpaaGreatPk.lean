/- Pairs, without the program: what Pack makes; how a slice of pairs lies in memory. No conditions. -/
import Derived.Test.YtfgpigblnkanpaaGreatCrc
import Derived.Lib.Strings
namespace Go.Proofs.YtfgpigblnkanpaaGreat
open Go.RowKit

abbrev PairL := List UInt8 × List UInt8
def pairBytes (key : List UInt8) (p : PairL) : List UInt8 :=
  uintL (cpl key p.1) ++ (uintL (p.1.length - cpl key p.1) ++ (p.1.drop (cpl key p.1) ++ (uintL p.2.length ++ p.2)))
/-- Is a text at most another one? (As Go's '<='.) -/
def kle (a b : List UInt8) : Bool := Op.bytesLess a b || a == b
/-- The bytes of pairs behind a key, from place i on; or the place of the first key that does not rise. -/
def packGo (i : Nat) (key acc : List UInt8) : List PairL → List UInt8 ⊕ Nat
  | [] => .inl acc
  | p :: r => if 0 < i ∧ kle p.1 key = true then .inr i else packGo (i + 1) p.1 (acc ++ pairBytes key p) r
def sizeL : List PairL → Nat
  | [] => 0
  | p :: r => p.1.length + p.2.length + sizeL r

theorem toList_str (l : List UInt8) : (str l).toList = l := ByteArray.toList_eq (str l)
theorem kle_walk {a b : List UInt8} (h : kle a b = true) : (Op.bytesLess (str a).toList (str b).toList || (str a).toList == (str b).toList) = true := by
  rw [toList_str, toList_str]; exact h
theorem nkle_walk {a b : List UInt8} (h : kle a b = false) : Op.bytesLess (str a).toList (str b).toList = false ∧ ((str a).toList == (str b).toList) = false := by
  rw [toList_str, toList_str]; simpa [kle] using h
theorem packGo_bad {i : Nat} {key acc : List UInt8} {l : List PairL} {p : PairL} {r : List PairL} (hl : l = p :: r) (h : 0 < i ∧ kle p.1 key = true) : packGo i key acc l = .inr i := by
  subst hl; rw [packGo, if_pos h]
theorem packGo_more {i : Nat} {key acc : List UInt8} {l : List PairL} {p : PairL} {r : List PairL} (hl : l = p :: r) (h : ¬ (0 < i ∧ kle p.1 key = true)) : packGo i key acc l = packGo (i + 1) p.1 (acc ++ pairBytes key p) r := by
  subst hl; rw [packGo, if_neg h]
theorem drop_cons {α : Type} {l : List α} {k : Nat} {p : α} (h : l[k]? = some p) : l.drop k = p :: l.drop (k + 1) := by
  obtain ⟨hk, e⟩ := List.getElem?_eq_some_iff.1 h
  rw [List.drop_eq_getElem_cons hk, e]

theorem below_undrew {B : Nat} {w w' : World} (h : Below B w.drew w') : Below B w w' := ⟨h.os, h.tape, h.output, h.size, h.block⟩
theorem str_extract (l : List UInt8) (a b : Nat) : (str l).extract a b = str ((l.take b).drop a) := by
  have h : ((str l).extract a b).data.toList = (l.take b).drop a := by
    rw [Lib.extract_data, str_data, List.drop_take]
  rw [← h, str_of]
theorem str_append (a b : List UInt8) : str a ++ str b = str (a ++ b) := by
  have h : (str a ++ str b).data.toList = a ++ b := by
    rw [ByteArray.data_append]; simp [str]
  rw [← h, str_of]
theorem str_extract_to (l : List UInt8) (a : Nat) : (str l).extract a l.length = str (l.drop a) := by
  rw [str_extract, List.take_length]

theorem flat_take_le (ss : List (List UInt8)) (j : Nat) : (ss.take j).flatten.length ≤ ss.flatten.length := by
  induction ss generalizing j with
  | nil => simp
  | cons a ss ih =>
    cases j with
    | zero => simp
    | succ j => rw [List.take_succ_cons, List.flatten_cons, List.flatten_cons, List.length_append, List.length_append]; have := ih j; omega
theorem flat_step {ss : List (List UInt8)} {j : Nat} {t : List UInt8} (h : ss[j]? = some t) : (ss.take (j + 1)).flatten = (ss.take j).flatten ++ t := by
  obtain ⟨hj, e⟩ := List.getElem?_eq_some_iff.1 h
  rw [List.take_succ_eq_append_getElem hj, e, List.flatten_append]
  simp
theorem pairBytes_len (key : List UInt8) (p : PairL) (h1 : p.1.length < 18446744073709551616) (h2 : p.2.length < 18446744073709551616) : (pairBytes key p).length ≤ 30 + (p.1.length + p.2.length) := by
  have hc := (cpl_le key p.1).2
  have q1 := uintL_len (n := cpl key p.1) (by omega)
  have q2 := uintL_len (n := p.1.length - cpl key p.1) (by omega)
  have q3 := uintL_len h2
  simp [pairBytes]; omega
theorem pairBytes_flat (key : List UInt8) (p : PairL) : [uintL (cpl key p.1), uintL (p.1.length - cpl key p.1), p.1.drop (cpl key p.1), uintL p.2.length, p.2].flatten = pairBytes key p := by
  simp [pairBytes]

/-- A slice of pairs that lies in memory. -/
def PairsAt (w : World) (v : Value) (l : List PairL) : Prop :=
  ∃ a cap, v = .slice a l.length cap ∧ ∀ i p, l[i]? = some p → ∃ b off, a = some ⟨b, off, none⟩ ∧ w.cell? ⟨b, off + i * 2, none⟩ = some (strV p.1) ∧ w.cell? ⟨b, off + i * 2 + 1, none⟩ = some (strV p.2)
/-- No text is longer than memory is. -/
def PairsOk (l : List PairL) : Prop := ∀ p ∈ l, p.1.length ≤ 140737488351232 ∧ p.2.length ≤ 140737488351232

theorem sizeL_take {l : List PairL} {k : Nat} {p : PairL} (h : l[k]? = some p) : sizeL (l.take (k + 1)) = sizeL (l.take k) + (p.1.length + p.2.length) := by
  induction l generalizing k with
  | nil => simp at h
  | cons q l ih =>
    cases k with
    | zero => simp at h; subst h; simp [sizeL]
    | succ k => simp at h; simp [sizeL, ih h]; omega
theorem sizeL_take_le (l : List PairL) (k : Nat) : sizeL (l.take k) ≤ sizeL l := by
  induction l generalizing k with
  | nil => simp [sizeL]
  | cons q l ih =>
    cases k with
    | zero => simp [sizeL]
    | succ k => simp [sizeL]; exact ih k
theorem PairsAt.below {w w' : World} {v : Value} {l : List PairL} (h : PairsAt w v l) (hb : Below w.heap.size w w') : PairsAt w' v l := by
  obtain ⟨a, cap, hv, hc⟩ := h
  refine ⟨a, cap, hv, fun i p hp => ?_⟩
  obtain ⟨b, off, ha, h1, h2⟩ := hc i p hp
  exact ⟨b, off, ha, by rw [hb.cell (World.block_lt_of_cell? w _ h1)]; exact h1, by rw [hb.cell (World.block_lt_of_cell? w _ h2)]; exact h2⟩
end Go.Proofs.YtfgpigblnkanpaaGreat
