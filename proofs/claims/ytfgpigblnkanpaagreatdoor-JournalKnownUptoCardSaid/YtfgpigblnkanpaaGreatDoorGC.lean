/- The sum, without the program: a bit's step, a byte's step, as the table has them. No conditions. Pairs, without the program: what Pack makes; how a slice of pairs lies in memory. No conditions. Strings in a walk: a sum, a beginning, a byte as a text. -/
import Derived.Test.YtfgpigblnkanpaaGreatDoorA
import Derived.Lib.Strings
import Derived.Test.YtfgpigblnkanpaaGreatDoorProg
namespace Go.Proofs.YtfgpigblnkanpaaGreatDoor
open Go.RowKit

def crcBit (c : Nat) : Nat := (c / 2) ^^^ (if c % 2 = 1 then 2197175160 else 0)
def crcN : Nat → Nat → Nat
  | 0, c => c
  | k + 1, c => crcN k (crcBit c)
def crcStep (c : Nat) (b : UInt8) : Nat := (c / 256) ^^^ crcN 8 ((c % 256) ^^^ b.toNat)
def crcFold (c : Nat) (l : List UInt8) : Nat := l.foldl crcStep c
/-- The sum of bytes. -/
def crc (l : List UInt8) : Nat := 4294967295 - crcFold 4294967295 l
def crcTail (l : List UInt8) : List UInt8 := [(crc l).toUInt8, (crc l / 256).toUInt8, (crc l / 65536).toUInt8, (crc l / 16777216).toUInt8]

theorem crcN_succ (k c : Nat) : crcN (k + 1) c = crcBit (crcN k c) := by
  induction k generalizing c with
  | zero => rfl
  | succ k ih => rw [crcN, ih]; rfl

theorem crcBit_lt {c : Nat} (h : c < 4294967296) : crcBit c < 4294967296 := by
  unfold crcBit
  split
  · exact Nat.xor_lt_two_pow (n := 32) (by omega) (by omega)
  · rw [Nat.xor_zero]; omega
theorem crcN_lt {c : Nat} (k : Nat) (h : c < 4294967296) : crcN k c < 4294967296 := by
  induction k generalizing c with
  | zero => exact h
  | succ k ih => exact ih (crcBit_lt h)
theorem crcStep_lt {c : Nat} (b : UInt8) (h : c < 4294967296) : crcStep c b < 4294967296 := by
  have hb := b.toNat_lt
  exact Nat.xor_lt_two_pow (n := 32) (by omega) (crcN_lt 8 (by have := Nat.xor_lt_two_pow (x := c % 256) (y := b.toNat) (n := 8) (by omega) (by omega); omega))
theorem crcFold_lt {c : Nat} (l : List UInt8) (h : c < 4294967296) : crcFold c l < 4294967296 := by
  unfold crcFold
  induction l generalizing c with
  | nil => exact h
  | cons b l ih => exact ih (crcStep_lt b h)
theorem crc_lt (l : List UInt8) : crc l < 4294967296 := by unfold crc; omega

/-- A bit's step, as the walk spells it. -/
theorem crcBit_walk {c : Nat} (h : c < 4294967296) : bits .xor .u32 ((c : Int) / 2) (bits .and .u32 2197175160 (IntKind.u32.wrap (-(bits .and .u32 (c : Int) 1)))) = (crcBit c : Int) := by
  have e1 : bits .and .u32 (c : Int) 1 = ((c % 2 : Nat) : Int) := by
    have := u32_and_nat c 1 h (by omega)
    rw [Nat.and_one_is_mod] at this
    exact this
  have e2 : ((c : Int) / 2) = ((c / 2 : Nat) : Int) := by omega
  rw [e1, e2, IntKind.wrap_u32]
  unfold crcBit
  rcases Nat.mod_two_eq_zero_or_one c with h0 | h1
  · rw [h0, if_neg (by omega)]
    have e3 : bits .and .u32 2197175160 ((-((0 : Nat) : Int)) % 4294967296) = ((0 : Nat) : Int) := by
      have := u32_and_nat 2197175160 0 (by omega) (by omega)
      simpa using this
    rw [e3, u32_xor_nat _ _ (by omega) (by omega)]
  · rw [h1, if_pos rfl]
    have e3 : bits .and .u32 2197175160 ((-((1 : Nat) : Int)) % 4294967296) = ((2197175160 : Nat) : Int) := by
      have := u32_and_nat 2197175160 4294967295 (by omega) (by omega)
      exact this
    rw [e3, u32_xor_nat _ _ (by omega) (by omega)]

theorem xor_ones32 {x : Nat} (h : x < 4294967296) : 4294967295 ^^^ x = 4294967295 - x := by
  have h1 : 4294967295 - x = (BitVec.ofNat 32 4294967295 - BitVec.ofNat 32 x).toNat := by
    rw [BitVec.toNat_sub]; simp; omega
  have h2 : (BitVec.ofNat 32 4294967295 - BitVec.ofNat 32 x) = BitVec.ofNat 32 4294967295 ^^^ BitVec.ofNat 32 x := by
    have : BitVec.ofNat 32 4294967295 = BitVec.allOnes 32 := by decide
    rw [this, BitVec.allOnes_sub_eq_not, BitVec.allOnes_xor]
  rw [h1, h2, BitVec.toNat_xor]
  simp only [BitVec.toNat_ofNat]
  rw [Nat.mod_eq_of_lt (a := x) h]
theorem not_walk {x : Nat} (h : x < 4294967296) : bits .xor .u32 IntKind.u32.max (x : Int) = ((4294967295 - x : Nat) : Int) := by
  have e : IntKind.u32.max = ((4294967295 : Nat) : Int) := by decide
  rw [e, u32_xor_nat _ _ (by omega) h, xor_ones32 h]

/-- A byte's step, as the walk spells it. -/
theorem crcStep_walk {c : Nat} {b : UInt8} (h : c < 4294967296) : bits .xor .u32 ((c : Int) / 256) ((crcN 8 ((c % 256) ^^^ b.toNat) : Nat) : Int) = (crcStep c b : Int) := by
  have hb := b.toNat_lt
  have e2 : ((c : Int) / 256) = ((c / 256 : Nat) : Int) := by omega
  rw [e2, u32_xor_nat _ _ (by omega) (crcN_lt 8 (by have := Nat.xor_lt_two_pow (x := c % 256) (y := b.toNat) (n := 8) (by omega) (by omega); omega))]
  rfl

/-- The table's row, its first places filled. -/
def tabRow (k : Nat) : List Value := (List.range k).map (fun i => Value.int .u32 (crcN 8 i : Nat)) ++ List.replicate (256 - k) (Value.int .u32 0)
def tabA : Array Value := (tabRow 256).toArray
theorem tabRow_len {k : Nat} (h : k ≤ 256) : (tabRow k).length = 256 := by simp [tabRow]; omega
theorem tabRow_set {k : Nat} (h : k < 256) : (tabRow k).set k (.int .u32 (crcN 8 k : Nat)) = tabRow (k + 1) := by
  unfold tabRow
  rw [show 256 - k = (256 - (k + 1)) + 1 by omega, List.replicate_succ, List.range_succ, List.map_append]
  simp
theorem tabRow_get {k i : Nat} (h : i < k) : (tabRow k)[i]? = some (.int .u32 (crcN 8 i : Nat)) := by
  unfold tabRow
  rw [List.getElem?_append_left (by simpa using h), List.getElem?_map, List.getElem?_range h]
  rfl
theorem tabRow_get' {k i : Nat} (h : i < 256) (hk : k ≤ 256) : ∃ v, (tabRow k)[i]? = some v := ⟨_, List.getElem?_eq_getElem (by rw [tabRow_len hk]; exact h)⟩
def z256 : Array Value := (tabRow 0).toArray
theorem tabA_one : tabA.all (·.oneCell') = true := by
  rw [Array.all_eq_true_iff_forall_mem]
  intro v hv
  simp [tabA, tabRow] at hv
  obtain ⟨i, _, rfl⟩ := hv
  rfl
end Go.Proofs.YtfgpigblnkanpaaGreatDoor

namespace Go.Proofs.YtfgpigblnkanpaaGreatDoor
open Go.RowKit

abbrev PairL := List UInt8 × List UInt8
def pairBytes (key : List UInt8) (p : PairL) : List UInt8 :=
  uintL (cpl key p.1) ++ (uintL (p.1.length - cpl key p.1) ++ (p.1.drop (cpl key p.1) ++ (uintL p.2.length ++ p.2)))
/-- Is a text at most another one? (As Go's '<='.) -/
def kle (a b : List UInt8) : Bool := Op.bytesLess a b || a == b
/-- The bytes of pairs behind a key, from place i on; or the place of the first key that does not rise. -/
def packGo (i : Nat) (key acc : List UInt8) : List PairL → List UInt8 ⊕ Nat
  | [] => .inl acc
  | p :: r => if 0 < i ∧ kle p.1 key = true then .inr i else packGo (i + 1) p.1 (acc ++ pairBytes key p) r
def sizeL : List PairL → Nat
  | [] => 0
  | p :: r => p.1.length + p.2.length + sizeL r

theorem toList_str (l : List UInt8) : (str l).toList = l := ByteArray.toList_eq (str l)
theorem kle_walk {a b : List UInt8} (h : kle a b = true) : (Op.bytesLess (str a).toList (str b).toList || (str a).toList == (str b).toList) = true := by
  rw [toList_str, toList_str]; exact h
theorem nkle_walk {a b : List UInt8} (h : kle a b = false) : Op.bytesLess (str a).toList (str b).toList = false ∧ ((str a).toList == (str b).toList) = false := by
  rw [toList_str, toList_str]; simpa [kle] using h
theorem packGo_bad {i : Nat} {key acc : List UInt8} {l : List PairL} {p : PairL} {r : List PairL} (hl : l = p :: r) (h : 0 < i ∧ kle p.1 key = true) : packGo i key acc l = .inr i := by
  subst hl; rw [packGo, if_pos h]
theorem packGo_more {i : Nat} {key acc : List UInt8} {l : List PairL} {p : PairL} {r : List PairL} (hl : l = p :: r) (h : ¬ (0 < i ∧ kle p.1 key = true)) : packGo i key acc l = packGo (i + 1) p.1 (acc ++ pairBytes key p) r := by
  subst hl; rw [packGo, if_neg h]
theorem drop_cons {α : Type} {l : List α} {k : Nat} {p : α} (h : l[k]? = some p) : l.drop k = p :: l.drop (k + 1) := by
  obtain ⟨hk, e⟩ := List.getElem?_eq_some_iff.1 h
  rw [List.drop_eq_getElem_cons hk, e]

theorem below_undrew {B : Nat} {w w' : World} (h : Below B w.drew w') : Below B w w' := ⟨h.os, h.tape, h.output, h.size, h.block⟩
theorem str_extract (l : List UInt8) (a b : Nat) : (str l).extract a b = str ((l.take b).drop a) := by
  have h : ((str l).extract a b).data.toList = (l.take b).drop a := by
    rw [Lib.extract_data, str_data, List.drop_take]
  rw [← h, str_of]
theorem str_append (a b : List UInt8) : str a ++ str b = str (a ++ b) := by
  have h : (str a ++ str b).data.toList = a ++ b := by
    rw [ByteArray.data_append]; simp [str]
  rw [← h, str_of]
theorem str_extract_to (l : List UInt8) (a : Nat) : (str l).extract a l.length = str (l.drop a) := by
  rw [str_extract, List.take_length]

theorem flat_take_le (ss : List (List UInt8)) (j : Nat) : (ss.take j).flatten.length ≤ ss.flatten.length := by
  induction ss generalizing j with
  | nil => simp
  | cons a ss ih =>
    cases j with
    | zero => simp
    | succ j => rw [List.take_succ_cons, List.flatten_cons, List.flatten_cons, List.length_append, List.length_append]; have := ih j; omega
theorem flat_step {ss : List (List UInt8)} {j : Nat} {t : List UInt8} (h : ss[j]? = some t) : (ss.take (j + 1)).flatten = (ss.take j).flatten ++ t := by
  obtain ⟨hj, e⟩ := List.getElem?_eq_some_iff.1 h
  rw [List.take_succ_eq_append_getElem hj, e, List.flatten_append]
  simp
theorem pairBytes_len (key : List UInt8) (p : PairL) (h1 : p.1.length < 18446744073709551616) (h2 : p.2.length < 18446744073709551616) : (pairBytes key p).length ≤ 30 + (p.1.length + p.2.length) := by
  have hc := (cpl_le key p.1).2
  have q1 := uintL_len (n := cpl key p.1) (by omega)
  have q2 := uintL_len (n := p.1.length - cpl key p.1) (by omega)
  have q3 := uintL_len h2
  simp [pairBytes]; omega
theorem pairBytes_flat (key : List UInt8) (p : PairL) : [uintL (cpl key p.1), uintL (p.1.length - cpl key p.1), p.1.drop (cpl key p.1), uintL p.2.length, p.2].flatten = pairBytes key p := by
  simp [pairBytes]

/-- A slice of pairs that lies in memory. -/
def PairsAt (w : World) (v : Value) (l : List PairL) : Prop :=
  ∃ a cap, v = .slice a l.length cap ∧ ∀ i p, l[i]? = some p → ∃ b off, a = some ⟨b, off, none⟩ ∧ w.cell? ⟨b, off + i * 2, none⟩ = some (strV p.1) ∧ w.cell? ⟨b, off + i * 2 + 1, none⟩ = some (strV p.2)
/-- No text is longer than memory is. -/
def PairsOk (l : List PairL) : Prop := ∀ p ∈ l, p.1.length ≤ 140737488351232 ∧ p.2.length ≤ 140737488351232

theorem sizeL_take {l : List PairL} {k : Nat} {p : PairL} (h : l[k]? = some p) : sizeL (l.take (k + 1)) = sizeL (l.take k) + (p.1.length + p.2.length) := by
  induction l generalizing k with
  | nil => simp at h
  | cons q l ih =>
    cases k with
    | zero => simp at h; subst h; simp [sizeL]
    | succ k => simp at h; simp [sizeL, ih h]; omega
theorem sizeL_take_le (l : List PairL) (k : Nat) : sizeL (l.take k) ≤ sizeL l := by
  induction l generalizing k with
  | nil => simp [sizeL]
  | cons q l ih =>
    cases k with
    | zero => simp [sizeL]
    | succ k => simp [sizeL]; exact ih k
theorem PairsAt.below {w w' : World} {v : Value} {l : List PairL} (h : PairsAt w v l) (hb : Below w.heap.size w w') : PairsAt w' v l := by
  obtain ⟨a, cap, hv, hc⟩ := h
  refine ⟨a, cap, hv, fun i p hp => ?_⟩
  obtain ⟨b, off, ha, h1, h2⟩ := hc i p hp
  exact ⟨b, off, ha, by rw [hb.cell (World.block_lt_of_cell? w _ h1)]; exact h1, by rw [hb.cell (World.block_lt_of_cell? w _ h2)]; exact h2⟩
end Go.Proofs.YtfgpigblnkanpaaGreatDoor

namespace Go.Proofs.YtfgpigblnkanpaaGreatDoor
open Go.RowKit

theorem add_run (a b : List UInt8) (h : a.length + b.length ≤ 9223372036854775807) (w1 : World) : (Op.stringOp .add (str a) (str b)).run Tryz.prog w1 = .ok (.string (str (a ++ b))) w1 := by
  have e1 := str_size a
  have e2 := str_size b
  have e3 : ¬ (((str a).size + (str b).size : Nat) : Int) > IntKind.i64.max := by rw [e1, e2]; show ¬ _ > (9223372036854775807 : Int); omega
  simp only [Op.stringOp]
  rw [if_neg e3, str_append]
  rfl
theorem slice_pre (l : List UInt8) (p : Nat) (h : p ≤ l.length) (w' : World) : (Instr.slice 9 (.string (str l)) none (some (.int .i64 (p : Int))) none).run Tryz.prog w' = .ok (strV (l.take p)) w' := by
  have e := str_size l
  have hx : (str l).extract 0 p = str (l.take p) := by rw [str_extract]; simp
  have h1 : (p : Int) ≤ l.length := by omega
  have h0 : (0 : Int) ≤ p := by omega
  go_simp
theorem conv_one (X : UInt8) (w1 : World) : (convert 140 9 (.slice (some ⟨w1.heap.size, 0, none⟩) 1 1)).run Tryz.prog (w1.alloc (.cells #[.int .u8 X.toNat] 5)) = .ok (.string (str [X])) (w1.alloc (.cells #[.int .u8 X.toNat] 5)) := conv_bytes (Blk.new w1 [.int .u8 (X.toNat : Int)] 5) Tryz.underlying140 Tryz.underlying5 Tryz.underlying9 [X] [] _ _ rfl rfl
theorem conv_one' (X : UInt8) (w1 : World) : (convert 140 9 (.slice (some ⟨w1.heap.size, 0, none⟩) 1 1)).run Tryz.prog (w1.alloc (.cells #[.int .u8 X.toNat] 5)).drew = .ok (.string (str [X])) (w1.alloc (.cells #[.int .u8 X.toNat] 5)).drew := conv_bytes (Blk.new w1 [.int .u8 (X.toNat : Int)] 5).drew Tryz.underlying140 Tryz.underlying5 Tryz.underlying9 [X] [] _ _ rfl rfl
end Go.Proofs.YtfgpigblnkanpaaGreatDoor
