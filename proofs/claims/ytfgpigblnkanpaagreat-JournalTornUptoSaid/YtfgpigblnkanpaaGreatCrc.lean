/- The sum, without the program: a bit's step, a byte's step, as the table has them. No conditions. -/
import Derived.Test.YtfgpigblnkanpaaGreatA
namespace Go.Proofs.YtfgpigblnkanpaaGreat
open Go.RowKit

def crcBit (c : Nat) : Nat := (c / 2) ^^^ (if c % 2 = 1 then 2197175160 else 0)
def crcN : Nat → Nat → Nat
  | 0, c => c
  | k + 1, c => crcN k (crcBit c)
def crcStep (c : Nat) (b : UInt8) : Nat := (c / 256) ^^^ crcN 8 ((c % 256) ^^^ b.toNat)
def crcFold (c : Nat) (l : List UInt8) : Nat := l.foldl crcStep c
/-- The sum of bytes. -/
def crc (l : List UInt8) : Nat := 4294967295 - crcFold 4294967295 l
def crcTail (l : List UInt8) : List UInt8 := [(crc l).toUInt8, (crc l / 256).toUInt8, (crc l / 65536).toUInt8, (crc l / 16777216).toUInt8]

theorem crcN_succ (k c : Nat) : crcN (k + 1) c = crcBit (crcN k c) := by
  induction k generalizing c with
  | zero => rfl
  | succ k ih => rw [crcN, ih]; rfl

theorem crcBit_lt {c : Nat} (h : c < 4294967296) : crcBit c < 4294967296 := by
  unfold crcBit
  split
  · exact Nat.xor_lt_two_pow (n := 32) (by omega) (by omega)
  · rw [Nat.xor_zero]; omega
theorem crcN_lt {c : Nat} (k : Nat) (h : c < 4294967296) : crcN k c < 4294967296 := by
  induction k generalizing c with
  | zero => exact h
  | succ k ih => exact ih (crcBit_lt h)
theorem crcStep_lt {c : Nat} (b : UInt8) (h : c < 4294967296) : crcStep c b < 4294967296 := by
  have hb := b.toNat_lt
  exact Nat.xor_lt_two_pow (n := 32) (by omega) (crcN_lt 8 (by have := Nat.xor_lt_two_pow (x := c % 256) (y := b.toNat) (n := 8) (by omega) (by omega); omega))
theorem crcFold_lt {c : Nat} (l : List UInt8) (h : c < 4294967296) : crcFold c l < 4294967296 := by
  unfold crcFold
  induction l generalizing c with
  | nil => exact h
  | cons b l ih => exact ih (crcStep_lt b h)
theorem crc_lt (l : List UInt8) : crc l < 4294967296 := by unfold crc; omega

/-- A bit's step, as the walk spells it. -/
theorem crcBit_walk {c : Nat} (h : c < 4294967296) : bits .xor .u32 ((c : Int) / 2) (bits .and .u32 2197175160 (IntKind.u32.wrap (-(bits .and .u32 (c : Int) 1)))) = (crcBit c : Int) := by
  have e1 : bits .and .u32 (c : Int) 1 = ((c % 2 : Nat) : Int) := by
    have := u32_and_nat c 1 h (by omega)
    rw [Nat.and_one_is_mod] at this
    exact this
  have e2 : ((c : Int) / 2) = ((c / 2 : Nat) : Int) := by omega
  rw [e1, e2, IntKind.wrap_u32]
  unfold crcBit
  rcases Nat.mod_two_eq_zero_or_one c with h0 | h1
  · rw [h0, if_neg (by omega)]
    have e3 : bits .and .u32 2197175160 ((-((0 : Nat) : Int)) % 4294967296) = ((0 : Nat) : Int) := by
      have := u32_and_nat 2197175160 0 (by omega) (by omega)
      simpa using this
    rw [e3, u32_xor_nat _ _ (by omega) (by omega)]
  · rw [h1, if_pos rfl]
    have e3 : bits .and .u32 2197175160 ((-((1 : Nat) : Int)) % 4294967296) = ((2197175160 : Nat) : Int) := by
      have := u32_and_nat 2197175160 4294967295 (by omega) (by omega)
      exact this
    rw [e3, u32_xor_nat _ _ (by omega) (by omega)]

theorem xor_ones32 {x : Nat} (h : x < 4294967296) : 4294967295 ^^^ x = 4294967295 - x := by
  have h1 : 4294967295 - x = (BitVec.ofNat 32 4294967295 - BitVec.ofNat 32 x).toNat := by
    rw [BitVec.toNat_sub]; simp; omega
  have h2 : (BitVec.ofNat 32 4294967295 - BitVec.ofNat 32 x) = BitVec.ofNat 32 4294967295 ^^^ BitVec.ofNat 32 x := by
    have : BitVec.ofNat 32 4294967295 = BitVec.allOnes 32 := by decide
    rw [this, BitVec.allOnes_sub_eq_not, BitVec.allOnes_xor]
  rw [h1, h2, BitVec.toNat_xor]
  simp only [BitVec.toNat_ofNat]
  rw [Nat.mod_eq_of_lt (a := x) h]
theorem not_walk {x : Nat} (h : x < 4294967296) : bits .xor .u32 IntKind.u32.max (x : Int) = ((4294967295 - x : Nat) : Int) := by
  have e : IntKind.u32.max = ((4294967295 : Nat) : Int) := by decide
  rw [e, u32_xor_nat _ _ (by omega) h, xor_ones32 h]

/-- A byte's step, as the walk spells it. -/
theorem crcStep_walk {c : Nat} {b : UInt8} (h : c < 4294967296) : bits .xor .u32 ((c : Int) / 256) ((crcN 8 ((c % 256) ^^^ b.toNat) : Nat) : Int) = (crcStep c b : Int) := by
  have hb := b.toNat_lt
  have e2 : ((c : Int) / 256) = ((c / 256 : Nat) : Int) := by omega
  rw [e2, u32_xor_nat _ _ (by omega) (crcN_lt 8 (by have := Nat.xor_lt_two_pow (x := c % 256) (y := b.toNat) (n := 8) (by omega) (by omega); omega))]
  rfl

/-- The table's row, its first places filled. -/
def tabRow (k : Nat) : List Value := (List.range k).map (fun i => Value.int .u32 (crcN 8 i : Nat)) ++ List.replicate (256 - k) (Value.int .u32 0)
def tabA : Array Value := (tabRow 256).toArray
theorem tabRow_len {k : Nat} (h : k ≤ 256) : (tabRow k).length = 256 := by simp [tabRow]; omega
theorem tabRow_set {k : Nat} (h : k < 256) : (tabRow k).set k (.int .u32 (crcN 8 k : Nat)) = tabRow (k + 1) := by
  unfold tabRow
  rw [show 256 - k = (256 - (k + 1)) + 1 by omega, List.replicate_succ, List.range_succ, List.map_append]
  simp
theorem tabRow_get {k i : Nat} (h : i < k) : (tabRow k)[i]? = some (.int .u32 (crcN 8 i : Nat)) := by
  unfold tabRow
  rw [List.getElem?_append_left (by simpa using h), List.getElem?_map, List.getElem?_range h]
  rfl
theorem tabRow_get' {k i : Nat} (h : i < 256) (hk : k ≤ 256) : ∃ v, (tabRow k)[i]? = some v := ⟨_, List.getElem?_eq_getElem (by rw [tabRow_len hk]; exact h)⟩
def z256 : Array Value := (tabRow 0).toArray
theorem tabA_one : tabA.all (·.oneCell') = true := by
  rw [Array.all_eq_true_iff_forall_mem]
  intro v hv
  simp [tabA, tabRow] at hv
  obtain ⟨i, _, rfl⟩ := hv
  rfl
end Go.Proofs.YtfgpigblnkanpaaGreat
