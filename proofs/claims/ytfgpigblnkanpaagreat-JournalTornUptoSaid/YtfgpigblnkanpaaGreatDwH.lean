/- Plain facts about the last bits of a number; what lies in memory while the power fails. -/
import Derived.Test.YtfgpigblnkanpaaGreatDwG
namespace Go.Proofs.YtfgpigblnkanpaaGreat
open Go.RowKit Go.Maps Go.Shelf

theorem bits_and (x : Int) (m : Nat) (hm : m < 9223372036854775808) : bits .and .i64 x m = ((x % 18446744073709551616).toNat &&& m : Nat) := by
  show IntKind.i64.wrap ((BitVec.ofInt 64 x &&& BitVec.ofInt 64 (m : Int)).toNat : Int) = _
  have h1 : (BitVec.ofInt 64 x).toNat = (x % 18446744073709551616).toNat := by rw [BitVec.toNat_ofInt]; rfl
  have h2 : (BitVec.ofInt 64 (m : Int)).toNat = m := by
    rw [BitVec.ofInt_natCast, BitVec.toNat_ofNat]; exact Nat.mod_eq_of_lt (by omega)
  rw [BitVec.toNat_and, h1, h2, IntKind.wrap_i64]
  have h3 : (x % 18446744073709551616).toNat &&& m ≤ m := Nat.and_le_right
  omega
theorem bits_and1 (x : Int) : bits .and .i64 x 1 = x % 2 := by
  have h := bits_and x 1 (by omega)
  rw [Nat.and_one_is_mod] at h
  have e : ((1 : Nat) : Int) = 1 := rfl
  rw [e] at h
  rw [h]; omega
theorem bits_and3 (x : Int) : bits .and .i64 x 3 = x % 4 := by
  have h := bits_and x 3 (by omega)
  have h4 : (x % 18446744073709551616).toNat &&& 3 = (x % 18446744073709551616).toNat % 4 := Nat.and_two_pow_sub_one_eq_mod _ 2
  rw [h4] at h
  have e : ((3 : Nat) : Int) = 3 := rfl
  rw [e] at h
  rw [h]; omega
theorem headD_drop (l : List Int) (k : Nat) : (l.drop k).headD 0 = keepAt l k := by
  unfold keepAt
  rw [List.getD_eq_getElem?_getD, List.headD_eq_head?_getD, List.head?_drop]
end Go.Proofs.YtfgpigblnkanpaaGreat
