/- The walk of the statement CodecNumbers. -/
import Derived.Test.YtifdibkpaeocfaaGreatDoorWorks
import Derived.Test.YtifdibkpaeocfaaGreatDoorRef2
namespace Go.Proofs.YtifdibkpaeocfaaGreatDoor
open Go.RowKit

set_option maxHeartbeats 2000000 in
set_option maxRecDepth 100000 in
theorem CodecNumbers_any (n : Nat) (m : Int) (l : List UInt8) (w : World) (hn : n < 18446744073709551616) (h0 : -9223372036854775808 ≤ m) (h1 : m ≤ 9223372036854775807) : Calls Tryz.prog 23 #[.int .u64 n, .int .i64 m, .string (str l)] w fun e w' => e = .returned (.bool true) ∧ Below w.heap.size w w' := by
  obtain ⟨k, hk, k0, k1⟩ : ∃ k : Int, IntKind.i64.wrap (n : Int) = k ∧ -9223372036854775808 ≤ k ∧ k ≤ 9223372036854775807 := ⟨_, rfl, by rw [IntKind.wrap_i64]; omega, by rw [IntKind.wrap_i64]; omega⟩
  have hl : (l.take 65536).length ≤ 65536 := by simp; omega
  have e1 := str_size (l.take 65536)
  go_enter Tryz.func23, Tryz.ntmps23
  go_wp2_with (fail)
  refine (Head_any l 65536 _ (by omega)).mono ?_
  rintro e w1 ⟨rfl, hb1⟩
  generalize l.take 65536 = s at *
  have heq : ∀ u, ((str u).toList == (str u).toList) = true := fun u => by simp
  have hB := hb1
  clear hb1
  go_wp2_with (fail)
  refine (Uint_of _ n _ rfl (by show _ < _; exact hn)).mono ?_
  rintro e w2 ⟨rfl, hb⟩
  replace hB := hB.trans (hb.mono hB.size)
  clear hb
  go_wp2_with (fail)
  refine (refUint_any n _ hn).mono ?_
  rintro e w3 ⟨rfl, hb⟩
  replace hB := hB.trans (hb.mono hB.size)
  clear hb
  go_wp2_with (fail)
  refine (Int_any m _ (by show _ ≤ _; exact h0) (by show _ ≤ _; exact h1)).mono ?_
  rintro e w4 ⟨rfl, hb⟩
  replace hB := hB.trans (hb.mono hB.size)
  clear hb
  go_wp2_with (fail)
  refine (refInt_any m _ h0 h1).mono ?_
  rintro e w5 ⟨rfl, hb⟩
  replace hB := hB.trans (hb.mono hB.size)
  clear hb
  go_wp2_with (fail)
  refine (Sum_any (str s) _ (by omega)).mono ?_
  rintro e w6 ⟨rfl, hb⟩
  replace hB := hB.trans (hb.mono hB.size)
  clear hb
  rw [str_data]
  go_wp2_with (fail)
  refine (refSum_any s _ (by omega)).mono ?_
  rintro e w7 ⟨rfl, rfl⟩
  go_wp2_with (fail)
  refine (Int_any k _ (by show _ ≤ _; exact k0) (by show _ ≤ _; exact k1)).mono ?_
  rintro e w8 ⟨rfl, hb⟩
  replace hB := hB.trans (hb.mono hB.size)
  clear hb
  go_wp2_with (fail)
  refine (refInt_any k _ k0 k1).mono ?_
  rintro e w9 ⟨rfl, hb⟩
  replace hB := hB.trans (hb.mono hB.size)
  clear hb
  go_wp2_with (fail)
  refine (works_any _).mono ?_
  rintro e w10 ⟨rfl, hb⟩
  replace hB := hB.trans (hb.mono hB.size)
  clear hb
  go_wp2
  go_ret
  exact ⟨rfl, hB⟩
end Go.Proofs.YtifdibkpaeocfaaGreatDoor
