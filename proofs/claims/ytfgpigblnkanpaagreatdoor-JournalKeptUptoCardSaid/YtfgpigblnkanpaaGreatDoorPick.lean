/- The walk of the statements' Pick. -/
import Derived.Test.YtfgpigblnkanpaaGreatDoorB
import Derived.RowKitTokens
namespace Go.Proofs.YtfgpigblnkanpaaGreatDoor
open Go.RowKit
set_option maxRecDepth 100000 in
theorem Pick_any (k : Int) (n : Nat) (w : World) (hn : 1 ≤ n) (hs : n ≤ 140737488351232) : Calls Tryz.prog 25 #[.int .i64 k, .int .i64 n] w fun e w' => e = .returned (.int .i64 (k % n)) ∧ w = w' := by
  have hb1 : -(n : Int) < k.tmod n := by have := Int.lt_tmod_of_pos k (b := n) (by omega); omega
  have hb2 : k.tmod n < n := Int.tmod_lt_of_pos k (by omega)
  have he : k % n = if k.tmod n < 0 then k.tmod n + n else k.tmod n := by
    have h1 := Int.tmod_eq_emod (a := k) (b := n)
    rw [Int.natAbs_natCast] at h1
    have h2 := Int.emod_nonneg k (b := n) (by omega)
    have h3 := Int.emod_lt_of_pos k (b := n) (by omega)
    split
    · rename_i h
      split at h1 <;> omega
    · rename_i h
      split at h1 <;> omega
  have HE := Lib.hid he
  clear he
  by_cases h : k.tmod n < 0
  · go_enter Tryz.func25, Tryz.ntmps25
    go_wp2
    go_ret
    exact ⟨congrArg Ending.returned (int_eq (by rw [HE.out, if_pos h])), rfl⟩
  · go_enter Tryz.func25, Tryz.ntmps25
    go_wp2
    go_ret
    exact ⟨congrArg Ending.returned (int_eq (by rw [HE.out, if_neg (by omega)])), rfl⟩
end Go.Proofs.YtfgpigblnkanpaaGreatDoor
