/- The walks of the document's Uint, Int and Sum, over this translation. -/
import Derived.Test.YtifdibkpaeocfaaGreatDoorB
import Derived.Test.YtifdibkpaeocfaaGreatDoorRev
import Derived.Test.YtifdibkpaeocfaaGreatDoorPk
import Derived.Deep.RegionWith
import Derived.Deep.RegionHeld3
import Derived.IntWalk
namespace Go.Proofs.YtifdibkpaeocfaaGreatDoor
open Go.RowKit

theorem below_undrew' {B : Nat} {w w' : World} (h : Below B w.drew w') : Below B w w' := ⟨h.os, h.tape, h.output, h.size, h.block⟩

set_option maxRecDepth 100000 in
theorem refUint_any (n : Nat) : ∀ w : World, n < 18446744073709551616 → Calls Tryz.prog 26 #[.int .u64 n] w fun e w' => e = .returned (strV (uintL n)) ∧ Below w.heap.size w w' := by
  induction n using Nat.strongRecOn with
  | ind n ih =>
    intro w hn
    by_cases h : n < 128
    · have hcv : (convert 26 9 (.slice (some ⟨w.heap.size, 0, none⟩) 1 1)).run Tryz.prog (w.alloc (.cells #[.int .u8 n] 5)) = .ok (strV (uintL n)) (w.alloc (.cells #[.int .u8 n] 5)) := by
        refine conv_bytes (Blk.new w [.int .u8 (n : Int)] 5) Tryz.underlying26 Tryz.underlying5 Tryz.underlying9 (uintL n) [] _ _ ?_ ?_
        · rw [uintL_lt h]; rfl
        · rw [uintL_lt h, byteV_small (by omega)]; rfl
      go_enter Tryz.func26, Tryz.ntmps26
      go_wp2
      go_ret
      exact ⟨rfl, (Below.refl _ _).alloc (Nat.le_refl _) _⟩
    · have hrec := fun w => ih (n / 128) (by omega) w (by omega)
      have hlen := uintL_len (n := n / 128) (by omega)
      have hq : IntKind.u64.wrap ((n : Int) / 128) = ((n / 128 : Nat) : Int) := by rw [u64_in (by omega) (by omega)]; omega
      obtain ⟨c, hc⟩ : ∃ c : UInt8, c = (n % 128 + 128).toUInt8 := ⟨_, rfl⟩
      obtain ⟨R, hR⟩ : ∃ R, R = uintL (n / 128) := ⟨_, rfl⟩
      rw [← hR] at hrec hlen
      have ha : uintL n = c :: R := by rw [uintL_ge h, hc, hR]
      obtain ⟨X, hX, hXv⟩ : ∃ X : Int, IntKind.u8.wrap (IntKind.u8.wrap ((n : Int).tmod 128) + 128) = X ∧ Value.int .u8 X = byteV c := by
        refine ⟨_, rfl, ?_⟩
        rw [byteV, hc, toUInt8_toNat_lt (by omega)]
        refine int_eq ?_
        rw [Int.tmod_eq_emod_of_nonneg (by omega), IntKind.wrap_u8, IntKind.wrap_u8]
        omega
      have cvB : ∀ w1 b, Blk w1 b [.int .u8 X] 5 → (convert 26 9 (.slice (some ⟨b, 0, none⟩) 1 1)).run Tryz.prog w1 = .ok (.string (str [c])) w1 := by
        intro w1 b hb
        refine conv_bytes hb Tryz.underlying26 Tryz.underlying5 Tryz.underlying9 [c] [] _ _ rfl ?_
        rw [hXv]; rfl
      have cv1 : ∀ w1 : World, (convert 26 9 (.slice (some ⟨w1.heap.size, 0, none⟩) 1 1)).run Tryz.prog (w1.alloc (.cells #[.int .u8 X] 5)) = .ok (.string (str [c])) (w1.alloc (.cells #[.int .u8 X] 5)) := fun w1 => cvB _ _ (Blk.new w1 [_] _)
      have cv2 : ∀ w1 : World, (convert 26 9 (.slice (some ⟨w1.heap.size, 0, none⟩) 1 1)).run Tryz.prog (w1.alloc (.cells #[.int .u8 X] 5)).drew = .ok (.string (str [c])) (w1.alloc (.cells #[.int .u8 X] 5)).drew := fun w1 => cvB _ _ (Blk.new w1 [_] _).drew
      have hadd : ∀ w1, (Op.stringOp .add (str [c]) (str R)).run Tryz.prog w1 = .ok (.string (str (c :: R))) w1 := by
        intro w1
        have e1 : (str [c]).size = 1 := rfl
        have e2 := str_size R
        have e3 : ¬ (((str [c]).size + (str R).size : Nat) : Int) > IntKind.i64.max := by rw [e1, e2]; show ¬ _ > (9223372036854775807 : Int); omega
        simp only [Op.stringOp]
        rw [if_neg e3, str_append]
        rfl
      rw [ha]
      have HB := Lib.hid cvB
      have HN := Lib.hid hc
      have HM := Lib.hid hR
      have HO := Lib.hid ha
      clear cvB hc hR ha hXv hlen
      go_enter Tryz.func26, Tryz.ntmps26
      go_wp2_with (fail)
      go_region_with (go_at_call 26; refine (hrec _).mono ?_; rintro e w1 ⟨rfl, hb1⟩; first | (have cv3 := HB.out w1 w.heap.size (Blk.below (Blk.drew (Blk.new w [.int .u8 X] 5)) hb1 (by simp))) | skip)
      all_goals
        go_wp2
        go_ret
        refine ⟨rfl, ?_⟩
        first
          | exact (below_undrew' hb1).alloc hb1.size _
          | exact ((Below.refl w.heap.size w).alloc (Nat.le_refl _) _).trans ((below_undrew' hb1).mono (by simp))

set_option maxRecDepth 100000 in
theorem refsigned_any (n : Int) (w : World) (h0 : -9223372036854775808 ≤ n) (h1 : n ≤ 9223372036854775807) : Calls Tryz.prog 112 #[.int .i64 n] w fun e w' => e = .returned (.int .u64 (zig n : Nat)) ∧ w = w' := by
  by_cases h : 0 ≤ n
  · have hz : (zig n : Int) = 2 * n := by rw [zig, if_pos h]; omega
    have HZ := Lib.hid hz
    clear hz
    go_enter Tryz.func112, Tryz.ntmps112
    go_wp2
    go_ret
    exact ⟨congrArg Ending.returned (int_eq (by rw [HZ.out]; first | done | omega)), rfl⟩
  · have hz : (zig n : Int) = -2 * n - 1 := by rw [zig, if_neg h]; omega
    have HZ := Lib.hid hz
    clear hz
    go_enter Tryz.func112, Tryz.ntmps112
    go_wp2
    go_ret
    exact ⟨congrArg Ending.returned (int_eq (by rw [HZ.out]; first | done | omega)), rfl⟩
set_option maxRecDepth 100000 in
theorem refInt_any (n : Int) (w : World) (h0 : -9223372036854775808 ≤ n) (h1 : n ≤ 9223372036854775807) : Calls Tryz.prog 72 #[.int .i64 n] w fun e w' => e = .returned (strV (uintL (zig n))) ∧ Below w.heap.size w w' := by
  have hz := zig_lt h0 h1
  generalize hzz : zig n = z at *
  have HZ := Lib.hid hzz
  clear hzz
  go_enter Tryz.func72, Tryz.ntmps72
  go_wp2_with (fail)
  refine (refsigned_any n _ h0 h1).mono ?_
  rintro e w1 ⟨rfl, rfl⟩
  rw [HZ.out]
  go_wp2_with (fail)
  refine (refUint_any z _ hz).mono ?_
  rintro e w1 ⟨rfl, hb⟩
  go_wp2
  go_ret
  exact ⟨rfl, hb⟩
end Go.Proofs.YtifdibkpaeocfaaGreatDoor
