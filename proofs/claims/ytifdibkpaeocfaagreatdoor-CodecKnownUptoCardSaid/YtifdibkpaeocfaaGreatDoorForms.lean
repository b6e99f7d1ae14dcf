/- The walk of the statement CodecForms. -/
import Derived.Test.YtifdibkpaeocfaaGreatDoorWorks
import Derived.Test.YtifdibkpaeocfaaGreatDoorForm
import Derived.IntWalk
namespace Go.Proofs.YtifdibkpaeocfaaGreatDoor
open Go.RowKit

theorem below_undrewN {B n : Nat} {w w' : World} (h : Below B (w.drewN n) w') : Below B w w' := ⟨h.os, h.tape, h.output, h.size, h.block⟩
theorem zag_lo {n : Nat} (h : n < 18446744073709551616) : -9223372036854775808 ≤ zag n ∧ zag n ≤ 9223372036854775807 := by
  unfold zag; split <;> omega

set_option maxHeartbeats 2000000 in
set_option maxRecDepth 100000 in
theorem CodecForms_any (l : List UInt8) (k : Int) (w : World) (hs : l.length ≤ 9223372036854775807) (h0 : -9223372036854775808 ≤ k) (h1 : k ≤ 9223372036854775807) : Calls Tryz.prog 27 #[.string (str l), .int .i64 k] w fun e w' => e = .returned (.bool true) ∧ Below w.heap.size w w' := by
  have e1 := str_size l
  by_cases hbig : 65536 < l.length
  · go_enter Tryz.func27, Tryz.ntmps27
    go_wp2
    go_ret
    exact ⟨rfl, Below.refl _ _⟩
  · by_cases hout : k < 0 ∨ (l.length : Int) < k
    · have hR : ∀ w, Calls Tryz.prog 20 #[.string (str l), .int .i64 k] w fun e w' => e = .returned (.tuple #[.int .u64 0, .int .i64 0, .iface 90 (.int .i64 1)]) ∧ w = w' := fun w => ReadUint_out _ _ w (by rw [e1]; exact hout)
      have hI : ∀ w, Calls Tryz.prog 73 #[.string (str l), .int .i64 k] w fun e w' => e = .returned (.tuple #[.int .i64 0, .int .i64 0, .iface 90 (.int .i64 1)]) ∧ w = w' := fun w => ReadInt_of _ _ 0 0 _ w (by show _ < _; omega) hR
      have HR := Lib.hid hR
      have HI := Lib.hid hI
      clear hR hI
      go_enter Tryz.func27, Tryz.ntmps27
      go_wp2_with (fail)
      refine (HR.out _).mono ?_
      rintro e w1 ⟨rfl, rfl⟩
      go_wp2_with (fail)
      refine (HI.out _).mono ?_
      rintro e w1 ⟨rfl, rfl⟩
      go_wp2_with (fail)
      go_quiet (fail)
      go_wp2_with (fail)
      refine (works_any _).mono ?_
      rintro e w1 ⟨rfl, hb⟩
      go_wp2
      go_ret
      exact ⟨rfl, below_undrewN hb⟩
    · obtain ⟨p, rfl⟩ : ∃ p : Nat, k = p := ⟨k.toNat, by omega⟩
      have hp : p ≤ l.length := by omega
      have hR : ∀ w, Calls Tryz.prog 20 #[.string (str l), .int .i64 p] w fun e w' => e = .returned (.tuple #[.int .u64 (readU 0 0 (l.drop p)).1, .int .i64 (readU 0 0 (l.drop p)).2.1, errV (readU 0 0 (l.drop p)).2.2]) ∧ w = w' := fun w => ReadUint_in (str l) p w (by rw [e1]; exact hp) (by rw [e1]; exact hs)
      by_cases he : (readU 0 0 (l.drop p)).2.2 = 0
      · obtain ⟨q1, q2, q3, q4⟩ := readU_ok he
        have hf := readU_one he
        rw [List.length_drop] at q2
        simp only [he, show errV 0 = .nilIface from rfl] at hR
        generalize (readU 0 0 (l.drop p)).1 = n at *
        generalize (readU 0 0 (l.drop p)).2.1 = x at *
        have hI := fun w => ReadInt_of (str l) p n x _ w (by show _ < _; exact q4) hR
        obtain ⟨z1, z2⟩ := zag_lo q4
        have hz := zig_zag n
        generalize zag n = m at *
        have hex : (str l).extract p (p + x) = str (uintL n) := by
          rw [str_extract, hf]; congr 1; rw [List.drop_take]; congr 1; omega
        have HR := Lib.hid hR
        have HI := Lib.hid hI
        have HZ := Lib.hid hz
        clear hR hI hf hz he
        go_enter Tryz.func27, Tryz.ntmps27
        go_wp2_with (fail)
        refine (HR.out _).mono ?_
        rintro e w1 ⟨rfl, rfl⟩
        go_wp2_with (fail)
        refine (HI.out _).mono ?_
        rintro e w1 ⟨rfl, rfl⟩
        go_wp2_with (fail)
        go_quiet (fail)
        go_wp2_with (fail)
        have a1 : IntKind.i64.wrap ((p : Int) + x) = (p : Int) + x := IntWalk.i64_in _ (by omega)
        have a2 : (0 : Int) ≤ (p : Int) + x := by omega
        have a3 : ((p : Int) + x).toNat = p + x := by omega
        have a4 : (p : Int) + x ≤ l.length := by omega
        have a5 : (p : Int) ≤ (p : Int) + x := by omega
        go_region_held3 (fun w' => True) (exact trivial)
          (first
            | (go_at_call_of 67 (Value.int .u64 (n : Int)); refine (Uint_of _ n _ rfl (by show _ < _; exact q4)).mono ?_; rintro e w5 ⟨rfl, hb5⟩)
            | (go_at_call_of 22 (Value.int .i64 m); refine (Int_any m _ (by show _ ≤ _; exact z1) (by show _ ≤ _; exact z2)).mono ?_; rw [HZ.out]; rintro e w6 ⟨rfl, hb6⟩)
            | (go_at_call 7; refine (works_any _).mono ?_; rintro e w7 ⟨rfl, hb7⟩))
        go_wp2
        go_ret
        exact ⟨rfl, below_undrewN (((below_undrew hb5).trans (hb6.mono hb5.size)).trans (hb7.mono (Nat.le_trans hb5.size hb6.size)))⟩
      · obtain ⟨q1, q2, q3⟩ := readU_bad0 _ 0 0 he
        generalize (readU 0 0 (l.drop p)).2.2 = no at *
        have hev := errV_some he
        rw [q1, q2, hev] at hR
        have hI : ∀ w, Calls Tryz.prog 73 #[.string (str l), .int .i64 p] w fun e w' => e = .returned (.tuple #[.int .i64 0, .int .i64 0, .iface 90 (.int .i64 no)]) ∧ w = w' := fun w => ReadInt_of _ _ 0 0 _ w (by show _ < _; omega) hR
        have HR := Lib.hid hR
        have HI := Lib.hid hI
        clear hR hI he q1 q2 q3 hev
        go_enter Tryz.func27, Tryz.ntmps27
        go_wp2_with (fail)
        refine (HR.out _).mono ?_
        rintro e w1 ⟨rfl, rfl⟩
        go_wp2_with (fail)
        refine (HI.out _).mono ?_
        rintro e w1 ⟨rfl, rfl⟩
        go_wp2_with (fail)
        go_quiet (fail)
        go_wp2_with (fail)
        refine (works_any _).mono ?_
        rintro e w1 ⟨rfl, hb⟩
        go_wp2
        go_ret
        exact ⟨rfl, below_undrewN hb⟩
end Go.Proofs.YtifdibkpaeocfaaGreatDoor
