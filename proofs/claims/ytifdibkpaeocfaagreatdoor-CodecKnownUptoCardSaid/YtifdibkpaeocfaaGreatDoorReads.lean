/- The walk of the statement CodecReads. -/
import Derived.Test.YtifdibkpaeocfaaGreatDoorWorks
import Derived.Test.YtifdibkpaeocfaaGreatDoorRefRead
import Derived.Test.YtifdibkpaeocfaaGreatDoorPlain
namespace Go.Proofs.YtifdibkpaeocfaaGreatDoor
open Go.RowKit

/-- The walk, by what the four readings answer. -/
theorem CodecReads_of (l : List UInt8) (k : Int) (n x no : Nat) (m : Int) (w : World) (hsmall : l.length ≤ 65536) (hno : no ≤ 25) (hg : ErrorLaid w)
    (hR : Hid (∀ w, Calls Tryz.prog 20 #[.string (str l), .int .i64 k] w fun e w' => e = .returned (.tuple #[.int .u64 n, .int .i64 x, errV no]) ∧ w = w'))
    (hI : Hid (∀ w, Calls Tryz.prog 73 #[.string (str l), .int .i64 k] w fun e w' => e = .returned (.tuple #[.int .i64 m, .int .i64 x, errV no]) ∧ w = w'))
    (hr : Hid (∀ w, Calls Tryz.prog 74 #[.string (str l), .int .i64 k] w fun e w' => e = .returned (.tuple #[.int .u64 n, .int .i64 x, .int .i64 no]) ∧ w = w'))
    (hi : Hid (∀ w, Calls Tryz.prog 75 #[.string (str l), .int .i64 k] w fun e w' => e = .returned (.tuple #[.int .i64 m, .int .i64 x, .int .i64 no]) ∧ w = w')) :
    Calls Tryz.prog 25 #[.string (str l), .int .i64 k] w fun e w' => e = .returned (.bool true) ∧ Below w.heap.size w w' := by
  have e1 := str_size l
  obtain ⟨V, hV⟩ : ∃ V, errV no = V := ⟨_, rfl⟩
  have hpl := fun w h => Plain_same no w hno h
  rw [hV] at hR hI hpl
  have HP := Lib.hid hpl
  clear hpl hV
  go_enter Tryz.func25, Tryz.ntmps25
  go_wp2_with (fail)
  refine (hR.out _).mono ?_
  rintro e w1 ⟨rfl, rfl⟩
  go_wp2_with (fail)
  refine (hI.out _).mono ?_
  rintro e w1 ⟨rfl, rfl⟩
  go_wp2_with (fail)
  refine (hr.out _).mono ?_
  rintro e w1 ⟨rfl, rfl⟩
  go_wp2_with (fail)
  refine (hi.out _).mono ?_
  rintro e w1 ⟨rfl, rfl⟩
  go_wp2_with (fail)
  refine (HP.out _ hg).mono ?_
  rintro e w1 ⟨rfl, hb1⟩
  go_wp2_with (fail)
  refine (HP.out _ (hg.below hb1)).mono ?_
  rintro e w2 ⟨rfl, hb2⟩
  have hB := hb1.trans (hb2.mono hb1.size)
  go_wp2_with (fail)
  refine (works_any _).mono ?_
  rintro e w3 ⟨rfl, hb3⟩
  go_wp2
  go_ret
  exact ⟨rfl, hB.trans (hb3.mono hB.size)⟩

set_option maxHeartbeats 1000000 in
set_option maxRecDepth 100000 in
theorem CodecReads_any (l : List UInt8) (k : Int) (w : World) (hs : l.length ≤ 9223372036854775807) (hg : ErrorLaid w) : Calls Tryz.prog 25 #[.string (str l), .int .i64 k] w fun e w' => e = .returned (.bool true) ∧ Below w.heap.size w w' := by
  have e1 := str_size l
  by_cases hbig : 65536 < l.length
  · go_enter Tryz.func25, Tryz.ntmps25
    go_wp2
    go_ret
    exact ⟨rfl, Below.refl _ _⟩
  · by_cases hout : k < 0 ∨ (l.length : Int) < k
    · have hR : ∀ w, Calls Tryz.prog 20 #[.string (str l), .int .i64 k] w fun e w' => e = .returned (.tuple #[.int .u64 (0 : Nat), .int .i64 (0 : Nat), errV 1]) ∧ w = w' := fun w => ReadUint_out _ _ w (by rw [e1]; exact hout)
      have hr : ∀ w, Calls Tryz.prog 74 #[.string (str l), .int .i64 k] w fun e w' => e = .returned (.tuple #[.int .u64 (0 : Nat), .int .i64 (0 : Nat), .int .i64 (1 : Nat)]) ∧ w = w' := fun w => refReadUint_out _ _ w (by rw [e1]; exact hout)
      exact CodecReads_of l k 0 0 1 0 w (by omega) (by omega) hg hR (fun w => ReadInt_of _ _ 0 0 _ w (by show _ < _; omega) hR) hr (fun w => refReadInt_bad _ _ 0 0 1 w (by omega) hr)
    · obtain ⟨p, rfl⟩ : ∃ p : Nat, k = p := ⟨k.toNat, by omega⟩
      have hp : p ≤ l.length := by omega
      have hR := fun w => ReadUint_in (str l) p w (by rw [e1]; exact hp) (by rw [e1]; exact hs)
      have hr := fun w => refReadUint_in (str l) p w (by rw [e1]; exact hp) (by rw [e1]; omega)
      rw [str_data] at hR hr
      by_cases he : (readU 0 0 (l.drop p)).2.2 = 0
      · obtain ⟨_, _, _, q4⟩ := readU_ok he
        rw [he] at hR hr
        exact CodecReads_of l p _ _ 0 _ w (by omega) (by omega) hg hR (fun w => ReadInt_of _ _ _ _ _ w q4 hR) hr (fun w => refReadInt_ok _ _ _ _ w q4 hr)
      · obtain ⟨q1, q2, q3⟩ := readU_bad0 _ 0 0 he
        rw [q1, q2] at hR hr
        exact CodecReads_of l p 0 0 _ 0 w (by omega) (by rcases q3 with q3 | q3 <;> omega) hg hR (fun w => ReadInt_of _ _ 0 0 _ w (by show _ < _; omega) hR) hr (fun w => refReadInt_bad _ _ 0 0 _ w he hr)
end Go.Proofs.YtifdibkpaeocfaaGreatDoor
