/- The walk of the statements' works: numbers and a pair, once and for all. -/
import Derived.Test.YtifdibkpaeocfaaGreatDoorUnpack2
import Derived.Test.YtifdibkpaeocfaaGreatDoorPack
import Derived.Test.YtifdibkpaeocfaaGreatDoorKit
namespace Go.Proofs.YtifdibkpaeocfaaGreatDoor
open Go.RowKit

def worksP : List PairL := [([97, 98], [120]), ([97, 98, 99], [])]
def worksB : List UInt8 := [2, 0, 2, 97, 98, 1, 120, 2, 1, 99, 0]
theorem worksGo : packGo 0 [] (uintL worksP.length) worksP = .inl worksB := by
  have u0 : uintL 0 = [0] := uintL_lt (by decide)
  have u1 : uintL 1 = [1] := uintL_lt (by decide)
  have u2 : uintL 2 = [2] := uintL_lt (by decide)
  have c1 : cpl [] [97, 98] = 0 := by decide
  have c2 : cpl [97, 98] [97, 98, 99] = 2 := by decide
  have k : kle [97, 98, 99] [97, 98] = false := by decide
  simp [packGo, worksP, worksB, pairBytes, u0, u1, u2, c1, c2, k]
def worksT : List UInt8 := worksB ++ crcTail worksB
theorem worksPack : packAns worksP = .tuple #[strV worksT, .nilIface] := packAns_out (by decide) worksGo
theorem worksUnpack : unpackL worksT = (worksP, 0) := by decide +kernel
theorem worksRead : readU 0 0 [172, 2] = (300, 2, 0) := by decide
theorem worksSum : crc [49, 50, 51, 52, 53, 54, 55, 56, 57] = 3808858755 := by decide +kernel
theorem worksInt : uintL (zig (-1)) = [1] := uintL_lt (by decide)
theorem worksLen : worksT.length = 15 := by decide
theorem PairsAt.works {w : World} {b : Nat} {t : TypeId} (h : Blk w b [strV [97, 98], strV [120], strV [97, 98, 99], strV []] t) (cap : Nat) : PairsAt w (.slice (some ⟨b, 0, none⟩) 2 cap) worksP := by
  refine ⟨_, cap, rfl, fun i p hp => ⟨b, 0, rfl, ?_⟩⟩
  rw [h.cell, h.cell]
  match i, hp with
  | 0, hp => cases hp; exact ⟨rfl, rfl⟩
  | 1, hp => cases hp; exact ⟨rfl, rfl⟩
  | i + 2, hp => simp [worksP] at hp
theorem worksOk : PairsOk worksP := by
  intro p hp
  simp [worksP] at hp
  rcases hp with rfl | rfl <;> decide

set_option maxHeartbeats 2000000 in
set_option maxRecDepth 100000 in
theorem works_any (w : World) : Calls Tryz.prog 7 #[] w fun e w' => e = .returned (.bool true) ∧ Below w.heap.size w w' := by
  go_enter Tryz.func7, Tryz.ntmps7
  go_wp2_with (fail)
  refine (Pack_any worksP _ _ ?p1 worksOk (by decide)).mono ?_
  case p1 => exact PairsAt.works (Blk.new _ _ _) 2
  rintro e w1 ⟨rfl, hb1⟩
  rw [worksPack]
  replace hb1 : Below w.heap.size w w1 := ((Below.refl _ _).alloc (Nat.le_refl _) _).trans (hb1.mono (by simp))
  go_wp2_with (fail)
  refine (Unpack_any worksT _ (by rw [worksLen]; omega)).mono ?_
  rintro e w2 ⟨v, rfl, hv, hb2, _⟩
  rw [worksUnpack] at hv ⊢
  rw [show errV (worksP, 0).2 = .nilIface from rfl]
  have hb2' := hb1.trans (hb2.mono hb1.size)
  go_wp2_with (fail)
  refine (ReadUint_str [172, 2] _ (by decide)).mono ?_
  rintro e w3 ⟨rfl, rfl⟩
  rw [worksRead]
  rw [show errV ((300, 2, 0) : Nat × Nat × Nat).2.2 = .nilIface from rfl]
  have e15 : (str worksT).size = 15 := by rw [str_size, worksLen]
  have HV := Lib.hid hv
  clear hv
  go_wp2_with (fail)
  have hbs := hb1.size
  have hbt := hb2'.size
  refine (SamePairs_any worksP worksP _ _ _ (PairsAt.below (PairsAt.own HV.out) ((Below.refl _ _).alloc (Nat.le_refl _) _)) (PairsAt.works (Blk.new _ _ _) 2) (by decide)).mono ?_
  rintro e w4 ⟨rfl, hb4⟩
  rw [show decide (worksP = worksP) = true from by simp]
  have hb4' : Below w.heap.size w w4 := (hb2'.alloc hbt _).trans (hb4.mono (by simp; omega))
  go_wp2_with (fail)
  refine (Sum_any _ _ (by decide)).mono ?_
  rintro e w5 ⟨rfl, hb5⟩
  have hsum : ((crc (ByteArray.mk #[49, 50, 51, 52, 53, 54, 55, 56, 57]).data.toList : Nat) : Int) = 3808858755 := by
    rw [show (ByteArray.mk #[49, 50, 51, 52, 53, 54, 55, 56, 57]).data.toList = [49, 50, 51, 52, 53, 54, 55, 56, 57] from rfl, worksSum]; rfl
  rw [hsum]
  have hb5' := hb4'.trans (hb5.mono hb4'.size)
  go_wp2_with (fail)
  refine (Int_any (-1) _ (by show _ ≤ _; decide) (by show _ ≤ _; decide)).mono ?_
  rintro e w6 ⟨rfl, hb6⟩
  rw [worksInt]
  have hone : ((str [1]).toList == [1]) = true := by rw [toList_str]; rfl
  go_wp2
  go_ret
  exact ⟨rfl, hb5'.trans (hb6.mono hb5'.size)⟩
end Go.Proofs.YtifdibkpaeocfaaGreatDoor
