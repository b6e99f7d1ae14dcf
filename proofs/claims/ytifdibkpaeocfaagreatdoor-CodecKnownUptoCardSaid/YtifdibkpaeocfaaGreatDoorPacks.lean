/- The walk of the statement CodecPacks. -/
import Derived.Test.YtifdibkpaeocfaaGreatDoorWorks
import Derived.Test.YtifdibkpaeocfaaGreatDoorFew
import Derived.Test.YtifdibkpaeocfaaGreatDoorLent2
import Derived.Test.YtifdibkpaeocfaaGreatDoorRefPack
import Derived.Test.YtifdibkpaeocfaaGreatDoorPlain
namespace Go.Proofs.YtifdibkpaeocfaaGreatDoor
open Go.RowKit

set_option maxHeartbeats 2000000 in
set_option maxRecDepth 100000 in
theorem CodecPacks_any (l : List PairL) (v : Value) (w : World) (hl : PairsAt w v l) (hok : PairsOk l) (hn : l.length * 32 ≤ 140737488351232) (hg : ErrorLaid w) : Calls Tryz.prog 29 #[v] w fun e w' => e = .returned (.bool true) ∧ Below w.heap.size w w' := by
  obtain ⟨a, cap, hv⟩ := PairsAt.size hl
  have HL := Lib.hid hl
  clear hl
  subst hv
  by_cases hfew : l.length + sizeL l ≤ 65536
  · have hd : decide (l.length + sizeL l ≤ 65536) = true := by simpa using hfew
    have HD := Lib.hid hd
    clear hd
    have hle : ∀ u, ((str u).toList == (str u).toList) = true := fun u => by simp
    have hl0 : ((str []).toList == (ByteArray.mk #[]).toList) = true := by rw [toList_str, ByteArray.toList_eq]; rfl
    have hl1 : ((str []).toList == []) = true := by rw [toList_str]; rfl
    cases hgo : packGo 0 [] (uintL l.length) l with
    | inl out =>
      have HA := Lib.hid (packAns_out (by omega) hgo)
      have HR := Lib.hid (refPackAns_out (by omega) hgo)
      clear hgo
      generalize out ++ crcTail out = S at *
      go_enter Tryz.func29, Tryz.ntmps29
      go_wp2_with (fail)
      refine (few_any l _ _ HL.out hok hn).mono ?_
      rintro e w1 ⟨rfl, hB⟩
      rw [HD.out]
      go_wp2_with (fail)
      refine (LentPairs_any l _ _ (HL.out.below hB) (by omega)).mono ?_
      rintro e w2 ⟨u, rfl, hu, hb⟩
      replace hB := hB.trans (hb.mono hB.size)
      clear hb
      go_wp2_with (fail)
      refine (Pack_any l u _ hu.pairs hok hn).mono ?_
      rintro e w3 ⟨rfl, hb⟩
      rw [HA.out]
      replace hB := hB.trans (hb.mono hB.size)
      replace hu := hu.below hb
      clear hb
      go_wp2_with (fail)
      refine (KeptPairs_any l _ u _ _ hu (HL.out.below hB) (by omega)).mono ?_
      rintro e w4 ⟨rfl, hb⟩
      replace hB := hB.trans (hb.mono hB.size)
      replace hu := hu.below hb
      clear hb
      go_wp2_with (fail)
      refine (Pack_any l u _ hu.pairs hok hn).mono ?_
      rintro e w5 ⟨rfl, hb⟩
      rw [HA.out]
      replace hB := hB.trans (hb.mono hB.size)
      clear hb hu
      go_wp2_with (fail)
      refine (refPack_any l _ _ (HL.out.below hB) hok hn).mono ?_
      rintro e w6 ⟨rfl, hb⟩
      rw [HR.out]
      replace hB := hB.trans (hb.mono hB.size)
      clear hb
      go_wp2_with (fail)
      refine (Plain_same 0 _ (by omega) (hg.below hB)).mono ?_
      rintro e w7 ⟨rfl, hb⟩
      replace hB := hB.trans (hb.mono hB.size)
      clear hb
      go_wp2_with (fail)
      refine (Plain_same 0 _ (by omega) (hg.below hB)).mono ?_
      rintro e w8 ⟨rfl, hb⟩
      replace hB := hB.trans (hb.mono hB.size)
      clear hb
      go_wp2_with (fail)
      refine (works_any _).mono ?_
      rintro e w9 ⟨rfl, hb⟩
      replace hB := hB.trans (hb.mono hB.size)
      go_wp2
      go_ret
      exact ⟨rfl, hB⟩
    | inr i =>
      have HA := Lib.hid (packAns_fault (by omega) hgo)
      have HR := Lib.hid (refPackAns_fault (by omega) hgo)
      have hAt := fun w h => At_fault 1 0 (i : Int) w (by omega) (by omega) h
      have HAT := Lib.hid hAt
      clear hgo hAt
      unfold faultV at HA
      unfold faultsV at HAT
      go_enter Tryz.func29, Tryz.ntmps29
      go_wp2_with (fail)
      refine (few_any l _ _ HL.out hok hn).mono ?_
      rintro e w1 ⟨rfl, hB⟩
      rw [HD.out]
      go_wp2_with (fail)
      refine (LentPairs_any l _ _ (HL.out.below hB) (by omega)).mono ?_
      rintro e w2 ⟨u, rfl, hu, hb⟩
      replace hB := hB.trans (hb.mono hB.size)
      clear hb
      go_wp2_with (fail)
      refine (Pack_any l u _ hu.pairs hok hn).mono ?_
      rintro e w3 ⟨rfl, hb⟩
      rw [HA.out]
      replace hB := hB.trans (hb.mono hB.size)
      replace hu := hu.below hb
      clear hb
      go_wp2_with (fail)
      refine (KeptPairs_any l _ u _ _ hu (HL.out.below hB) (by omega)).mono ?_
      rintro e w4 ⟨rfl, hb⟩
      replace hB := hB.trans (hb.mono hB.size)
      replace hu := hu.below hb
      clear hb
      go_wp2_with (fail)
      refine (Pack_any l u _ hu.pairs hok hn).mono ?_
      rintro e w5 ⟨rfl, hb⟩
      rw [HA.out]
      replace hB := hB.trans (hb.mono hB.size)
      clear hb hu
      go_wp2_with (fail)
      refine (refPack_any l _ _ (HL.out.below hB) hok hn).mono ?_
      rintro e w6 ⟨rfl, hb⟩
      rw [HR.out]
      replace hB := hB.trans (hb.mono hB.size)
      clear hb
      go_wp2_with (fail)
      refine (HAT.out _ (hg.below hB)).mono ?_
      rintro e w7 ⟨rfl, hb⟩
      replace hB := hB.trans (hb.mono hB.size)
      clear hb
      go_wp2_with (fail)
      refine (HAT.out _ (hg.below hB)).mono ?_
      rintro e w8 ⟨rfl, hb⟩
      replace hB := hB.trans (hb.mono hB.size)
      clear hb
      go_wp2_with (fail)
      refine (works_any _).mono ?_
      rintro e w9 ⟨rfl, hb⟩
      replace hB := hB.trans (hb.mono hB.size)
      go_wp2
      go_ret
      exact ⟨rfl, hB⟩
  · have hd : decide (l.length + sizeL l ≤ 65536) = false := by simpa using hfew
    have HD := Lib.hid hd
    clear hd
    go_enter Tryz.func29, Tryz.ntmps29
    go_wp2_with (fail)
    refine (few_any l _ _ HL.out hok hn).mono ?_
    rintro e w1 ⟨rfl, hb1⟩
    rw [HD.out]
    go_wp2
    go_ret
    exact ⟨rfl, hb1⟩
end Go.Proofs.YtifdibkpaeocfaaGreatDoor
