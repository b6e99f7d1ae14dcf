/- The walk of the statements' few: are the pairs and their bytes few enough. -/
import Derived.Test.YtifdibkpaeocfaaGreatDoorPack
import Derived.BigQuiet
import Derived.IntWalk
namespace Go.Proofs.YtifdibkpaeocfaaGreatDoor
open Go.RowKit

set_option maxHeartbeats 1000000 in
set_option maxRecDepth 100000 in
theorem few_any (l : List PairL) (v : Value) (w : World) (hl : PairsAt w v l) (hok : PairsOk l) (hn : l.length * 32 ≤ 140737488351232) : Calls Tryz.prog 76 #[v] w fun e w' => e = .returned (.bool (decide (l.length + sizeL l ≤ 65536))) ∧ Below w.heap.size w w' := by
  obtain ⟨a, cap, rfl, hc⟩ := hl
  have HC := Lib.hid hc
  clear hc
  go_enter Tryz.func76, Tryz.ntmps76
  go_wp2
  go_loopw [3, 4] (fun n i wr => ∃ k : Nat, i = .int .i64 k ∧ k ≤ l.length ∧ n = .int .i64 (l.length + sizeL (l.take k) : Nat) ∧ l.length + sizeL (l.take k) ≤ 1000000000000000 ∧ Below w.heap.size w wr) (fun _ i _ => l.length - (intOf i).toNat)
  case atStart => exact ⟨0, rfl, by omega, by simp [sizeL], by simp [sizeL]; omega, Below.refl _ _⟩
  case round =>
    obtain ⟨k, rfl, hk, rfl, hs, hbel⟩ := hrel
    by_cases hlt : k < l.length
    · by_cases hsm : l.length + sizeL (l.take k) ≤ 65536
      · obtain ⟨p, hp⟩ : ∃ p, l[k]? = some p := ⟨_, List.getElem?_eq_getElem hlt⟩
        obtain ⟨b, off, rfl, h1, h2⟩ := HC.out k p hp
        have hst := sizeL_take hp
        have hbl : b < w.heap.size := World.block_lt_of_cell? w _ h1
        replace h1 := (hbel.cell (p := ⟨b, off + k * 2, none⟩) hbl).trans h1
        replace h2 := (hbel.cell (p := ⟨b, off + k * 2 + 1, none⟩) hbl).trans h2
        obtain ⟨hq1, hq2⟩ := hok p (List.mem_of_getElem? hp)
        obtain ⟨x, hx⟩ : ∃ x, x = l.length + sizeL (l.take k) := ⟨_, rfl⟩
        rw [← hx] at hsm hs ⊢
        have hst2 : l.length + sizeL (l.take (k + 1)) = x + (p.1.length + p.2.length) := by omega
        have HST := Lib.hid hst2
        have HP := Lib.hid hp
        have HX := Lib.hid hx
        clear hst hst2 hp hx
        generalize hp1 : p.1 = pk at *
        generalize hp2 : p.2 = pv at *
        clear hp1 hp2
        have e1 := str_size pk
        have e2 := str_size pv
        go_wp2_with (fail)
        have a1 : IntKind.i64.wrap ((x : Int) + pk.length) = (x : Int) + pk.length := IntWalk.i64_in _ (by omega)
        have a2 : IntKind.i64.wrap ((x : Int) + pk.length + pv.length) = (x : Int) + pk.length + pv.length := IntWalk.i64_in _ (by omega)
        have a3 : (0 : Int) ≤ k := by omega
        have a4 : (k : Int) < l.length := by omega
        go_quiet (fail)
        go_wp2
        go_roundw
        case rel => exact ⟨k + 1, by go_num, by omega, by rw [HST.out]; refine int_eq ?_; omega, by rw [HST.out]; omega, below_drewN hbel _⟩
        case measure => simp [intOf]; omega
      · have hd : ¬ l.length + sizeL l ≤ 65536 := by have := sizeL_take_le l k; omega
        have hD : decide (l.length + sizeL l ≤ 65536) = false := by simp; omega
        have HD := Lib.hid hD
        obtain ⟨x, hx⟩ : ∃ x, x = l.length + sizeL (l.take k) := ⟨_, rfl⟩
        rw [← hx] at hsm hs ⊢
        clear hd hD hx
        go_wp2
        go_ret
        refine ⟨congrArg Ending.returned ?_, hbel⟩
        rw [HD.out]
        first | rfl | (refine congrArg Value.bool ?_; simp; omega)
    · have hk2 : l.take k = l := List.take_of_length_le (by omega)
      rw [hk2] at hs ⊢
      obtain ⟨x, hx⟩ : ∃ x, x = l.length + sizeL l := ⟨_, rfl⟩
      rw [← hx] at hs ⊢
      have HX := Lib.hid hx
      clear hx hk2
      go_wp2
      go_ret
      refine ⟨congrArg Ending.returned (congrArg Value.bool ?_), hbel⟩
      rw [← HX.out, decide_eq_decide]
      omega
end Go.Proofs.YtifdibkpaeocfaaGreatDoor
