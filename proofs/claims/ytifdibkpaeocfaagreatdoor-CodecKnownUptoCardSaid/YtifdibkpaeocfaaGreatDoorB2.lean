/- The walks of the codec's shared and tail, over this translation. -/
import Derived.Test.YtifdibkpaeocfaaGreatDoorB
import Derived.Test.YtifdibkpaeocfaaGreatDoorSum
import Derived.Deep.QuietTactic
import Derived.BigQuiet
namespace Go.Proofs.YtifdibkpaeocfaaGreatDoor
open Go.RowKit

set_option maxRecDepth 100000 in
theorem shared_any (a b : ByteArray) (w : World) (ha : a.size ≤ 9223372036854775807) (hb : b.size ≤ 9223372036854775807) : Calls Tryz.prog 68 #[.string a, .string b] w fun e w' => e = .returned (.int .i64 (cpl a.data.toList b.data.toList : Nat)) ∧ Below w.heap.size w w' := by
  rcases Nat.lt_or_ge b.size a.size with hle | hle
  all_goals
    go_enter Tryz.func68, Tryz.ntmps68
    go_wp2
    go_loopw [6, 13] (fun _ i wr => ∃ k : Nat, i = .int .i64 k ∧ k ≤ a.size ∧ k ≤ b.size ∧ Hid (∀ i, i < k → a.data.toList[i]? = b.data.toList[i]?) ∧ Below w.heap.size w wr) (fun _ i _ => a.size - (intOf i).toNat)
    case atStart => exact ⟨0, rfl, by omega, by omega, fun i hi => by omega, Below.refl _ _⟩
    case round =>
      obtain ⟨k, rfl, hka, hkb, hx, hbel⟩ := hrel
      by_cases hlt : k < a.size ∧ k < b.size
      · obtain ⟨hlt1, hlt2⟩ := hlt
        obtain ⟨x, HX⟩ : ∃ x : UInt8, Hid (x = a[k]) := ⟨a[k], (rfl : a[k] = a[k])⟩
        obtain ⟨y, HY⟩ : ∃ x : UInt8, Hid (x = b[k]) := ⟨b[k], (rfl : b[k] = b[k])⟩
        have hixa : ∀ w', (Instr.index 9 (.string a) (.int .i64 ↑k)).run Tryz.prog w' = .ok (.int .u8 x.toNat) w' := by
          intro w'
          rw [HX.out]
          exact run_index_at w' _ a _ _ Tryz.underlying9 hlt1 rfl
        have hixb : ∀ w', (Instr.index 9 (.string b) (.int .i64 ↑k)).run Tryz.prog w' = .ok (.int .u8 y.toNat) w' := by
          intro w'
          rw [HY.out]
          exact run_index_at w' _ b _ _ Tryz.underlying9 hlt2 rfl
        by_cases hxy : x = y
        · have ht : ((x.toNat : Int) != y.toNat) = false := by rw [hxy]; simp
          have HE := Lib.hid hxy
          clear hxy
          go_wp2
          go_quiet (fail)
          go_wp2
          go_roundw
          case rel => exact ⟨k + 1, by go_num, by omega, by omega, fun i hi => by
            by_cases e : i = k
            · subst e
              have hl1 : a.data.toList[i]? = some x := by rw [HX.out, List.getElem?_eq_getElem (by simpa using hlt1)]; rfl
              have hl2 : b.data.toList[i]? = some y := by rw [HY.out, List.getElem?_eq_getElem (by simpa using hlt2)]; rfl
              rw [hl1, hl2, HE.out]
            · exact hx.out i (by omega), below_drewN hbel _⟩
          case measure => simp [intOf]; omega
        · have ht : ((x.toNat : Int) != y.toNat) = true := by
            rw [bne_iff_ne]; intro h; exact hxy (UInt8.toNat_inj.1 (by omega))
          have HE := Lib.hid hxy
          clear hxy
          go_wp2
          go_quiet (fail)
          go_wp2
          go_ret
          refine ⟨congrArg Ending.returned (int_eq ?_), below_drewN hbel _⟩
          rw [cpl_diff (k := k) (by simpa using hlt1) (by simpa using hlt2) hx.out (by
            have h1 := HX.out
            have h2 := HY.out
            have h3 := HE.out
            rw [h1, h2] at h3
            exact h3)]
      · go_wp2
        go_ret
        refine ⟨congrArg Ending.returned (int_eq ?_), hbel⟩
        have e := cpl_full (l := a.data.toList) (m := b.data.toList) (k := k) (by simpa using hka) (by simpa using hkb) hx.out (by simp only [Array.length_toList, ByteArray.size_data]; omega)
        rw [e]; omega

theorem byte_of (c : Nat) : Value.int .u8 ((c : Int) % 256) = byteV c.toUInt8 := by
  simp only [byteV, Nat.toUInt8, UInt8.toNat_ofNat', Value.int.injEq, true_and]
  omega
theorem four_cells (c : Nat) : [Value.int .u8 ((c : Int) % 256), Value.int .u8 ((c : Int) / 256 % 256), Value.int .u8 ((c : Int) / 65536 % 256), Value.int .u8 ((c : Int) / 16777216 % 256)] = [c.toUInt8, (c / 256).toUInt8, (c / 65536).toUInt8, (c / 16777216).toUInt8].map byteV := by
  have e1 : (c : Int) / 256 = ((c / 256 : Nat) : Int) := by omega
  have e2 : (c : Int) / 65536 = ((c / 65536 : Nat) : Int) := by omega
  have e3 : (c : Int) / 16777216 = ((c / 16777216 : Nat) : Int) := by omega
  rw [e1, e2, e3, byte_of, byte_of, byte_of, byte_of]
  rfl
set_option maxRecDepth 100000 in
theorem tail_any (s : ByteArray) (w : World) (hs : s.size ≤ 9223372036854775807) : Calls Tryz.prog 38 #[.string s] w fun e w' => e = .returned (strV (crcTail s.data.toList)) ∧ Below w.heap.size w w' := by
  go_enter Tryz.func38, Tryz.ntmps38
  go_wp2_with fail
  refine (Sum_any _ _ hs).mono ?_
  rintro e w1 ⟨rfl, hb1⟩
  have hsz := hb1.size
  have hcv : ∀ c, c = crc s.data.toList → (convert 26 9 (.slice (some ⟨w1.heap.size, 0, none⟩) 4 4)).run Tryz.prog (w1.alloc (.cells #[Value.int .u8 ((c : Int) % 256), Value.int .u8 ((c : Int) / 256 % 256), Value.int .u8 ((c : Int) / 65536 % 256), Value.int .u8 ((c : Int) / 16777216 % 256)] 5)) = .ok (strV (crcTail s.data.toList)) (w1.alloc (.cells #[Value.int .u8 ((c : Int) % 256), Value.int .u8 ((c : Int) / 256 % 256), Value.int .u8 ((c : Int) / 65536 % 256), Value.int .u8 ((c : Int) / 16777216 % 256)] 5)) := by
    intro c hc
    refine conv_bytes (Blk.new w1 [_, _, _, _] 5) Tryz.underlying26 Tryz.underlying5 Tryz.underlying9 (crcTail s.data.toList) [] 4 4 rfl ?_
    rw [four_cells, crcTail, hc, List.append_nil]
  generalize hcc : crc s.data.toList = c at ⊢
  have hcv := hcv c hcc.symm
  have HC := Lib.hid hcc
  clear hcc
  go_wp2
  go_ret
  exact ⟨rfl, hb1.alloc hsz _⟩
end Go.Proofs.YtifdibkpaeocfaaGreatDoor
