/- The walks of the document's shared and four, over this translation. -/
import Derived.Test.YtifdibkpaeocfaaGreatDoorB2
import Derived.Test.YtifdibkpaeocfaaGreatDoorStr
namespace Go.Proofs.YtifdibkpaeocfaaGreatDoor
open Go.RowKit

set_option maxHeartbeats 1000000 in
set_option maxRecDepth 100000 in
theorem refshared_any (a b : ByteArray) (w : World) (ha : a.size ≤ 9223372036854775807) (hb : b.size ≤ 9223372036854775807) : Calls Tryz.prog 37 #[.string a, .string b] w fun e w' => e = .returned (.int .i64 (cpl a.data.toList b.data.toList : Nat)) ∧ Below w.heap.size w w' := by
  go_enter Tryz.func37, Tryz.ntmps37
  go_wp2
  go_loopw [5] (fun i wr => ∃ k : Nat, i = .int .i64 k ∧ k ≤ a.size ∧ k ≤ b.size ∧ Hid (∀ i, i < k → a.data.toList[i]? = b.data.toList[i]?) ∧ Below w.heap.size w wr) (fun i _ => a.size - (intOf i).toNat)
  case atStart => exact ⟨0, rfl, by omega, by omega, fun i hi => by omega, Below.refl _ _⟩
  case round =>
    obtain ⟨k, rfl, hka, hkb, hx, hbel⟩ := hrel
    have hfull : ¬ (k < a.size ∧ k < b.size) → (k : Int) = (cpl a.data.toList b.data.toList : Nat) := fun hlt => by
      have e := cpl_full (l := a.data.toList) (m := b.data.toList) (k := k) (by simpa using hka) (by simpa using hkb) hx.out (by simp only [Array.length_toList, ByteArray.size_data]; omega)
      rw [e]
    have HF := Lib.hid hfull
    clear hfull
    by_cases hlt1 : k < a.size
    · have i0 : (0 : Int) ≤ k := by omega
      have i1 : (k : Int) < a.size := by omega
      have dd1 : decide ((k : Int) < a.size) = true := by simpa using i1
      by_cases hlt2 : k < b.size
      · have i2 : (k : Int) < b.size := by omega
        have dd2 : decide ((k : Int) < b.size) = true := by simpa using i2
        obtain ⟨x, HX⟩ : ∃ x : UInt8, Hid (x = a[k]) := ⟨a[k], (rfl : a[k] = a[k])⟩
        obtain ⟨y, HY⟩ : ∃ x : UInt8, Hid (x = b[k]) := ⟨b[k], (rfl : b[k] = b[k])⟩
        have hixa : ∀ w', (Instr.index 9 (.string a) (.int .i64 ↑k)).run Tryz.prog w' = .ok (.int .u8 x.toNat) w' := by
          intro w'
          rw [HX.out]
          exact run_index_at w' _ a _ _ Tryz.underlying9 hlt1 rfl
        have hixb : ∀ w', (Instr.index 9 (.string b) (.int .i64 ↑k)).run Tryz.prog w' = .ok (.int .u8 y.toNat) w' := by
          intro w'
          rw [HY.out]
          exact run_index_at w' _ b _ _ Tryz.underlying9 hlt2 rfl
        by_cases hxy : x = y
        · have ht : ((x.toNat : Int) == y.toNat) = true := by rw [hxy]; simp
          have HE := Lib.hid hxy
          clear hxy
          go_wp2_with (fail)
          go_quiet (fail)
          go_wp2
          go_roundw
          case rel => exact ⟨k + 1, by go_num, by omega, by omega, fun i hi => by
            by_cases e : i = k
            · subst e
              have hl1 : a.data.toList[i]? = some x := by rw [HX.out, List.getElem?_eq_getElem (by simpa using hlt1)]; rfl
              have hl2 : b.data.toList[i]? = some y := by rw [HY.out, List.getElem?_eq_getElem (by simpa using hlt2)]; rfl
              rw [hl1, hl2, HE.out]
            · exact hx.out i (by omega), below_drewN hbel _⟩
          case measure => simp [intOf]; omega
        · have ht : ((x.toNat : Int) == y.toNat) = false := by
            rw [beq_eq_false_iff_ne]; intro h; exact hxy (UInt8.toNat_inj.1 (by omega))
          have HE := Lib.hid hxy
          clear hxy
          go_wp2_with (fail)
          go_quiet (fail)
          go_wp2
          go_ret
          refine ⟨congrArg Ending.returned (int_eq ?_), below_drewN hbel _⟩
          rw [cpl_diff (k := k) (by simpa using hlt1) (by simpa using hlt2) hx.out (by
            have h1 := HX.out
            have h2 := HY.out
            have h3 := HE.out
            rw [h1, h2] at h3
            exact h3)]
      · have i2 : (b.size : Int) ≤ k := by omega
        have dd2 : decide ((k : Int) < b.size) = false := by simp; omega
        go_wp2_with (fail)
        go_quiet (fail)
        go_wp2
        go_ret
        exact ⟨congrArg Ending.returned (int_eq (HF.out (by omega))), below_drewN hbel _⟩
    · have i1 : (a.size : Int) ≤ k := by omega
      have dd1 : decide ((k : Int) < a.size) = false := by simp; omega
      go_wp2_with (fail)
      go_quiet (fail)
      go_wp2
      go_ret
      exact ⟨congrArg Ending.returned (int_eq (HF.out (by omega))), below_drewN hbel _⟩

def fourL (c : Nat) : List UInt8 := [c.toUInt8, (c / 256).toUInt8, (c / 65536).toUInt8, (c / 16777216).toUInt8]
set_option maxRecDepth 100000 in
theorem reffour_any (c : Nat) (w : World) : Calls Tryz.prog 33 #[.int .u32 c] w fun e w' => e = .returned (strV (fourL c)) ∧ Below w.heap.size w w' := by
  have hcv : (convert 26 9 (.slice (some ⟨w.heap.size, 0, none⟩) 4 4)).run Tryz.prog (w.alloc (.cells #[Value.int .u8 ((c : Int) % 256), Value.int .u8 ((c : Int) / 256 % 256), Value.int .u8 ((c : Int) / 65536 % 256), Value.int .u8 ((c : Int) / 16777216 % 256)] 5)) = .ok (strV (fourL c)) (w.alloc (.cells #[Value.int .u8 ((c : Int) % 256), Value.int .u8 ((c : Int) / 256 % 256), Value.int .u8 ((c : Int) / 65536 % 256), Value.int .u8 ((c : Int) / 16777216 % 256)] 5)) := by
    refine conv_bytes (Blk.new w [_, _, _, _] 5) Tryz.underlying26 Tryz.underlying5 Tryz.underlying9 (fourL c) [] 4 4 rfl ?_
    rw [four_cells, fourL, List.append_nil]
  go_enter Tryz.func33, Tryz.ntmps33
  go_wp2
  go_ret
  exact ⟨rfl, (Below.refl _ _).alloc (Nat.le_refl _) _⟩
end Go.Proofs.YtifdibkpaeocfaaGreatDoor
