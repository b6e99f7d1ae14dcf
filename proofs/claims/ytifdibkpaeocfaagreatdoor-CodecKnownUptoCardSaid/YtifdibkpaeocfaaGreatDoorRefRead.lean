/- The walks of the document's ReadUint and ReadInt, over this translation. -/
import Derived.Test.YtifdibkpaeocfaaGreatDoorUnp
import Derived.Test.YtifdibkpaeocfaaGreatDoorB
namespace Go.Proofs.YtifdibkpaeocfaaGreatDoor
open Go.RowKit

set_option maxRecDepth 100000 in
theorem refReadUint_out (s : ByteArray) (k : Int) (w : World) (h : k < 0 ∨ (s.size : Int) < k) : Calls Tryz.prog 74 #[.string s, .int .i64 k] w fun e w' => e = .returned (.tuple #[.int .u64 0, .int .i64 0, .int .i64 1]) ∧ w = w' := by
  rcases h with h | h
  all_goals
    go_enter Tryz.func74, Tryz.ntmps74
    go_wp2
    all_goals (go_ret3; exact ⟨rfl, rfl⟩)

theorem or_more_127 {acc b k : Nat} (ha : acc < 128 ^ k) (hb : b < 128) (hf : b * 128 ^ k < 18446744073709551616) (hk : k ≤ 9) : bits .or .u64 (acc : Int) (IntKind.u64.wrap (IntKind.u64.wrap (bits .and .u8 (b : Int) 127) * 2 ^ (7 * k))) = ((acc + b * 128 ^ k : Nat) : Int) := by
  have e1 : bits .and .u8 (b : Int) 127 = (b : Int) := by
    rw [u8_and127 (b : Int) (by omega) (by omega)]; omega
  rw [e1, u64_in (x := (b : Int)) (by omega) (by omega)]
  exact or_more_wrap ha hf hk

set_option maxHeartbeats 1000000 in
set_option maxRecDepth 100000 in
theorem refReadUint_in (s : ByteArray) (p : Nat) (w : World) (h : p ≤ s.size) (hs : s.size ≤ 4611686018427387904) : Calls Tryz.prog 74 #[.string s, .int .i64 p] w fun e w' => e = .returned (.tuple #[.int .u64 (readU 0 0 (s.data.toList.drop p)).1, .int .i64 (readU 0 0 (s.data.toList.drop p)).2.1, .int .i64 (readU 0 0 (s.data.toList.drop p)).2.2]) ∧ w = w' := by
  go_enter Tryz.func74, Tryz.ntmps74
  go_wp2
  go_loop [7, 8] (fun n i => ∃ acc k : Nat, n = .int .u64 acc ∧ i = .int .i64 k ∧ k ≤ 9 ∧ p + k ≤ s.size ∧ Hid (acc < 128 ^ k) ∧ Hid (readU k acc (s.data.toList.drop (p + k)) = readU 0 0 (s.data.toList.drop p))) (fun _ i => 10 - (intOf i).toNat)
  case atStart => exact ⟨0, 0, rfl, rfl, by omega, h, (by decide : 0 < 128 ^ 0), rfl⟩
  case round =>
    obtain ⟨acc, k, rfl, rfl, hk, hks, HA, HR⟩ := hrel
    by_cases hlt : p + k < s.size
    · obtain ⟨b, HB⟩ : ∃ b : UInt8, Hid (b = s[p + k]) := ⟨s[p + k], (rfl : s[p + k] = s[p + k])⟩
      have E := drop_byte hlt
      have hb256 : b.toNat < 256 := b.toNat_lt
      rw [← HB.out] at E
      have HE := Lib.hid E
      clear E
      have hix : ∀ w', (Instr.index 9 (.string s) (.int .i64 (↑p + ↑k))).run Tryz.prog w' = .ok (.int .u8 b.toNat) w' := by
        intro w'
        rw [HB.out]
        exact run_index_at w' _ s _ _ Tryz.underlying9 hlt (by omega)
      by_cases hbad : k = 9 ∧ 1 < b.toNat
      · obtain ⟨hk9, hb1⟩ := hbad
        have hr := readU_bad (acc := acc) (r := s.data.toList.drop (p + k + 1)) (Or.inl ⟨hk9, hb1⟩)
        have HR2 := Lib.hid hr
        clear hr
        have hk9b : ((k : Int) == 9) = true := by simp; omega
        have HK := Lib.hid hk9
        clear hk9
        go_wp2
        go_ret3
        rw [← HR.out, HE.out, HR2.out]
        exact ⟨rfl, rfl⟩
      · by_cases h128 : b.toNat < 128
        · by_cases hz : 0 < k ∧ b.toNat = 0
          · obtain ⟨hk0, hb0⟩ := hz
            have hr := readU_bad (acc := acc) (r := s.data.toList.drop (p + k + 1)) (Or.inr ⟨hk0, hb0⟩)
            have HR2 := Lib.hid hr
            clear hr
            have hbz : ((b.toNat : Int) == 0) = true := by simp; omega
            rw [hb0] at hix hbz h128 hb256
            go_wp2
            all_goals
              go_ret3
              rw [← HR.out, HE.out, HR2.out]
              exact ⟨rfl, rfl⟩
          · have hr := readU_end (acc := acc) (r := s.data.toList.drop (p + k + 1)) (w := k) (b := b) (by omega) h128
            have hf := fits9 hk h128 (fun e => by omega)
            have hval := or_more_127 HA.out h128 hf hk
            have HV := Lib.hid hval
            have HR2 := Lib.hid hr
            clear hr hval
            by_cases hk9 : k = 9
            · have hb1 : b.toNat = 1 := by omega
              subst hk9
              have hix9 : ∀ w', (Instr.index 9 (.string s) (.int .i64 ((p : Int) + 9))).run Tryz.prog w' = .ok (.int .u8 1) w' := fun w' => by
                have := hix w'
                rw [hb1] at this
                exact this
              clear hix hbad hz h128 hf hb256
              go_wp2
              go_ret3
              refine ⟨?_, rfl⟩
              rw [← HR.out, HE.out, HR2.out]
              exact ret3 (int_eq (by rw [← HV.out, hb1]; rfl)) rfl rfl
            · have hk9b : ((k : Int) == 9) = false := by simp; omega
              by_cases hb0 : b.toNat = 0
              · have hk0 : k = 0 := by omega
                subst hk0
                have hix0 : ∀ w', (Instr.index 9 (.string s) (.int .i64 (p : Int))).run Tryz.prog w' = .ok (.int .u8 0) w' := fun w' => by
                  have := hix w'
                  rw [hb0] at this
                  simpa using this
                have ha0 : acc = 0 := by have := HA.out; simpa using this
                subst ha0
                clear hix hbad hz h128 hf hb256
                go_wp2
                go_ret3
                refine ⟨?_, rfl⟩
                rw [← HR.out, HE.out, HR2.out]
                exact ret3 (int_eq (by rw [hb0]; rfl)) rfl rfl
              · have hbz : ((b.toNat : Int) == 0) = false := by simp; omega
                have HBAD := Lib.hid hbad
                have HZ := Lib.hid hz
                clear hbad hz hf
                go_wp2
                go_ret3
                refine ⟨?_, rfl⟩
                rw [← HR.out, HE.out, HR2.out]
                exact ret3 (int_eq HV.out) rfl rfl
        · have hk9 : k < 9 := by omega
          have hk9b : ((k : Int) == 9) = false := by simp; omega
          go_wp2
          all_goals
            go_round
            case rel => exact ⟨acc + b.toNat % 128 * 128 ^ k, k + 1, int_eq (or_more_low HA.out hb256 hk9), by go_num, by omega, by omega, acc_more HA.out, by show _ = _; rw [← HR.out, HE.out, readU_more (by omega) h128]; rfl⟩
            case measure => simp [intOf]; omega
    · go_wp2
      go_ret3
      have E : s.data.toList.drop (p + k) = [] := List.drop_eq_nil_of_le (by simpa using hlt)
      rw [← HR.out, E]
      exact ⟨rfl, rfl⟩

set_option maxRecDepth 100000 in
theorem refReadInt_bad (s : ByteArray) (p : Int) (n x no : Nat) (w : World) (hno : no ≠ 0) (hc : Hid (∀ w, Calls Tryz.prog 74 #[.string s, .int .i64 p] w fun e w' => e = .returned (.tuple #[.int .u64 n, .int .i64 x, .int .i64 no]) ∧ w = w')) : Calls Tryz.prog 75 #[.string s, .int .i64 p] w fun e w' => e = .returned (.tuple #[.int .i64 0, .int .i64 0, .int .i64 no]) ∧ w = w' := by
  have hne : ((no : Int) == 0) = false := by simp; omega
  have hne2 : ((no : Int) != 0) = true := by simp; omega
  go_enter Tryz.func75, Tryz.ntmps75
  go_wp2_with fail
  refine (hc.out _).mono ?_
  rintro e w1 ⟨rfl, rfl⟩
  go_wp2
  go_ret3
  exact ⟨rfl, rfl⟩
set_option maxRecDepth 100000 in
theorem refReadInt_ok (s : ByteArray) (p : Int) (n x : Nat) (w : World) (hn : n < 18446744073709551616) (hc : Hid (∀ w, Calls Tryz.prog 74 #[.string s, .int .i64 p] w fun e w' => e = .returned (.tuple #[.int .u64 n, .int .i64 x, .int .i64 0]) ∧ w = w')) : Calls Tryz.prog 75 #[.string s, .int .i64 p] w fun e w' => e = .returned (.tuple #[.int .i64 (zag n), .int .i64 x, .int .i64 0]) ∧ w = w' := by
  by_cases he : n % 2 = 0
  · have hz : zag n = (n : Int) / 2 := by rw [zag, if_pos he]; omega
    have HZ := Lib.hid hz
    have hm : ((n : Int).tmod 2 == 0) = true := by rw [Int.tmod_eq_emod_of_nonneg (by omega)]; simp; omega
    clear hz
    go_enter Tryz.func75, Tryz.ntmps75
    go_wp2_with fail
    refine (hc.out _).mono ?_
    rintro e w1 ⟨rfl, rfl⟩
    go_wp2
    go_ret3
    exact ⟨ret3 (int_eq (by rw [HZ.out])) rfl rfl, rfl⟩
  · have hz : zag n = -((n : Int) / 2) - 1 := by rw [zag, if_neg he]; omega
    have HZ := Lib.hid hz
    have hm : ((n : Int).tmod 2 == 0) = false := by rw [Int.tmod_eq_emod_of_nonneg (by omega)]; simp; omega
    clear hz
    go_enter Tryz.func75, Tryz.ntmps75
    go_wp2_with fail
    refine (hc.out _).mono ?_
    rintro e w1 ⟨rfl, rfl⟩
    go_wp2
    go_ret3
    exact ⟨ret3 (int_eq (by rw [HZ.out])) rfl rfl, rfl⟩
end Go.Proofs.YtifdibkpaeocfaaGreatDoor
