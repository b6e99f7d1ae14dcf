/- The walks of the codec's numbers: Uint, Int, ReadUint, ReadInt, over this translation. -/
import Derived.Test.YtfgpigblnkanpaaGreatDoorProg
import Derived.Test.YtfgpigblnkanpaaGreatDoorA
import Derived.Deep.QuietTactic
import Derived.BigQuiet
namespace Go.Proofs.YtfgpigblnkanpaaGreatDoor
open Go.RowKit

set_option maxRecDepth 100000 in
theorem Uint_any (n : Nat) (w : World) (h : Hid (n < 18446744073709551616)) : Calls Tryz.prog 102 #[.int .u64 n] w fun e w' => e = .returned (strV (uintL n)) ∧ Below w.heap.size w w' := by
  have harr : Tryz.prog.arrayLen 185 = 10 := by kernel_rfl
  go_enter Tryz.func102, Tryz.ntmps102
  go_wp2
  go_loopw [0, 4] (fun x i wr => ∃ (pre : List UInt8) (rest : List Value) (m : Nat), x = .int .u64 m ∧ i = .int .i64 pre.length ∧ Hid (pre ++ uintL m = uintL n) ∧ Hid (pre.length + rest.length = 10) ∧ Blk wr w.heap.size (pre.map byteV ++ rest) 185 ∧ Below w.heap.size w wr) (fun x _ _ => (intOf x).toNat)
  case atStart => exact ⟨[], List.replicate 10 (.int .u8 0), n, rfl, rfl, rfl, (rfl : 0 + 10 = 10), Blk.new _ _ _, (Below.refl _ _).alloc (Nat.le_refl _) _⟩
  case round =>
    obtain ⟨pre, rest, m, rfl, rfl, HP, hl, hb, hbel⟩ := hrel
    have hfr := hb.free pre.length
    have hpl : pre.length ≤ 9 := by
      have h1 := congrArg List.length HP.out
      have h2 := uintL_len h.out
      have h3 := uintL_pos m
      simp at h1; omega
    obtain ⟨v0, rest, rfl⟩ : ∃ v0 r, rest = v0 :: r := by
      cases rest with
      | nil => have := hl.out; simp at this; omega
      | cons v r => exact ⟨v, r, rfl⟩
    have hcl : wr.cell? ⟨w.heap.size, pre.length, none⟩ = some v0 := by rw [hb.cell]; simp
    by_cases hc : m < 128
    · have hsl : ∀ w', (Instr.sliceAt 185 (.pointer (some ⟨w.heap.size, 0, none⟩)) none (some (.int .i64 (↑pre.length+1))) (some (.int .i64 (↑pre.length+1)))).run Tryz.prog w' = .ok (.slice (some ⟨w.heap.size, 0, none⟩) (pre.length+1) (pre.length+1)) w' := by
        intro w'
        rw [run_sliceAt_array_hm w' 185 ⟨w.heap.size, 0, none⟩ Tryz.underlying185 .i64 .i64 _ _ (by omega) (by omega) (by rw [harr]; omega)]
        have e1 : ((pre.length : Int) + 1).toNat = pre.length + 1 := by omega
        have hsz : (sizeOf (Tryz.prog.elem 185)).run Tryz.prog w' = .ok 1 w' := by kernel_rfl
        rw [hsz]
        simp [Result.andThen, slicedAt, e1, Addr.add]
      have hcv : (convert 140 9 (.slice (some ⟨w.heap.size, 0, none⟩) (pre.length+1) (pre.length+1))).run Tryz.prog (wr.setCell ⟨w.heap.size, pre.length, none⟩ (.int .u8 m)) = .ok (strV (uintL n)) (wr.setCell ⟨w.heap.size, pre.length, none⟩ (.int .u8 m)) := by
        have hb2 := hb.set pre.length (.int .u8 m)
        refine conv_bytes hb2 Tryz.underlying140 Tryz.underlying5 Tryz.underlying9 (uintL n) rest _ _ ?_ ?_
        · rw [← HP.out, uintL_lt hc]; simp
        · rw [← HP.out, uintL_lt hc, byteV_small (by omega)]; simp
      go_wp2
      go_ret
      exact ⟨rfl, hbel.setCell (Nat.le_refl _) _⟩
    · go_wp2
      go_roundw
      case rel => exact ⟨pre ++ [(m % 128 + 128).toUInt8], rest, m / 128, by go_num, by simp, by show _ = _; rw [← HP.out, uintL_ge hc]; simp, by have := hl.out; show _ = _; simp at this ⊢; omega, by
          have := hb.set pre.length (byteV (m % 128 + 128).toUInt8)
          rw [byteV_or]
          simpa using this, hbel.setCell (Nat.le_refl _) _⟩
      case measure => simp [intOf]; omega

set_option maxRecDepth 100000 in
theorem ReadUint_out (s : ByteArray) (k : Int) (w : World) (h : k < 0 ∨ (s.size : Int) < k) : Calls Tryz.prog 179 #[.string s, .int .i64 k] w fun e w' => e = .returned (.tuple #[.int .u64 0, .int .i64 0, .iface 102 (.int .i64 1)]) ∧ w = w' := by
  rcases h with h | h
  all_goals
    go_enter Tryz.func179, Tryz.ntmps179
    go_wp2
    all_goals (go_ret3; exact ⟨rfl, rfl⟩)
def errV (n : Nat) : Value := if n = 0 then .nilIface else .iface 102 (.int .i64 n)
theorem errV_some {n : Nat} (h : n ≠ 0) : errV n = .iface 102 (.int .i64 n) := by rw [errV, if_neg h]
theorem errV_none : errV 0 = .nilIface := rfl
set_option maxHeartbeats 1000000 in
set_option maxRecDepth 100000 in
theorem ReadUint_in (s : ByteArray) (p : Nat) (w : World) (h : p ≤ s.size) (hs : s.size ≤ 9223372036854775807) : Calls Tryz.prog 179 #[.string s, .int .i64 p] w fun e w' => e = .returned (.tuple #[.int .u64 (readU 0 0 (s.data.toList.drop p)).1, .int .i64 (readU 0 0 (s.data.toList.drop p)).2.1, errV (readU 0 0 (s.data.toList.drop p)).2.2]) ∧ w = w' := by
  go_enter Tryz.func179, Tryz.ntmps179
  go_wp2
  go_loop [7, 8] (fun n i => ∃ acc k : Nat, n = .int .u64 acc ∧ i = .int .i64 ((p + k : Nat) : Int) ∧ k ≤ 9 ∧ p + k ≤ s.size ∧ Hid (acc < 128 ^ k) ∧ Hid (readU k acc (s.data.toList.drop (p + k)) = readU 0 0 (s.data.toList.drop p))) (fun _ i => s.size - (intOf i).toNat)
  case atStart => exact ⟨0, 0, rfl, rfl, by omega, h, (by decide : 0 < 128 ^ 0), rfl⟩
  case round =>
    obtain ⟨acc, k, rfl, rfl, hk, hks, HA, HR⟩ := hrel
    by_cases hlt : p + k < s.size
    · obtain ⟨b, HB⟩ : ∃ b : UInt8, Hid (b = s[p + k]) := ⟨s[p + k], (rfl : s[p + k] = s[p + k])⟩
      have E := drop_byte hlt
      have hb256 : b.toNat < 256 := b.toNat_lt
      rw [← HB.out] at E
      have HE := Lib.hid E
      clear E
      have hix : ∀ w', (Instr.index 9 (.string s) (.int .i64 (↑p + ↑k))).run Tryz.prog w' = .ok (.int .u8 b.toNat) w' := by
        intro w'
        rw [HB.out]
        exact run_index_at w' _ s _ _ Tryz.underlying9 hlt (by omega)
      by_cases hbad : k = 9 ∧ 1 < b.toNat ∨ 0 < k ∧ b.toNat = 0
      · go_wp2
        all_goals (go_ret3; rw [← HR.out, HE.out, readU_bad hbad]; exact ⟨rfl, rfl⟩)
      · by_cases h128 : b.toNat < 128
        · have hf := fits9 hk h128 (fun e => by omega)
          by_cases hk9 : k = 9
          · have hk9b : (((p : Int) + k - p) == 9) = true := by simp; omega
            have HK := Lib.hid hk9
            clear hk9
            go_wp2
            all_goals first
              | (exfalso; have := HK.out; simp at *; omega)
              | (go_ret3; refine ⟨?_, rfl⟩; rw [← HR.out, HE.out, readU_end hbad h128]; exact ret3 (int_eq (or_more_wrap HA.out hf hk)) (int_eq (by show _ = ((k + 1 : Nat) : Int); omega)) rfl)
          · have hk9b : (((p : Int) + k - p) == 9) = false := by simp; omega
            have HK := Lib.hid hk9
            clear hk9
            go_wp2
            all_goals first
              | (exfalso; have := HK.out; simp at *; omega)
              | (go_ret3; refine ⟨?_, rfl⟩; rw [← HR.out, HE.out, readU_end hbad h128]; exact ret3 (int_eq (or_more_wrap HA.out hf hk)) (int_eq (by show _ = ((k + 1 : Nat) : Int); omega)) rfl)
        · have hk9 : k < 9 := by omega
          have hk9b : (((p : Int) + k - p) == 9) = false := by simp; omega
          go_wp2
          all_goals
            go_round
            case rel => exact ⟨_, _, _, _, _, ⟨acc + b.toNat % 128 * 128 ^ k, int_eq (or_more_low HA.out hb256 hk9), k + 1, int_eq (by omega), by omega, by omega, acc_more HA.out, by show _ = _; rw [← HR.out, HE.out, readU_more hbad h128]; rfl⟩, rfl, rfl, rfl, rfl, rfl⟩
            case measure => simp [intOf]; omega
    · go_wp2
      go_ret3
      have E : s.data.toList.drop (p + k) = [] := List.drop_eq_nil_of_le (by simpa using hlt)
      rw [← HR.out, E]
      exact ⟨rfl, rfl⟩

theorem Uint_of (x : Int) (n : Nat) (w : World) (hx : Hid (x = n)) (h : Hid (n < 18446744073709551616)) : Calls Tryz.prog 102 #[.int .u64 x] w fun e w' => e = .returned (strV (uintL n)) ∧ Below w.heap.size w w' := by
  obtain rfl := hx.out
  exact Uint_any n w h
end Go.Proofs.YtfgpigblnkanpaaGreatDoor
