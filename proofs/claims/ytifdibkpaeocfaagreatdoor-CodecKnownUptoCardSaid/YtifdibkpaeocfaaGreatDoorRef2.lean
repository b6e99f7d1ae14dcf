/- The walk of the document's Sum, over this translation. -/
import Derived.Test.YtifdibkpaeocfaaGreatDoorRef
namespace Go.Proofs.YtifdibkpaeocfaaGreatDoor
open Go.RowKit

theorem bit_walk {n k : Nat} (hn : n < 4294967296) : bits .and .u32 ((n : Int) / 2 ^ k) 1 = ((n / 2 ^ k % 2 : Nat) : Int) := by
  have e : (n : Int) / 2 ^ k = ((n / 2 ^ k : Nat) : Int) := by push_cast; rfl
  have h := u32_and_nat (n / 2 ^ k) 1 (Nat.lt_of_le_of_lt (Nat.div_le_self _ _) hn) (by omega)
  rw [Nat.and_one_is_mod] at h
  rw [e]; exact h
theorem turn_step {n k bs : Nat} (hn : n < 4294967296) (hk : k < bs) (hb : bs ≤ 32) : bits .or .u32 ((rev k n * 2 ^ (bs - k) : Nat) : Int) (bits .and .u32 ((n : Int) / 2 ^ k) 1 * 2 ^ (bs - 1 - k) % 4294967296) = ((rev (k + 1) n * 2 ^ (bs - (k + 1)) : Nat) : Int) := by
  have hr := rev_lt k n
  have e1 : bs - (k + 1) = bs - 1 - k := by omega
  have e2 : bs - k = (bs - 1 - k) + 1 := by omega
  obtain ⟨m, hm⟩ : ∃ m, m = bs - 1 - k := ⟨_, rfl⟩
  rw [e1, e2, ← hm, bit_walk hn]
  have hmk : 2 ^ k * 2 ^ (m + 1) ≤ 2 ^ 32 := by rw [← Nat.pow_add]; exact Nat.pow_le_pow_right (by omega) (by omega)
  have hq : n / 2 ^ k % 2 < 2 := by omega
  have hm1 : 2 ^ m ≤ 2 ^ 31 := Nat.pow_le_pow_right (by omega) (by omega)
  obtain ⟨q, hqq⟩ : ∃ q, q = n / 2 ^ k % 2 := ⟨_, rfl⟩
  rw [rev, ← hqq]
  rw [← hqq] at hq
  have hqm : q * 2 ^ m < 2 ^ (m + 1) := by
    rw [Nat.pow_succ, Nat.mul_comm]
    exact Nat.mul_lt_mul_of_pos_left hq (Nat.two_pow_pos m)
  have hrm : rev k n * 2 ^ (m + 1) < 2 ^ 32 := Nat.lt_of_lt_of_le (Nat.mul_lt_mul_of_pos_right hr (Nat.two_pow_pos _)) hmk
  have hqs : q * 2 ^ m < 4294967296 := Nat.lt_of_lt_of_le hqm (show 2 ^ (m + 1) ≤ 2 ^ 32 from Nat.pow_le_pow_right (by omega) (by omega))
  have e3 : ((q : Nat) : Int) * 2 ^ m % 4294967296 = ((q * 2 ^ m : Nat) : Int) := by
    have e4 : ((q : Nat) : Int) * 2 ^ m = ((q * 2 ^ m : Nat) : Int) := by push_cast; rfl
    rw [e4]
    generalize q * 2 ^ m = z at hqs
    omega
  rw [e3, u32_or_nat _ _ hrm hqs]
  have h := Nat.shiftLeft_add_eq_or_of_lt (b := q * 2 ^ m) (i := m + 1) hqm (rev k n)
  rw [Nat.shiftLeft_eq] at h
  rw [← h, Nat.add_mul, Nat.pow_succ, Nat.mul_comm 2 (rev k n), Nat.mul_assoc, Nat.mul_comm (2 ^ m) 2]

set_option maxRecDepth 100000 in
theorem turned_any (n bits : Nat) (w : World) (hn : n < 4294967296) (hb : bits ≤ 32) : Calls Tryz.prog 12 #[.int .u32 n, .int .i64 bits] w fun e w' => e = .returned (.int .u32 (rev bits n : Nat)) ∧ w = w' := by
  go_enter Tryz.func12, Tryz.ntmps12
  go_wp2
  go_loop [5, 6] (fun o i => ∃ k : Nat, i = .int .i64 k ∧ k ≤ bits ∧ o = .int .u32 (rev k n * 2 ^ (bits - k) : Nat)) (fun _ i => bits - (intOf i).toNat)
  case atStart => exact ⟨0, rfl, by omega, by simp [rev]⟩
  case round =>
    obtain ⟨k, rfl, hk, rfl⟩ := hrel
    by_cases hlt : k < bits
    · obtain ⟨o, ho⟩ : ∃ o, Hid (o = rev k n * 2 ^ (bits - k)) := ⟨_, rfl⟩
      rw [← ho.out]
      go_wp2
      go_round
      case rel => exact ⟨k + 1, by go_num, by omega, int_eq (by rw [ho.out]; exact turn_step hn hlt hb)⟩
      case measure => simp [intOf]; omega
    · have hk' : k = bits := by omega
      subst hk'
      go_wp2
      go_ret
      exact ⟨by simp, rfl⟩

theorem in_bit (b : UInt8) {j : Nat} (hj : j < 8) : rev 8 b.toNat / 2 ^ (7 - j) % 2 = b.toNat / 2 ^ j % 2 := by
  have h := rev_bit 8 b.toNat (7 - j)
  have e : 8 - 1 - (7 - j) = j := by omega
  rw [e, Nat.testBit_eq_decide_div_mod_eq, Nat.testBit_eq_decide_div_mod_eq] at h
  have hd : decide (7 - j < 8) = true := by simp; omega
  rw [hd, Bool.true_and, decide_eq_decide] at h
  by_cases hx : b.toNat / 2 ^ j % 2 = 1
  · rw [h.2 hx, hx]
  · have : ¬ rev 8 b.toNat / 2 ^ (7 - j) % 2 = 1 := fun hh => hx (h.1 hh)
    omega
theorem top_walk {x : Nat} {b : UInt8} {j : Nat} (hj : j < 8) : bits .xor .u32 ((rev 32 x : Nat) / 2147483648) (bits .and .u32 ((rev 8 b.toNat : Nat) / 2 ^ (7 - j)) 1) = (((x + b.toNat / 2 ^ j) % 2 : Nat) : Int) := by
  have h8 := rev_lt 8 b.toNat
  have e1 : ((rev 32 x : Nat) : Int) / 2147483648 = ((x % 2 : Nat) : Int) := by rw [← rev_top]; omega
  rw [bit_walk (by omega), in_bit b hj, e1, u32_xor_nat _ _ (by omega) (by omega)]
  have h2 : ∀ p q : Nat, p < 2 → q < 2 → p ^^^ q = (p + q) % 2 := by
    intro p q hp hq
    match p, q, hp, hq with
    | 0, 0, _, _ => rfl
    | 0, 1, _, _ => rfl
    | 1, 0, _, _ => rfl
    | 1, 1, _, _ => rfl
  rw [h2 _ _ (by omega) (by omega)]
  omega
theorem in_walk1 {x b : Nat} (hx : x < 4294967296) (h : (x + b) % 2 = 1) : bits .xor .u32 ((rev 32 x : Nat) * 2 % 4294967296) 517762881 = ((rev 32 (crcIn x b) : Nat) : Int) := by
  rw [rev_in hx, if_pos h]
  have e : ((rev 32 x : Nat) : Int) * 2 % 4294967296 = ((rev 32 x * 2 % 4294967296 : Nat) : Int) := by omega
  rw [e]
  exact u32_xor_nat _ 517762881 (by omega) (by omega)
theorem in_walk0 {x b : Nat} (hx : x < 4294967296) (h : ¬ (x + b) % 2 = 1) : ((rev 32 x : Nat) : Int) * 2 % 4294967296 = ((rev 32 (crcIn x b) : Nat) : Int) := by
  rw [rev_in hx, if_neg h, Nat.xor_zero]
  omega
theorem take_fold {l : List UInt8} {k : Nat} {b : UInt8} (c : Nat) (h : l[k]? = some b) : crcFold c (l.take (k + 1)) = crcStep (crcFold c (l.take k)) b := by
  obtain ⟨hk, e⟩ := List.getElem?_eq_some_iff.1 h
  rw [List.take_succ_eq_append_getElem hk, e, crcFold, List.foldl_append]
  rfl

set_option maxHeartbeats 1000000 in
set_option maxRecDepth 100000 in
theorem refSum_any (l : List UInt8) (w : World) (hs : l.length ≤ 9223372036854775807) : Calls Tryz.prog 5 #[.string (str l)] w fun e w' => e = .returned (.int .u32 (crc l : Nat)) ∧ w = w' := by
  have e1 := str_size l
  go_enter Tryz.func5, Tryz.ntmps5
  go_wp2
  go_loop [3, 4] (fun c i => ∃ k : Nat, i = .int .i64 k ∧ k ≤ l.length ∧ c = .int .u32 (rev 32 (crcFold 4294967295 (l.take k)) : Nat)) (fun _ i => l.length - (intOf i).toNat)
  case atStart => exact ⟨0, rfl, by omega, by rw [List.take_zero]; show Value.int .u32 4294967295 = Value.int .u32 ((rev 32 4294967295 : Nat) : Int); rw [show rev 32 4294967295 = 4294967295 from by decide]; rfl⟩
  case round =>
    obtain ⟨k, rfl, hk, rfl⟩ := hrel
    have hxl := crcFold_lt (c := 4294967295) (l.take k) (by omega)
    by_cases hlt : k < l.length
    · obtain ⟨b, hb⟩ : ∃ b, l[k]? = some b := ⟨_, List.getElem?_eq_getElem hlt⟩
      have hidx := fun w' => run_index_at (P := Tryz.prog) w' 9 (str l) (k : Int) k Tryz.underlying9 (by rw [e1]; exact hlt) rfl
      have hbe : (str l)[k]'(by rw [e1]; exact hlt) = b := by
        obtain ⟨_, e⟩ := List.getElem?_eq_some_iff.1 hb
        exact e
      rw [hbe] at hidx
      have hf := take_fold 4294967295 hb
      generalize crcFold 4294967295 (l.take k) = x at *
      have HF := Lib.hid hf
      have HB := Lib.hid hb
      have HE := Lib.hid hbe
      clear hf hb hbe
      have hb8 := b.toNat_lt
      have hbm : ((b.toNat : Nat) : Int) % 4294967296 = b.toNat := by omega
      go_wp2_with (fail)
      refine (turned_any b.toNat 8 _ (by omega) (by omega)).mono ?_
      rintro e w1 ⟨rfl, rfl⟩
      go_wp2
      go_loop [3, 6] (fun c kk => ∃ j : Nat, kk = .int .i64 (7 - (j : Int)) ∧ j ≤ 8 ∧ c = .int .u32 (rev 32 (crcIns x b.toNat j) : Nat)) (fun _ kk => (intOf kk + 1).toNat)
      case atStart => exact ⟨0, rfl, by omega, rfl⟩
      case round =>
        obtain ⟨j, rfl, hj, rfl⟩ := hrel
        have hyl := crcIns_lt (b := b.toNat) hxl j
        by_cases hj8 : j < 8
        · have hkk : (7 - (j : Int)) = ((7 - j : Nat) : Int) := by omega
          have htop := top_walk (x := crcIns x b.toNat j) (b := b) hj8
          have hnx : crcIns x b.toNat (j + 1) = crcIn (crcIns x b.toNat j) (b.toNat / 2 ^ j) := rfl
          have h1 := in_walk1 (b := b.toNat / 2 ^ j) hyl
          have h0 := in_walk0 (b := b.toNat / 2 ^ j) hyl
          rw [← hnx] at h1 h0
          generalize hyy : crcIns x b.toNat (j + 1) = y' at *
          have HY := Lib.hid hyy
          clear hyy
          generalize crcIns x b.toNat j = y at *
          obtain ⟨q, hq⟩ : ∃ q, q = 7 - j := ⟨_, rfl⟩
          rw [hkk, ← hq]
          rw [← hq] at htop
          have hq7 : q ≤ 7 := by omega
          have HQ := Lib.hid hq
          by_cases hp : (y + b.toNat / 2 ^ j) % 2 = 1
          · have g := h1 hp
            rw [hp] at htop
            have G := Lib.hid g
            clear h1 h0 hp g hnx hkk hq
            go_wp2
            go_round
            case rel => exact ⟨j + 1, by refine int_eq ?_; have := HQ.out; omega, by omega, by rw [HY.out]; exact int_eq G.out⟩
            case measure => simp [intOf]
          · have g := h0 hp
            have hp0 : (y + b.toNat / 2 ^ j) % 2 = 0 := by omega
            rw [hp0] at htop
            have G := Lib.hid g
            clear h1 h0 hp g hnx hkk hq hp0
            go_wp2
            go_round
            case rel => exact ⟨j + 1, by refine int_eq ?_; have := HQ.out; omega, by omega, by rw [HY.out]; exact int_eq G.out⟩
            case measure => simp [intOf]
        · have hj' : j = 8 := by omega
          subst hj'
          rw [crcIns_8] at hyl ⊢
          generalize crcStep x b = z at *
          go_wp2
          go_round
          case rel => exact ⟨k + 1, by go_num, by omega, by rw [HF.out]⟩
          case measure => simp [intOf]; omega
    · have hk' : k = l.length := by omega
      subst hk'
      rw [List.take_length] at hxl ⊢
      have hr := rev_lt 32 (crcFold 4294967295 l)
      have hrr := rev_rev (k := 32) hxl
      have hc : crc l = 4294967295 - crcFold 4294967295 l := rfl
      generalize crcFold 4294967295 l = x at *
      have HR := Lib.hid hrr
      have HC := Lib.hid hc
      clear hrr hc
      go_wp2_with (fail)
      refine (turned_any (rev 32 x) 32 _ hr (by omega)).mono ?_
      rintro e w1 ⟨rfl, rfl⟩
      rw [HR.out]
      go_wp2
      go_ret
      refine ⟨congrArg Ending.returned (int_eq ?_), rfl⟩
      rw [HC.out]
      have h := u32_xor_nat x 4294967295 hxl (by omega)
      rw [Nat.xor_comm, xor_ones32 hxl] at h
      exact h
end Go.Proofs.YtifdibkpaeocfaaGreatDoor
