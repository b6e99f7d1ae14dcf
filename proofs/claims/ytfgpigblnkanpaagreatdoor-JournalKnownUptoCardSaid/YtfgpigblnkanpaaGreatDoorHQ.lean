/- Bits the other way round; the sum by the polynomial as it is written is the sum by the table. Without the program. The walks of the document's Uint, Int and Sum, over this translation. The walk of the document's Sum, over this translation. The walks of the document's ReadUint and ReadInt, over this translation. -/
import Derived.Test.YtfgpigblnkanpaaGreatDoorGC
import Derived.Test.YtfgpigblnkanpaaGreatDoorB
import Derived.Deep.RegionWith
import Derived.Deep.RegionHeld3
import Derived.IntWalk
import Derived.Test.YtfgpigblnkanpaaGreatDoorHA
namespace Go.Proofs.YtfgpigblnkanpaaGreatDoor
open Go.RowKit

/-- The lowest bits of a number, the other way round. -/
def rev : Nat → Nat → Nat
  | 0, _ => 0
  | k + 1, n => 2 * rev k n + n / 2 ^ k % 2
theorem rev_lt (k n : Nat) : rev k n < 2 ^ k := by
  induction k with
  | zero => simp [rev]
  | succ k ih => rw [rev, Nat.pow_succ]; omega
theorem rev_bit (k n : Nat) : ∀ j, (rev k n).testBit j = (decide (j < k) && n.testBit (k - 1 - j)) := by
  induction k with
  | zero => intro j; simp [rev]
  | succ k ih =>
    intro j
    have hb : n / 2 ^ k % 2 < 2 := by omega
    cases j with
    | zero =>
      rw [Nat.testBit_zero]
      have : rev (k + 1) n % 2 = n / 2 ^ k % 2 := by rw [rev]; omega
      rw [this, Nat.testBit_eq_decide_div_mod_eq]
      simp
    | succ j =>
      rw [Nat.testBit_succ]
      have : rev (k + 1) n / 2 = rev k n := by rw [rev]; omega
      rw [this, ih]
      have e : k + 1 - 1 - (j + 1) = k - 1 - j := by omega
      rw [e]
      congr 1
      simp
theorem rev_xor (k a b : Nat) : rev k (a ^^^ b) = rev k a ^^^ rev k b := by
  apply Nat.eq_of_testBit_eq
  intro j
  rw [Nat.testBit_xor, rev_bit, rev_bit, rev_bit, Nat.testBit_xor]
  cases decide (j < k) <;> simp
theorem rev_rev {k n : Nat} (h : n < 2 ^ k) : rev k (rev k n) = n := by
  apply Nat.eq_of_testBit_eq
  intro j
  rw [rev_bit]
  by_cases hj : j < k
  · rw [rev_bit]
    have e : k - 1 - (k - 1 - j) = j := by omega
    rw [e]
    have : k - 1 - j < k := by omega
    simp [hj, this]
  · have : n < 2 ^ j := Nat.lt_of_lt_of_le h (Nat.pow_le_pow_right (by omega) (by omega))
    rw [Nat.testBit_lt_two_pow this]
    simp [hj]
theorem rev_shift {x : Nat} (h : x < 4294967296) : rev 32 (x / 2) = rev 32 x * 2 % 4294967296 := by
  apply Nat.eq_of_testBit_eq
  intro j
  rw [show (4294967296 : Nat) = 2 ^ 32 from rfl, Nat.testBit_mod_two_pow, rev_bit]
  by_cases hj : j < 32
  · cases j with
    | zero =>
      have e1 : (rev 32 x * 2).testBit 0 = false := by rw [Nat.testBit_zero]; simp
      have e2 : (x / 2).testBit (32 - 1 - 0) = false := Nat.testBit_lt_two_pow (by omega)
      rw [e1, e2, Bool.and_false]
    | succ j =>
      have e1 : (rev 32 x * 2).testBit (j + 1) = (rev 32 x).testBit j := by rw [Nat.testBit_succ]; congr 1; omega
      have e2 : (x / 2).testBit (32 - 1 - (j + 1)) = x.testBit (32 - 1 - j) := by rw [← Nat.testBit_succ]; congr 1; try omega
      rw [e1, e2, rev_bit]
      have : j < 32 := by omega
      simp [hj, this]
  · simp [hj]
theorem rev_top {x : Nat} : rev 32 x / 2147483648 = x % 2 := by
  have h1 := rev_lt 32 x
  have h2 := rev_bit 32 x 31
  rw [Nat.testBit_eq_decide_div_mod_eq, Nat.testBit_zero] at h2
  simp only [show (31 : Nat) < 32 from by decide, decide_true, Bool.true_and, decide_eq_decide] at h2
  have e : rev 32 x / 2 ^ 31 < 2 := by omega
  rw [show (2147483648 : Nat) = 2 ^ 31 from rfl]
  by_cases hx : x % 2 = 1
  · have := h2.2 hx; omega
  · have : ¬ rev 32 x / 2 ^ 31 % 2 = 1 := fun h => hx (h2.1 h)
    omega
theorem xor_half (x y : Nat) : (x ^^^ y) / 2 = x / 2 ^^^ y / 2 := by
  apply Nat.eq_of_testBit_eq
  intro j
  rw [← Nat.testBit_succ, Nat.testBit_xor, Nat.testBit_xor, ← Nat.testBit_succ, ← Nat.testBit_succ]
theorem xor_par (x y : Nat) : (x ^^^ y) % 2 = (x + y) % 2 := by
  have h := Nat.testBit_xor x y 0
  rw [Nat.testBit_zero, Nat.testBit_zero, Nat.testBit_zero] at h
  have h1 := Nat.mod_two_eq_zero_or_one (x ^^^ y)
  rcases Nat.mod_two_eq_zero_or_one x with hx | hx <;> rcases Nat.mod_two_eq_zero_or_one y with hy | hy <;> rcases h1 with hz | hz <;> rw [hx, hy, hz] at h <;> first | omega | (exact absurd h (by decide))
theorem crcBit_xor2 (x z : Nat) : crcBit (x ^^^ 2 * z) = crcBit x ^^^ z := by
  unfold crcBit
  rw [xor_half, xor_par]
  have e1 : 2 * z / 2 = z := by omega
  have e2 : (x + 2 * z) % 2 = x % 2 := by omega
  rw [e1, e2, Nat.xor_assoc, Nat.xor_assoc, Nat.xor_comm z]
theorem crcN_high (j : Nat) : ∀ x h, crcN j (x ^^^ h * 2 ^ j) = crcN j x ^^^ h := by
  induction j with
  | zero => intro x h; simp [crcN]
  | succ j ih =>
    intro x h
    have e : h * 2 ^ (j + 1) = 2 * (h * 2 ^ j) := by rw [Nat.pow_succ, ← Nat.mul_assoc, Nat.mul_comm]
    rw [crcN, e, crcBit_xor2, ih]
    rfl
theorem split_low (c b : Nat) : c ^^^ b = ((c % 256) ^^^ b) ^^^ (c / 256) * 2 ^ 8 := by
  have h : c = (c % 256) ^^^ (c / 256) * 2 ^ 8 := by
    apply Nat.eq_of_testBit_eq
    intro j
    rw [Nat.testBit_xor, show (256 : Nat) = 2 ^ 8 from rfl, Nat.testBit_mod_two_pow, Nat.testBit_mul_two_pow, Nat.testBit_div_two_pow]
    by_cases hj : j < 8
    · have : ¬ 8 ≤ j := by omega
      simp [hj, this]
    · have h8 : 8 ≤ j := by omega
      have e : j - 8 + 8 = j := by omega
      simp [hj, h8, e]
  conv => lhs; rw [h]
  rw [Nat.xor_assoc, Nat.xor_assoc, Nat.xor_comm _ b]
/-- A byte's step is eight steps of a bit. -/
theorem crcStep_bits (c : Nat) (b : UInt8) : crcStep c b = crcN 8 (c ^^^ b.toNat) := by
  rw [split_low c b.toNat, crcN_high, crcStep, Nat.xor_comm]

/-- A step that takes one bit of a byte. -/
def crcIn (x b : Nat) : Nat := (x / 2) ^^^ (if (x + b) % 2 = 1 then 2197175160 else 0)
theorem crcIn_lt {x b : Nat} (h : x < 4294967296) : crcIn x b < 4294967296 := by
  unfold crcIn
  split
  · exact Nat.xor_lt_two_pow (n := 32) (by omega) (by omega)
  · rw [Nat.xor_zero]; omega
theorem crcIn_xor (x y : Nat) : crcBit (x ^^^ y) = crcIn x y ^^^ y / 2 := by
  unfold crcBit crcIn
  rw [xor_half, xor_par, Nat.xor_assoc, Nat.xor_assoc, Nat.xor_comm (y / 2)]
/-- The steps of the first bits of a byte. -/
def crcIns (c b : Nat) : Nat → Nat
  | 0 => c
  | j + 1 => crcIn (crcIns c b j) (b / 2 ^ j)
theorem crcIns_lt {c b : Nat} (h : c < 4294967296) (j : Nat) : crcIns c b j < 4294967296 := by
  induction j with
  | zero => exact h
  | succ j ih => exact crcIn_lt ih
theorem crcIns_N (c b j : Nat) : crcN j (c ^^^ b) = crcIns c b j ^^^ b / 2 ^ j := by
  induction j with
  | zero => simp [crcN, crcIns]
  | succ j ih => rw [crcN_succ, ih, crcIn_xor, crcIns, Nat.div_div_eq_div_mul, Nat.pow_succ]
theorem crcIns_8 (c : Nat) (b : UInt8) : crcIns c b.toNat 8 = crcStep c b := by
  have h := b.toNat_lt
  rw [crcStep_bits, crcIns_N]
  have : b.toNat / 2 ^ 8 = 0 := by omega
  rw [this, Nat.xor_zero]
/-- The reference's step, the other way round. -/
theorem rev_in {x b : Nat} (h : x < 4294967296) : rev 32 (crcIn x b) = (rev 32 x * 2 % 4294967296) ^^^ (if (x + b) % 2 = 1 then 517762881 else 0) := by
  unfold crcIn
  rw [rev_xor, rev_shift h]
  congr 1
  split
  · decide
  · decide
end Go.Proofs.YtfgpigblnkanpaaGreatDoor

namespace Go.Proofs.YtfgpigblnkanpaaGreatDoor
open Go.RowKit

theorem below_undrew' {B : Nat} {w w' : World} (h : Below B w.drew w') : Below B w w' := ⟨h.os, h.tape, h.output, h.size, h.block⟩

set_option maxRecDepth 100000 in
theorem refUint_any (n : Nat) : ∀ w : World, n < 18446744073709551616 → Calls Tryz.prog 161 #[.int .u64 n] w fun e w' => e = .returned (strV (uintL n)) ∧ Below w.heap.size w w' := by
  induction n using Nat.strongRecOn with
  | ind n ih =>
    intro w hn
    by_cases h : n < 128
    · have hcv : (convert 140 9 (.slice (some ⟨w.heap.size, 0, none⟩) 1 1)).run Tryz.prog (w.alloc (.cells #[.int .u8 n] 5)) = .ok (strV (uintL n)) (w.alloc (.cells #[.int .u8 n] 5)) := by
        refine conv_bytes (Blk.new w [.int .u8 (n : Int)] 5) Tryz.underlying140 Tryz.underlying5 Tryz.underlying9 (uintL n) [] _ _ ?_ ?_
        · rw [uintL_lt h]; rfl
        · rw [uintL_lt h, byteV_small (by omega)]; rfl
      go_enter Tryz.func161, Tryz.ntmps161
      go_wp2
      go_ret
      exact ⟨rfl, (Below.refl _ _).alloc (Nat.le_refl _) _⟩
    · have hrec := fun w => ih (n / 128) (by omega) w (by omega)
      have hlen := uintL_len (n := n / 128) (by omega)
      have hq : IntKind.u64.wrap ((n : Int) / 128) = ((n / 128 : Nat) : Int) := by rw [u64_in (by omega) (by omega)]; omega
      obtain ⟨c, hc⟩ : ∃ c : UInt8, c = (n % 128 + 128).toUInt8 := ⟨_, rfl⟩
      obtain ⟨R, hR⟩ : ∃ R, R = uintL (n / 128) := ⟨_, rfl⟩
      rw [← hR] at hrec hlen
      have ha : uintL n = c :: R := by rw [uintL_ge h, hc, hR]
      obtain ⟨X, hX, hXv⟩ : ∃ X : Int, IntKind.u8.wrap (IntKind.u8.wrap ((n : Int).tmod 128) + 128) = X ∧ Value.int .u8 X = byteV c := by
        refine ⟨_, rfl, ?_⟩
        rw [byteV, hc, toUInt8_toNat_lt (by omega)]
        refine int_eq ?_
        rw [Int.tmod_eq_emod_of_nonneg (by omega), IntKind.wrap_u8, IntKind.wrap_u8]
        omega
      have cvB : ∀ w1 b, Blk w1 b [.int .u8 X] 5 → (convert 140 9 (.slice (some ⟨b, 0, none⟩) 1 1)).run Tryz.prog w1 = .ok (.string (str [c])) w1 := by
        intro w1 b hb
        refine conv_bytes hb Tryz.underlying140 Tryz.underlying5 Tryz.underlying9 [c] [] _ _ rfl ?_
        rw [hXv]; rfl
      have cv1 : ∀ w1 : World, (convert 140 9 (.slice (some ⟨w1.heap.size, 0, none⟩) 1 1)).run Tryz.prog (w1.alloc (.cells #[.int .u8 X] 5)) = .ok (.string (str [c])) (w1.alloc (.cells #[.int .u8 X] 5)) := fun w1 => cvB _ _ (Blk.new w1 [_] _)
      have cv2 : ∀ w1 : World, (convert 140 9 (.slice (some ⟨w1.heap.size, 0, none⟩) 1 1)).run Tryz.prog (w1.alloc (.cells #[.int .u8 X] 5)).drew = .ok (.string (str [c])) (w1.alloc (.cells #[.int .u8 X] 5)).drew := fun w1 => cvB _ _ (Blk.new w1 [_] _).drew
      have hadd : ∀ w1, (Op.stringOp .add (str [c]) (str R)).run Tryz.prog w1 = .ok (.string (str (c :: R))) w1 := by
        intro w1
        have e1 : (str [c]).size = 1 := rfl
        have e2 := str_size R
        have e3 : ¬ (((str [c]).size + (str R).size : Nat) : Int) > IntKind.i64.max := by rw [e1, e2]; show ¬ _ > (9223372036854775807 : Int); omega
        simp only [Op.stringOp]
        rw [if_neg e3, str_append]
        rfl
      rw [ha]
      have HB := Lib.hid cvB
      have HN := Lib.hid hc
      have HM := Lib.hid hR
      have HO := Lib.hid ha
      clear cvB hc hR ha hXv hlen
      go_enter Tryz.func161, Tryz.ntmps161
      go_wp2_with (fail)
      go_region_with (go_at_call 161; refine (hrec _).mono ?_; rintro e w1 ⟨rfl, hb1⟩; first | (have cv3 := HB.out w1 w.heap.size (Blk.below (Blk.drew (Blk.new w [.int .u8 X] 5)) hb1 (by simp))) | skip)
      all_goals
        go_wp2
        go_ret
        refine ⟨rfl, ?_⟩
        first
          | exact (below_undrew' hb1).alloc hb1.size _
          | exact ((Below.refl w.heap.size w).alloc (Nat.le_refl _) _).trans ((below_undrew' hb1).mono (by simp))

end Go.Proofs.YtfgpigblnkanpaaGreatDoor

namespace Go.Proofs.YtfgpigblnkanpaaGreatDoor
open Go.RowKit

theorem bit_walk {n k : Nat} (hn : n < 4294967296) : bits .and .u32 ((n : Int) / 2 ^ k) 1 = ((n / 2 ^ k % 2 : Nat) : Int) := by
  have e : (n : Int) / 2 ^ k = ((n / 2 ^ k : Nat) : Int) := by push_cast; rfl
  have h := u32_and_nat (n / 2 ^ k) 1 (Nat.lt_of_le_of_lt (Nat.div_le_self _ _) hn) (by omega)
  rw [Nat.and_one_is_mod] at h
  rw [e]; exact h
theorem turn_step {n k bs : Nat} (hn : n < 4294967296) (hk : k < bs) (hb : bs ≤ 32) : bits .or .u32 ((rev k n * 2 ^ (bs - k) : Nat) : Int) (bits .and .u32 ((n : Int) / 2 ^ k) 1 * 2 ^ (bs - 1 - k) % 4294967296) = ((rev (k + 1) n * 2 ^ (bs - (k + 1)) : Nat) : Int) := by
  have hr := rev_lt k n
  have e1 : bs - (k + 1) = bs - 1 - k := by omega
  have e2 : bs - k = (bs - 1 - k) + 1 := by omega
  obtain ⟨m, hm⟩ : ∃ m, m = bs - 1 - k := ⟨_, rfl⟩
  rw [e1, e2, ← hm, bit_walk hn]
  have hmk : 2 ^ k * 2 ^ (m + 1) ≤ 2 ^ 32 := by rw [← Nat.pow_add]; exact Nat.pow_le_pow_right (by omega) (by omega)
  have hq : n / 2 ^ k % 2 < 2 := by omega
  have hm1 : 2 ^ m ≤ 2 ^ 31 := Nat.pow_le_pow_right (by omega) (by omega)
  obtain ⟨q, hqq⟩ : ∃ q, q = n / 2 ^ k % 2 := ⟨_, rfl⟩
  rw [rev, ← hqq]
  rw [← hqq] at hq
  have hqm : q * 2 ^ m < 2 ^ (m + 1) := by
    rw [Nat.pow_succ, Nat.mul_comm]
    exact Nat.mul_lt_mul_of_pos_left hq (Nat.two_pow_pos m)
  have hrm : rev k n * 2 ^ (m + 1) < 2 ^ 32 := Nat.lt_of_lt_of_le (Nat.mul_lt_mul_of_pos_right hr (Nat.two_pow_pos _)) hmk
  have hqs : q * 2 ^ m < 4294967296 := Nat.lt_of_lt_of_le hqm (show 2 ^ (m + 1) ≤ 2 ^ 32 from Nat.pow_le_pow_right (by omega) (by omega))
  have e3 : ((q : Nat) : Int) * 2 ^ m % 4294967296 = ((q * 2 ^ m : Nat) : Int) := by
    have e4 : ((q : Nat) : Int) * 2 ^ m = ((q * 2 ^ m : Nat) : Int) := by push_cast; rfl
    rw [e4]
    generalize q * 2 ^ m = z at hqs
    omega
  rw [e3, u32_or_nat _ _ hrm hqs]
  have h := Nat.shiftLeft_add_eq_or_of_lt (b := q * 2 ^ m) (i := m + 1) hqm (rev k n)
  rw [Nat.shiftLeft_eq] at h
  rw [← h, Nat.add_mul, Nat.pow_succ, Nat.mul_comm 2 (rev k n), Nat.mul_assoc, Nat.mul_comm (2 ^ m) 2]

set_option maxRecDepth 100000 in
theorem refturned_any (n bits : Nat) (w : World) (hn : n < 4294967296) (hb : bits ≤ 32) : Calls Tryz.prog 182 #[.int .u32 n, .int .i64 bits] w fun e w' => e = .returned (.int .u32 (rev bits n : Nat)) ∧ w = w' := by
  go_enter Tryz.func182, Tryz.ntmps182
  go_wp2
  go_loop [5, 6] (fun o i => ∃ k : Nat, i = .int .i64 k ∧ k ≤ bits ∧ o = .int .u32 (rev k n * 2 ^ (bits - k) : Nat)) (fun _ i => bits - (intOf i).toNat)
  case atStart => exact ⟨0, rfl, by omega, by simp [rev]⟩
  case round =>
    obtain ⟨k, rfl, hk, rfl⟩ := hrel
    by_cases hlt : k < bits
    · obtain ⟨o, ho⟩ : ∃ o, Hid (o = rev k n * 2 ^ (bits - k)) := ⟨_, rfl⟩
      rw [← ho.out]
      go_wp2
      go_round
      case rel => exact ⟨k + 1, by go_num, by omega, int_eq (by rw [ho.out]; exact turn_step hn hlt hb)⟩
      case measure => simp [intOf]; omega
    · have hk' : k = bits := by omega
      subst hk'
      go_wp2
      go_ret
      exact ⟨by simp, rfl⟩

theorem in_bit (b : UInt8) {j : Nat} (hj : j < 8) : rev 8 b.toNat / 2 ^ (7 - j) % 2 = b.toNat / 2 ^ j % 2 := by
  have h := rev_bit 8 b.toNat (7 - j)
  have e : 8 - 1 - (7 - j) = j := by omega
  rw [e, Nat.testBit_eq_decide_div_mod_eq, Nat.testBit_eq_decide_div_mod_eq] at h
  have hd : decide (7 - j < 8) = true := by simp; omega
  rw [hd, Bool.true_and, decide_eq_decide] at h
  by_cases hx : b.toNat / 2 ^ j % 2 = 1
  · rw [h.2 hx, hx]
  · have : ¬ rev 8 b.toNat / 2 ^ (7 - j) % 2 = 1 := fun hh => hx (h.1 hh)
    omega
theorem top_walk {x : Nat} {b : UInt8} {j : Nat} (hj : j < 8) : bits .xor .u32 ((rev 32 x : Nat) / 2147483648) (bits .and .u32 ((rev 8 b.toNat : Nat) / 2 ^ (7 - j)) 1) = (((x + b.toNat / 2 ^ j) % 2 : Nat) : Int) := by
  have h8 := rev_lt 8 b.toNat
  have e1 : ((rev 32 x : Nat) : Int) / 2147483648 = ((x % 2 : Nat) : Int) := by rw [← rev_top]; omega
  rw [bit_walk (by omega), in_bit b hj, e1, u32_xor_nat _ _ (by omega) (by omega)]
  have h2 : ∀ p q : Nat, p < 2 → q < 2 → p ^^^ q = (p + q) % 2 := by
    intro p q hp hq
    match p, q, hp, hq with
    | 0, 0, _, _ => rfl
    | 0, 1, _, _ => rfl
    | 1, 0, _, _ => rfl
    | 1, 1, _, _ => rfl
  rw [h2 _ _ (by omega) (by omega)]
  omega
theorem in_walk1 {x b : Nat} (hx : x < 4294967296) (h : (x + b) % 2 = 1) : bits .xor .u32 ((rev 32 x : Nat) * 2 % 4294967296) 517762881 = ((rev 32 (crcIn x b) : Nat) : Int) := by
  rw [rev_in hx, if_pos h]
  have e : ((rev 32 x : Nat) : Int) * 2 % 4294967296 = ((rev 32 x * 2 % 4294967296 : Nat) : Int) := by omega
  rw [e]
  exact u32_xor_nat _ 517762881 (by omega) (by omega)
theorem in_walk0 {x b : Nat} (hx : x < 4294967296) (h : ¬ (x + b) % 2 = 1) : ((rev 32 x : Nat) : Int) * 2 % 4294967296 = ((rev 32 (crcIn x b) : Nat) : Int) := by
  rw [rev_in hx, if_neg h, Nat.xor_zero]
  omega
theorem take_fold {l : List UInt8} {k : Nat} {b : UInt8} (c : Nat) (h : l[k]? = some b) : crcFold c (l.take (k + 1)) = crcStep (crcFold c (l.take k)) b := by
  obtain ⟨hk, e⟩ := List.getElem?_eq_some_iff.1 h
  rw [List.take_succ_eq_append_getElem hk, e, crcFold, List.foldl_append]
  rfl

set_option maxHeartbeats 1000000 in
set_option maxRecDepth 100000 in
theorem refSum_any (l : List UInt8) (w : World) (hs : l.length ≤ 9223372036854775807) : Calls Tryz.prog 162 #[.string (str l)] w fun e w' => e = .returned (.int .u32 (crc l : Nat)) ∧ w = w' := by
  have e1 := str_size l
  go_enter Tryz.func162, Tryz.ntmps162
  go_wp2
  go_loop [3, 4] (fun c i => ∃ k : Nat, i = .int .i64 k ∧ k ≤ l.length ∧ c = .int .u32 (rev 32 (crcFold 4294967295 (l.take k)) : Nat)) (fun _ i => l.length - (intOf i).toNat)
  case atStart => exact ⟨0, rfl, by omega, by rw [List.take_zero]; show Value.int .u32 4294967295 = Value.int .u32 ((rev 32 4294967295 : Nat) : Int); rw [show rev 32 4294967295 = 4294967295 from by decide]; rfl⟩
  case round =>
    obtain ⟨k, rfl, hk, rfl⟩ := hrel
    have hxl := crcFold_lt (c := 4294967295) (l.take k) (by omega)
    by_cases hlt : k < l.length
    · obtain ⟨b, hb⟩ : ∃ b, l[k]? = some b := ⟨_, List.getElem?_eq_getElem hlt⟩
      have hidx := fun w' => run_index_at (P := Tryz.prog) w' 9 (str l) (k : Int) k Tryz.underlying9 (by rw [e1]; exact hlt) rfl
      have hbe : (str l)[k]'(by rw [e1]; exact hlt) = b := by
        obtain ⟨_, e⟩ := List.getElem?_eq_some_iff.1 hb
        exact e
      rw [hbe] at hidx
      have hf := take_fold 4294967295 hb
      generalize crcFold 4294967295 (l.take k) = x at *
      have HF := Lib.hid hf
      have HB := Lib.hid hb
      have HE := Lib.hid hbe
      clear hf hb hbe
      have hb8 := b.toNat_lt
      have hbm : ((b.toNat : Nat) : Int) % 4294967296 = b.toNat := by omega
      go_wp2_with (fail)
      refine (refturned_any b.toNat 8 _ (by omega) (by omega)).mono ?_
      rintro e w1 ⟨rfl, rfl⟩
      go_wp2
      go_loop [3, 6] (fun c kk => ∃ j : Nat, kk = .int .i64 (7 - (j : Int)) ∧ j ≤ 8 ∧ c = .int .u32 (rev 32 (crcIns x b.toNat j) : Nat)) (fun _ kk => (intOf kk + 1).toNat)
      case atStart => exact ⟨0, rfl, by omega, rfl⟩
      case round =>
        obtain ⟨j, rfl, hj, rfl⟩ := hrel
        have hyl := crcIns_lt (b := b.toNat) hxl j
        by_cases hj8 : j < 8
        · have hkk : (7 - (j : Int)) = ((7 - j : Nat) : Int) := by omega
          have htop := top_walk (x := crcIns x b.toNat j) (b := b) hj8
          have hnx : crcIns x b.toNat (j + 1) = crcIn (crcIns x b.toNat j) (b.toNat / 2 ^ j) := rfl
          have h1 := in_walk1 (b := b.toNat / 2 ^ j) hyl
          have h0 := in_walk0 (b := b.toNat / 2 ^ j) hyl
          rw [← hnx] at h1 h0
          generalize hyy : crcIns x b.toNat (j + 1) = y' at *
          have HY := Lib.hid hyy
          clear hyy
          generalize crcIns x b.toNat j = y at *
          obtain ⟨q, hq⟩ : ∃ q, q = 7 - j := ⟨_, rfl⟩
          rw [hkk, ← hq]
          rw [← hq] at htop
          have hq7 : q ≤ 7 := by omega
          have HQ := Lib.hid hq
          by_cases hp : (y + b.toNat / 2 ^ j) % 2 = 1
          · have g := h1 hp
            rw [hp] at htop
            have G := Lib.hid g
            clear h1 h0 hp g hnx hkk hq
            go_wp2
            go_round
            case rel => exact ⟨j + 1, by refine int_eq ?_; have := HQ.out; omega, by omega, by rw [HY.out]; exact int_eq G.out⟩
            case measure => simp [intOf]
          · have g := h0 hp
            have hp0 : (y + b.toNat / 2 ^ j) % 2 = 0 := by omega
            rw [hp0] at htop
            have G := Lib.hid g
            clear h1 h0 hp g hnx hkk hq hp0
            go_wp2
            go_round
            case rel => exact ⟨j + 1, by refine int_eq ?_; have := HQ.out; omega, by omega, by rw [HY.out]; exact int_eq G.out⟩
            case measure => simp [intOf]
        · have hj' : j = 8 := by omega
          subst hj'
          rw [crcIns_8] at hyl ⊢
          generalize crcStep x b = z at *
          go_wp2
          go_round
          case rel => exact ⟨k + 1, by go_num, by omega, by rw [HF.out]⟩
          case measure => simp [intOf]; omega
    · have hk' : k = l.length := by omega
      subst hk'
      rw [List.take_length] at hxl ⊢
      have hr := rev_lt 32 (crcFold 4294967295 l)
      have hrr := rev_rev (k := 32) hxl
      have hc : crc l = 4294967295 - crcFold 4294967295 l := rfl
      generalize crcFold 4294967295 l = x at *
      have HR := Lib.hid hrr
      have HC := Lib.hid hc
      clear hrr hc
      go_wp2_with (fail)
      refine (refturned_any (rev 32 x) 32 _ hr (by omega)).mono ?_
      rintro e w1 ⟨rfl, rfl⟩
      rw [HR.out]
      go_wp2
      go_ret
      refine ⟨congrArg Ending.returned (int_eq ?_), rfl⟩
      rw [HC.out]
      have h := u32_xor_nat x 4294967295 hxl (by omega)
      rw [Nat.xor_comm, xor_ones32 hxl] at h
      exact h
end Go.Proofs.YtfgpigblnkanpaaGreatDoor

namespace Go.Proofs.YtfgpigblnkanpaaGreatDoor
open Go.RowKit

set_option maxRecDepth 100000 in
theorem refReadUint_out (s : ByteArray) (k : Int) (w : World) (h : k < 0 ∨ (s.size : Int) < k) : Calls Tryz.prog 191 #[.string s, .int .i64 k] w fun e w' => e = .returned (.tuple #[.int .u64 0, .int .i64 0, .int .i64 1]) ∧ w = w' := by
  rcases h with h | h
  all_goals
    go_enter Tryz.func191, Tryz.ntmps191
    go_wp2
    all_goals (go_ret3; exact ⟨rfl, rfl⟩)

theorem or_more_127 {acc b k : Nat} (ha : acc < 128 ^ k) (hb : b < 128) (hf : b * 128 ^ k < 18446744073709551616) (hk : k ≤ 9) : bits .or .u64 (acc : Int) (IntKind.u64.wrap (IntKind.u64.wrap (bits .and .u8 (b : Int) 127) * 2 ^ (7 * k))) = ((acc + b * 128 ^ k : Nat) : Int) := by
  have e1 : bits .and .u8 (b : Int) 127 = (b : Int) := by
    rw [u8_and127 (b : Int) (by omega) (by omega)]; omega
  rw [e1, u64_in (x := (b : Int)) (by omega) (by omega)]
  exact or_more_wrap ha hf hk

set_option maxHeartbeats 1000000 in
set_option maxRecDepth 100000 in
theorem refReadUint_in (s : ByteArray) (p : Nat) (w : World) (h : p ≤ s.size) (hs : s.size ≤ 4611686018427387904) : Calls Tryz.prog 191 #[.string s, .int .i64 p] w fun e w' => e = .returned (.tuple #[.int .u64 (readU 0 0 (s.data.toList.drop p)).1, .int .i64 (readU 0 0 (s.data.toList.drop p)).2.1, .int .i64 (readU 0 0 (s.data.toList.drop p)).2.2]) ∧ w = w' := by
  go_enter Tryz.func191, Tryz.ntmps191
  go_wp2
  go_loop [7, 8] (fun n i => ∃ acc k : Nat, n = .int .u64 acc ∧ i = .int .i64 k ∧ k ≤ 9 ∧ p + k ≤ s.size ∧ Hid (acc < 128 ^ k) ∧ Hid (readU k acc (s.data.toList.drop (p + k)) = readU 0 0 (s.data.toList.drop p))) (fun _ i => 10 - (intOf i).toNat)
  case atStart => exact ⟨0, 0, rfl, rfl, by omega, h, (by decide : 0 < 128 ^ 0), rfl⟩
  case round =>
    obtain ⟨acc, k, rfl, rfl, hk, hks, HA, HR⟩ := hrel
    by_cases hlt : p + k < s.size
    · obtain ⟨b, HB⟩ : ∃ b : UInt8, Hid (b = s[p + k]) := ⟨s[p + k], (rfl : s[p + k] = s[p + k])⟩
      have E := drop_byte hlt
      have hb256 : b.toNat < 256 := b.toNat_lt
      rw [← HB.out] at E
      have HE := Lib.hid E
      clear E
      have hix : ∀ w', (Instr.index 9 (.string s) (.int .i64 (↑p + ↑k))).run Tryz.prog w' = .ok (.int .u8 b.toNat) w' := by
        intro w'
        rw [HB.out]
        exact run_index_at w' _ s _ _ Tryz.underlying9 hlt (by omega)
      by_cases hbad : k = 9 ∧ 1 < b.toNat
      · obtain ⟨hk9, hb1⟩ := hbad
        have hr := readU_bad (acc := acc) (r := s.data.toList.drop (p + k + 1)) (Or.inl ⟨hk9, hb1⟩)
        have HR2 := Lib.hid hr
        clear hr
        have hk9b : ((k : Int) == 9) = true := by simp; omega
        have HK := Lib.hid hk9
        clear hk9
        go_wp2
        go_ret3
        rw [← HR.out, HE.out, HR2.out]
        exact ⟨rfl, rfl⟩
      · by_cases h128 : b.toNat < 128
        · by_cases hz : 0 < k ∧ b.toNat = 0
          · obtain ⟨hk0, hb0⟩ := hz
            have hr := readU_bad (acc := acc) (r := s.data.toList.drop (p + k + 1)) (Or.inr ⟨hk0, hb0⟩)
            have HR2 := Lib.hid hr
            clear hr
            have hbz : ((b.toNat : Int) == 0) = true := by simp; omega
            rw [hb0] at hix hbz h128 hb256
            go_wp2
            all_goals
              go_ret3
              rw [← HR.out, HE.out, HR2.out]
              exact ⟨rfl, rfl⟩
          · have hr := readU_end (acc := acc) (r := s.data.toList.drop (p + k + 1)) (w := k) (b := b) (by omega) h128
            have hf := fits9 hk h128 (fun e => by omega)
            have hval := or_more_127 HA.out h128 hf hk
            have HV := Lib.hid hval
            have HR2 := Lib.hid hr
            clear hr hval
            by_cases hk9 : k = 9
            · have hb1 : b.toNat = 1 := by omega
              subst hk9
              have hix9 : ∀ w', (Instr.index 9 (.string s) (.int .i64 ((p : Int) + 9))).run Tryz.prog w' = .ok (.int .u8 1) w' := fun w' => by
                have := hix w'
                rw [hb1] at this
                exact this
              clear hix hbad hz h128 hf hb256
              go_wp2
              go_ret3
              refine ⟨?_, rfl⟩
              rw [← HR.out, HE.out, HR2.out]
              exact ret3 (int_eq (by rw [← HV.out, hb1]; rfl)) rfl rfl
            · have hk9b : ((k : Int) == 9) = false := by simp; omega
              by_cases hb0 : b.toNat = 0
              · have hk0 : k = 0 := by omega
                subst hk0
                have hix0 : ∀ w', (Instr.index 9 (.string s) (.int .i64 (p : Int))).run Tryz.prog w' = .ok (.int .u8 0) w' := fun w' => by
                  have := hix w'
                  rw [hb0] at this
                  simpa using this
                have ha0 : acc = 0 := by have := HA.out; simpa using this
                subst ha0
                clear hix hbad hz h128 hf hb256
                go_wp2
                go_ret3
                refine ⟨?_, rfl⟩
                rw [← HR.out, HE.out, HR2.out]
                exact ret3 (int_eq (by rw [hb0]; rfl)) rfl rfl
              · have hbz : ((b.toNat : Int) == 0) = false := by simp; omega
                have HBAD := Lib.hid hbad
                have HZ := Lib.hid hz
                clear hbad hz hf
                go_wp2
                go_ret3
                refine ⟨?_, rfl⟩
                rw [← HR.out, HE.out, HR2.out]
                exact ret3 (int_eq HV.out) rfl rfl
        · have hk9 : k < 9 := by omega
          have hk9b : ((k : Int) == 9) = false := by simp; omega
          go_wp2
          all_goals
            go_round
            case rel => exact ⟨acc + b.toNat % 128 * 128 ^ k, k + 1, int_eq (or_more_low HA.out hb256 hk9), by go_num, by omega, by omega, acc_more HA.out, by show _ = _; rw [← HR.out, HE.out, readU_more (by omega) h128]; rfl⟩
            case measure => simp [intOf]; omega
    · go_wp2
      go_ret3
      have E : s.data.toList.drop (p + k) = [] := List.drop_eq_nil_of_le (by simpa using hlt)
      rw [← HR.out, E]
      exact ⟨rfl, rfl⟩

end Go.Proofs.YtfgpigblnkanpaaGreatDoor
